/- Part 28 of what the laws' proofs rest on. No condition. -/
import Derived.Test.YtebcngelgdpbjaaGreatGq27
set_option linter.all false
namespace Go.Proofs.YtebcngelgdpbjaaGreat
section
set_option maxRecDepth 100000
set_option maxHeartbeats 4000000
noncomputable def zMf:List AV->List AB->Option (AV×List AB)
 | [.m id],h=>some (keyF (h.length+0),h++[.blk false true [.m id]])
 | _,_=>none
theorem q2k:Spec Tryz.prog 89 zMf:=by
 intro args h v h' e
 unfold zMf at e
 split at e
 ·rename_i id
  cases e
  refine FnAt.c (FnAt.run (by kernel_rfl) (T:=⟨[],[]⟩) ⟨trivial,trivial⟩ Tryz.func89 sw89 fun ho hh=>?_)
  have c1:(AV.m id).cells=[.m id]:=rfl
  have o1:(AV.m id).one=true:=rfl
  unfold w89
  simp only[QhU,YqB,z16,Xq6,if_true,if_false,reduceIte,Nat.reduceAdd,Nat.reduceSub,Nat.reduceLeDiff,Nat.reduceEqDiff,Nat.reduceMul,Nat.reduceLT,Int.reduceLT,Int.reduceLE,Int.reduceEq,c1,o1]
  exact Bt.wk1 (Wk.refl _)
 ·cases e
theorem Zds {M M':List (Int×Int)} {m m':Bool} (e:mpB dotK m (ksM M)=mpB dotK m' (ksM M')):M=M':=by
 refine JT1 ?_
 unfold mtB mpB at *
 simp only[AB.mo.injEq,true_and]at e ⊢
 exact e.2
open Classical in
noncomputable def Zrb:List AV->List AB->Option (AV×List AB)
 | [.f (.func f) [] [.p j 0],.f (.func g) [] []],h=>if c:(f=148/\g=90)/\∃M:List (Int×Int),M.length<=100000/\∃mid m,ZMh h j=some [.m mid]/\h[mid]?=some (mpB dotK m (ksM M)) then some (apS dotR h.length (srtD c.2.choose),h++[resB dotR true (srtD c.2.choose)]) else none
 | _,_=>none
theorem JFT (M:List (Int×Int)):Zob (ksM M)=srtD M:=by
 unfold Zob ksM
 rw[List.map_map]
 congr 1
 exact List.map_id _
theorem JbK:Spec Tryz.prog 88 Zrb:=by
 intro args h v h' e
 unfold Zrb at e
 split at e
 ·rename_i f j g
  split at e
  ·rename_i c
   obtain ⟨⟨rfl,rfl⟩,hM⟩:=c
   obtain ⟨h1,mid,m,h2,h3⟩:=hM.choose_spec
   generalize hM.choose=M at *
   cases e
   have:=Yey h2 h3 (by unfold ksM;rw[List.length_map];exact h1)
   rw[JFT]at this
   exact this.c
  ·cases e
 ·cases e
theorem XWU {h:List AB} {j mid:Nat} {m:Bool} {M:List (Int×Int)} (h1:M.length<=100000) (h2:ZMh h j=some [.m mid]) (h3:h[mid]?=some (mpB dotK m (ksM M))):Zrb [keyF j,.f (.func 90) [] []] h=some (apS dotR h.length (srtD M),h++[resB dotR true (srtD M)]):=by
 have c:((148:Nat)=148/\(90:Nat)=90)/\∃M:List (Int×Int),M.length<=100000/\∃mid m,ZMh h j=some [.m mid]/\h[mid]?=some (mpB dotK m (ksM M)):=⟨⟨rfl,rfl⟩,M,h1,mid,m,h2,h3⟩
 rw[Zrb,dif_pos c]
 obtain ⟨_,mid',m',e2,e3⟩:=c.2.choose_spec
 rw[h2]at e2
 cases e2
 have q:=Zds (Option.some.inj (h3.symm.trans e3))
 exact congrArg (fun M=>some (apS dotR h.length (srtD M),h++[resB dotR true (srtD M)])) q.symm
theorem J6S {p n:Nat} {sel:List Nat} (M:List (Int×Int)):BWk (fun i=>decide (i<p+n)) (selN p sel) (mtB M) (mtB M):=qTb dotK (Yxs _ M)
theorem qyM {h L:List AB} {c anc k:Nat} {past:List Pt} (hv:vis h.length c anc past k=true) (ag:Bool) (ks:List CK) (ok:Bool) (z d:AV):lkV (h++mskQ h.length c anc past L) ag ks ok z (.m (h.length+k)) d=lkV (h++L) ag ks ok z (.m (h.length+k)) d:=by
 have:KfE (h++mskQ h.length c anc past L) (.m (h.length+k))=KfE (h++L) (.m (h.length+k)):=by
  unfold KfE
  dsimp only
  rw[qu4,qu4,XNU]
  cases L[k]? with
  | none=>rfl
  | some B =>
   simp only[Option.map_some,hv,if_true]
   cases B <;> first|rfl|(rename_i m k fr;cases k <;> rfl)
 unfold lkV
 rw[this]
def qVG (m:List EvD) (n:Int) (d:Int×Int):List (Int×Int):=srtD (pSt (dpE m) (wtN (dpE m d) n.toNat+1) [] d)
open Classical in
noncomputable def QA1:List AV->List AB->Option (AV×List AB)
 | [s,.i .i64 n,.ag [.i .i64 a,.i .i64 b]],h=>(YgZ h s).bind fun m=>if (∀e∈m,e.1.repo.length<=1000000/\e.1.tag.length<=1000000)/\m.length<=1000 then
   some (if chkG m n≠0 then (.tu [.ns,.i .i64 (chkG m n)],h) else if (∀e∈m,e.1.dot≠(a,b)) then (.tu [.ns,.i .i64 26],h) else (.tu [apS dotR (h.length+0) (qVG m n (a,b)),.i .i64 0],h++[resB dotR true (qVG m n (a,b))])) else none
 | _,_=>none
theorem YZ1 {α:Type} [DecidableEq α]:∀ {l l':List α},l.Nodup->(∀x∈l,x∈l')->l.length<=l'.length
 | [],_,_,_=>Nat.zero_le _
 | a::l,l',hn,h=>by
  obtain ⟨h1,h2⟩:=List.nodup_cons.1 hn
  have ha:=h a (List.mem_cons_self ..)
  have:=YZ1 (l:=l) (l':=l'.erase a) h2 fun x hx=>(List.mem_erase_of_ne (fun z:x=a=>h1 (z▸hx))).2 (h x (List.mem_cons_of_mem _ hx))
  rw[List.length_erase_of_mem ha]at this
  have hp:=List.length_pos_of_mem ha
  simp only[List.length_cons]
  omega
theorem qDL {m:List EvD} {n:Int} (h:chkG m n=0) (d:Int×Int):(pSt (dpE m) (wtN (dpE m d) n.toNat+1) [] d).length<=m.length:=by
 have hV:=qOn h
 have hnd:=Y8d hV (k:=wtN (dpE m d) n.toNat+1) (d:=d) (Nat.lt_succ_self _)
 have hsub:∀x∈pSt (dpE m) (wtN (dpE m d) n.toNat+1) [] d,x∈m.map (·.1.dot):=fun x hx=>by
  have hx':=(q6O hV (Nat.lt_succ_self _) x).1 hx
  rcases Z7t m d with e|⟨e,he,_,hde⟩
  ·rw[e]at hx'
   have:=JvS (l:=[]) (r:=x.1) (by have:=hx'.2;omega)
   simp at this
   omega
  ·rw[hde]at hx'
   obtain ⟨o,ho,hod⟩:=Ji4 h he hx'
   exact List.mem_map.2 ⟨o,ho,hod⟩
 have:(pSt (dpE m) (wtN (dpE m d) n.toNat+1) [] d).length<=(m.map (·.1.dot)).length:=by
  exact YZ1 hnd hsub
 rwa [List.length_map]at this
theorem Qbw:Spec Tryz.prog 33 QA1:=by
 intro args h v h' e
 unfold QA1 at e
 split at e
 ·rename_i s n a b
  obtain ⟨m,hs,e⟩:=KdM e
  split at e
  ·rename_i hc
   obtain ⟨hc,hml⟩:=hc
   rw[Option.some.injEq]at e
   by_cases hg:chkG m n≠0
   ·rw[if_pos hg,Prod.mk.injEq]at e
    obtain ⟨rfl,rfl⟩:=e
    refine FnAt.c (FnAt.frz0 fun hz=>?_)
    have hs:=hs.frz
    generalize h.map AB.freeze=h at *
    refine FnAt.run (by kernel_rfl) (T:=⟨[⟨16,Kb7,fun _=>[]⟩],[]⟩) ⟨⟨zyj,trivial⟩,trivial⟩ Tryz.func33 sw33 fun ho hh=>?_
    have gs:∀x,YgZ (h++x) s=some m:=fun x=>(hs.app x).get
    have hc':=eq_true hc
    have hg':=eq_false (p:=chkG m n=0) hg
    unfold w33
    simp only[QhU,YqB,z16,KHD,Xq6,if_true,if_false,↓reduceIte,Nat.reduceAdd,Nat.reduceSub,Nat.reduceLeDiff,Nat.reduceEqDiff,Nat.reduceMul,Nat.reduceLT,Int.reduceLT,Int.reduceLE,Int.reduceEq,CO.tmps,Opd.tmps,optT,Nat.reducePow,Nat.reduceDiv,Nat.reduceMod,Kb7,gs,hc',hg',Option.bind_some,oW hh hz,if_true,oD,ne_eq,forall_const]
    exact Bt.drop _ hh rfl rfl
   rw[if_neg hg]at e
   have hg0:chkG m n=0:=Decidable.byContradiction hg
   have hg':=eq_true hg0
   have hc':=eq_true hc
   obtain ⟨_,_,_,hA,_⟩:=ZEf hg0
   obtain ⟨_,_,hnd⟩:=Js7 hA
   obtain ⟨v0,new,hv1,hv2,rfl,rfl⟩:∃v0 new,((∀e∈m,e.1.dot≠(a,b))->v0=.tu [.ns,.i .i64 26]/\new=[])/\((¬ ∀e∈m,e.1.dot≠(a,b))->v0=.tu [apS dotR (h.length+0) (qVG m n (a,b)),.i .i64 0]/\new=[resB dotR true (qVG m n (a,b))])/\v=v0/\h'=h++new:=by
    by_cases hno:∀e∈m,e.1.dot≠(a,b)
    ·rw[if_pos hno,Prod.mk.injEq]at e
     exact ⟨_,_,fun _=>⟨rfl,rfl⟩,fun z=>absurd hno z,e.1.symm,by rw[List.append_nil];exact e.2.symm⟩
    ·rw[if_neg hno,Prod.mk.injEq]at e
     exact ⟨_,_,fun z=>absurd z hno,fun _=>⟨rfl,rfl⟩,e.1.symm,e.2.symm⟩
   clear e
   refine FnAt.c (FnAt.frz fun hz=>?_)
   have hs:=hs.frz
   have hlen:(h.map AB.freeze).length=h.length:=List.length_map _
   rw[<-hlen]at hv2
   generalize h.map AB.freeze=h at *
   clear hlen
   refine FnAt.run (by kernel_rfl) (T:=⟨[⟨16,Kb7,fun _=>[]⟩,⟨87,Kaa h m n.toNat (wtN (dpE m (a,b)) n.toNat+1) (h.length+3) (h.length+1) (h.length+2),fun _=>[h.length+2]⟩,⟨89,zMf,fun _=>[]⟩,⟨88,Zrb,fun _=>[]⟩],[]⟩) ⟨⟨zyj,zkk (qOn hg0) (fun e he=>⟨hs.d e he,hs.o e he⟩) hnd (by omega) (by omega) (by omega) _,q2k,JbK,trivial⟩,trivial⟩ Tryz.func33 sw33 fun ho hh=>?_
   simp only[XDA,Bool.and_eq_true]at ho
   have f1:=hs.s.fx ho.1 (sz:=39) rfl
   have hlm:(m.map (·.1)).length=m.length:=List.length_map _
   rw[hlm]at f1
   have so:∀c,s.ok (fun i=>decide (i<h.length+c))=true:=fun c=>AV.ok_mono (fun i q=>by simp only[decide_eq_true_eq]at q ⊢;omega) s ho.1
   have sr:∀sel,Wk (s.ren (selN h.length sel)) s:=fun sel=>Wk.ren (fun i hi=>ZiE hi) ho.1
   have gs:∀x,YgZ (h++x) s=some m:=fun x=>(hs.app x).get
   have nf1:AV.nf.one=true:=rfl
   have mc:∀id,(AV.m id).cells=[.m id]:=fun _=>rfl
   have mk:∀id,(AV.m id).known=true:=fun _=>rfl
   have m1:∀id,(AV.m id).one=true:=fun _=>rfl
   have hok:∀j,okL (fun i=>decide (i<h.length)) (kvF dotK (entE (m.take j)))=true:=fun j=>zOT fun e he=>by
    obtain ⟨e',he',rfl⟩:=List.mem_map.1 he
    exact hs.o e' (List.mem_of_mem_take he')
   have mok:∀b c j,(mpB dotK b (entE (m.take j))).ok (fun i=>decide (i<h.length+c))=true:=fun b c j=>KAd (fun i q=>by simp only[decide_eq_true_eq]at q ⊢;omega) _ (hok j)
   have moq:∀b c lo hi anc past j,(mpB dotK b (entE (m.take j))).ok (qOk (h.length+c) lo hi anc past)=true:=fun b c lo hi anc past j=>KAd (fun i q=>YO3 (by have:=of_decide_eq_true q;omega)) _ (hok j)
   have bm:=fun n sel j=>qTb dotK (p:=h.length) (n:=n) (sel:=sel) (m:=true) (l:=entE (m.take j)) (hok j)
   unfold w33
   simp only[QhU,YqB,z16,KHD,Xq6,if_true,if_false,↓reduceIte,Nat.reduceAdd,Nat.reduceSub,Nat.reduceLeDiff,Nat.reduceEqDiff,Nat.reduceMul,Nat.reduceLT,Int.reduceLT,Int.reduceLE,Int.reduceEq,CO.tmps,Opd.tmps,optT,Nat.reducePow,Nat.reduceDiv,Nat.reduceMod,q41,mc,mk,m1,nf1,f1,Kb7,gs,hc',hg',Option.bind_some,oW hh hz,if_true,oD,ne_eq,forall_const]
   refine q2X (S:=Nat) (fun i=>m.length-i) (fun i=>tp 5++[.p (h.length+0) 0]++tp 3++[.p (h.length+3) 0]++tp 19++[s,.i .i64 (m.length:Int),.i .i64 (i:Int)]++tp 34) (fun i=>h++[.blk true true [.i .i64 a,.i .i64 b],mpB dotK true (entE (m.take i)),mtB [],.blk false true [.m (h.length+1),.m (h.length+2),zQ4 (h.length+3)]]) (fun i=>i<=m.length) 0 (Nat.zero_le _) ?_ fun i hi=>?_
   ·refine Bt.wk ?_
    simp only[z16,Xq6,if_true,if_false,reduceIte,Nat.reduceAdd,Nat.reduceSub,Nat.reduceLeDiff,Nat.reduceEqDiff,Nat.reduceMul,Nat.reduceLT,Int.reduceLT,Int.reduceLE,Int.reduceEq]
   by_cases g:i<m.length
   ·have g':((i:Int)<(m.length:Int))=True:=eq_true (by omega)
    have e1:IntKind.i64.wrap ((i:Int)+1)=((i+1:Nat):Int):=ZWm (by have:=hs.s.2;unfold maxLen at this;unfold In64;omega)
    have hgd:(m.map (·.1)).getD i evR.d=m[i].1:=by rw[List.getD_eq_getElem?_getD,List.getElem?_map,List.getElem?_eq_getElem g];rfl
    have hin:m[i]∈m:=List.getElem_mem g
    have hoe:=hs.o _ hin
    have htk:∀e∈m.take (i+1),okL (fun i=>decide (i<h.length)) (evtF e.1)=true:=fun e he=>hs.o e (List.mem_of_mem_take he)
    have hnot:m[i].1.dot∉(m.take i).map (·.1.dot):=fun z=>by
     have:=hnd
     rw[<-List.take_append_drop i m,List.map_append,List.drop_eq_getElem_cons g,List.map_cons]at this
     exact (List.nodup_append.1 this).2.2 _ z _ (List.mem_cons_self ..) rfl
    obtain ⟨e,hmi⟩:∃e,m[i]=e:=⟨_,rfl⟩
    rw[hmi]at hgd hin hoe hnot
    obtain ⟨x,dl⟩:=e
    dsimp only at hgd hoe hnot
    obtain ⟨a0,a1,a2,a3,a4,a5,a6⟩:=Zxc x
    have w1:=Q7m x
    have l1:=YXj x
    have lt:(evtF x).take 39=evtF x:=List.take_of_length_le (by rw[l1];exact Nat.le_refl _)
    have c1:∀l:List AV,(AV.ag l).cells=l:=fun _=>rfl
    have t2:(evtF x).take 2=[.i .i64 x.dot.1,.i .i64 x.dot.2]:=rfl
    have hput:putM dotK (entE (m.take i)) (x.dot.1,x.dot.2) (.ag (evtF x))=entE (m.take (i+1)):=by
     have hfd:fndM dotK (x.dot.1,x.dot.2) (entE (m.take i)) 0=none:=JQM.2 fun e he z=>hnot (List.mem_map.2 ⟨e,he,z⟩)
     unfold putM
     rw[hfd]
     show entE (m.take i)++[(x.dot,AV.ag (evtF x))]=_
     rw[List.take_succ_eq_append_getElem g,hmi]
     unfold entE
     rw[List.map_append]
     rfl
    have soc:∀c,okL (fun i=>decide (i<h.length+c)) (evtF x)=true:=fun c=>KAd (fun i q=>by simp only[decide_eq_true_eq]at q ⊢;omega) _ hoe
    have soe:∀c lo hi anc past,okL (qOk (h.length+c) lo hi anc past) (evtF x)=true:=fun c lo hi anc past=>KAd (fun i q=>YO3 (by have:=of_decide_eq_true q;omega)) _ hoe
    have mu:∀A L,muV (h++(A::mpB dotK true (entE (m.take i))::L)) true [.i,.i] (.m (h.length+1)) (.ag [.i .i64 x.dot.1,.i .i64 x.dot.2]) (.ag (evtF x))=some (h++(A::mpB dotK true (entE (m.take (i+1)))::L)):=fun A L=>by
     have:=YOF dotK (h:=h++(A::mpB dotK true (entE (m.take i))::L)) (id:=h.length+1) (qu4 _ 1) (x.dot.1,x.dot.2) (.ag (evtF x))
     rw[Yie,hput]at this
     exact this
    simp only[QhU,YqB,z16,KHD,Xq6,if_true,if_false,↓reduceIte,Nat.reduceAdd,Nat.reduceSub,Nat.reduceLeDiff,Nat.reduceEqDiff,Nat.reduceMul,Nat.reduceLT,Int.reduceLT,Int.reduceLE,Int.reduceEq,CO.tmps,Opd.tmps,optT,Nat.reducePow,Nat.reduceDiv,Nat.reduceMod,KhU,JXM,YqJ,QzY,ok_m,f1,g,g',e1,ZxE,hgd,ovE,a0,a1,w1,l1,lt,t2,c1,mu,soe,soc,mok,moq,Yxs,Bool.and_self,QnU,List.drop_zero,oW hh hz,if_true,oD,ne_eq,forall_const]
    refine ⟨i+1,g,by dsimp only;omega,?_⟩
    dsimp only
    exact Bt.sel [0,1,2,3] hh (by decide) (by simp only[KlC,FrSel,BlkSel,AV.ren,renL,AV.ok,okL,Option.some.injEq,exists_eq_left',List.length_cons,List.length_nil,Nat.reduceAdd,Nat.reduceLT,reduceCtorEq,implies_true,exists_eq',bm,J6S]) (by simp only[KlC,FrSel,BlkSel,AV.ren,renL,AV.ok,okL,Option.some.injEq,exists_eq_left',List.length_cons,List.length_nil,Nat.reduceAdd,Nat.reduceLT,reduceCtorEq,implies_true,exists_eq',so,sr])
   ·have g':((i:Int)<(m.length:Int))=False:=eq_false (by omega)
    have hMi:m.take i=m:=List.take_of_length_le (by omega)
    rw[hMi]
    have mok1:=fun b c=>mok b c i
    have moq1:=fun b c lo hi anc past=>moq b c lo hi anc past i
    rw[hMi]at mok1 moq1
    have lr0:∀z,lkR true z none=.tu [z,.b false]:=fun _=>rfl
    have lr1:∀z j v,lkR true z (some (j,v))=.tu [v,.b true]:=fun _ _ _=>rfl
    have lk:∀A b0 L z,lkV (h++(A::mpB dotK b0 (entE m)::L)) true [.i,.i] true z (.m (h.length+1)) (.ag [.i .i64 a,.i .i64 b])=some (lkR true z (fndM dotK (a,b) (entE m) 0)):=fun A b0 L z=>JMn dotK (h:=h++(A::mpB dotK b0 (entE m)::L)) (id:=h.length+1) (qu4 _ 1) true z (a,b)
    cases hfd:fndM dotK (a,b) (entE m) 0 with
    | none =>
     obtain ⟨rfl,rfl⟩:=hv1 (JQM.1 hfd)
     rw[List.append_nil]
     simp only[QhU,YqB,z16,KHD,Xq6,if_true,if_false,↓reduceIte,Nat.reduceAdd,Nat.reduceSub,Nat.reduceLeDiff,Nat.reduceEqDiff,Nat.reduceMul,Nat.reduceLT,Int.reduceLT,Int.reduceLE,Int.reduceEq,CO.tmps,Opd.tmps,optT,Nat.reducePow,Nat.reduceDiv,Nat.reduceMod,qlG,JTj,zDe,ok_m,f1,g',qyM,lk,hfd,lr0,lr1,mok1,moq1,Yxs,Bool.and_self,QnU,List.drop_zero,oW hh hz,if_true,oD,ne_eq,forall_const]
     exact Bt.drop _ hh rfl rfl
    | some jv =>
     obtain ⟨jj,vv⟩:=jv
     obtain ⟨o,ho',hod,rfl⟩:=QjS hfd
     obtain ⟨rfl,rfl⟩:=hv2 fun z=>z o ho' hod
     have w2:=Q7m o.1
     have l2:=YXj o.1
     have c1:∀l:List AV,(AV.ag l).cells=l:=fun _=>rfl
     have hoo:=hs.o o ho'
     have soc:∀c,okL (fun i=>decide (i<h.length+c)) (evtF o.1)=true:=fun c=>KAd (fun i q=>by simp only[decide_eq_true_eq]at q ⊢;omega) _ hoo
     have soe:∀c lo hi anc past,okL (qOk (h.length+c) lo hi anc past) (evtF o.1)=true:=fun c lo hi anc past=>KAd (fun i q=>YO3 (by have:=of_decide_eq_true q;omega)) _ hoo
     obtain ⟨K,hK⟩:∃K,wtN (dpE m (a,b)) n.toNat+1=K:=⟨_,rfl⟩
     have hwK:wtN (dpE m (a,b)) n.toNat<K:=by omega
     have hPl:=qDL hg0 (a,b)
     have hPd:qVG m n (a,b)=srtD (pSt (dpE m) K [] (a,b)):=by unfold qVG;rw[hK]
     rw[hK]at hPl
     rw[hPd,hK]
     generalize hP0:pSt (dpE m) K [] (a,b)=P0 at *
     have tp:∀A1 b1 b2 L,Kaa h m n.toNat K (h.length+3) (h.length+1) (h.length+2) [.p (h.length+3) 0,.ag [.i .i64 a,.i .i64 b]] (h++(A1::mpB dotK b1 (entE m)::mtB []::.blk false b2 [.m (h.length+1),.m (h.length+2),zQ4 (h.length+3)]::L))=some (.tu [],h++(A1::mpB dotK b1 (entE m)::mtB P0::.blk false b2 [.m (h.length+1),.m (h.length+2),zQ4 (h.length+3)]::L)):=fun A1 b1 b2 L=>by
      have hp:PastH h m (h.length+3) (h.length+1) (h.length+2) (h++(A1::mpB dotK b1 (entE m)::mtB []::.blk false b2 [.m (h.length+1),.m (h.length+2),zQ4 (h.length+3)]::L)):=⟨by rw[List.take_left];exact hz,by unfold ZMh;rw[qu4];rfl,b1,qu4 _ 1⟩
      rw[zRt (M:=[]) (d:=(a,b)) hp (qu4 _ 2) hwK,hP0,Yie]
      rfl
     have tk:∀A B C D b0,Zrb [.f (.func 148) [] [.p (h.length+5) 0],.f (.func 90) [] []] (h++[A,B,mtB P0,C,D,.blk false b0 [.m (h.length+2)]])=some (apS dotR (h.length+6) (srtD P0),h++[A,B,mtB P0,C,D,.blk false b0 [.m (h.length+2)],resB dotR true (srtD P0)]):=fun A B C D b0=>by
      have:=XWU (h:=h++[A,B,mtB P0,C,D,.blk false b0 [.m (h.length+2)]]) (j:=h.length+5) (mid:=h.length+2) (m:=true) (M:=P0) (by omega) (by unfold ZMh;rw[qu4];rfl) (qu4 _ 2)
      rw[List.length_append,List.append_assoc]at this
      exact this
     simp only[QhU,YqB,z16,KHD,Xq6,if_true,if_false,↓reduceIte,Nat.reduceAdd,Nat.reduceSub,Nat.reduceLeDiff,Nat.reduceEqDiff,Nat.reduceMul,Nat.reduceLT,Int.reduceLT,Int.reduceLE,Int.reduceEq,CO.tmps,Opd.tmps,optT,Nat.reducePow,Nat.reduceDiv,Nat.reduceMod,qlG,JTj,zDe,ok_m,f1,g',qyM,lk,hfd,lr0,lr1,mok1,moq1,Yxs,w2,l2,c1,soc,soe,ovE,tp,tk,zMf,XJx,Bool.not_true,Bool.not_false,Bool.and_self,QnU,List.drop_zero,oW hh hz,if_true,oD,ne_eq,forall_const]
     have ao:∀(n:Nat) (L:List (Int×Int)),(apS dotR n L).ok (fun i=>decide (i<n+1))=true:=fun n L=>Yv9 _ _ _ (by simp)
     exact Bt.sel [6] hh (by decide) (by simp only[KlC,FrSel,BlkSel,AV.ren,renL,AV.ok,okL,Option.some.injEq,exists_eq_left',List.length_cons,List.length_nil,Nat.reduceAdd,Nat.reduceLT,reduceCtorEq,implies_true,exists_eq']) (by simp only[KlC,FrSel,BlkSel,AV.ren,renL,AV.ok,okL,Option.some.injEq,exists_eq_left',List.length_cons,List.length_nil,Nat.reduceAdd,Nat.reduceLT,reduceCtorEq,implies_true,exists_eq',ao])
  ·cases e
 ·cases e
end
section
set_option maxRecDepth 100000
set_option maxHeartbeats 4000000
def lexI:List Int->List Int->Int
 | [],[]=>0
 | [],_::_=>-1
 | _::_,[]=>1
 | a::l,b::m=>if cmpI a b=0 then lexI l m else cmpI a b
noncomputable def Q2L:List AV->List AB->Option (AV×List AB)
 | [s,t,.f (.func g) [] []],h=>if g=149 then (getS intR h s).bind fun l=>(getS intR h t).bind fun m=>some (.i .i64 (lexI l m),h) else none
 | _,_=>none
theorem XlJ:Spec Tryz.prog 151 Q2L:=by
 intro args h v h' e
 unfold Q2L at e
 split at e
 ·rename_i s t g0
  split at e
  ·rename_i hg0
   subst hg0
   obtain ⟨l,hs,e⟩:=zZy e
   obtain ⟨m,ht,e⟩:=zZy e
   cases e
   refine FnAt.c (FnAt.frz0 fun hz=>?_)
   have hs:=hs.frz
   have ht:=ht.frz
   generalize h.map AB.freeze=h at *
   refine FnAt.run (by kernel_rfl) (T:=⟨[⟨149,ZG9,fun _=>[]⟩],[]⟩) ⟨⟨X4L,trivial⟩,trivial⟩ Tryz.func151 Q7o fun ho hh=>?_
   simp only[XDA,Bool.and_eq_true]at ho
   have f1:=hs.fx ho.1 (sz:=1) rfl
   have f2:=ht.fx ho.2.1 (sz:=1) rfl
   unfold w151
   simp only[QhU,YqB,z16,KHD,Xq6,simprocAttr,CO.tmps,Opd.tmps,optT,f1]
   refine zXM (S:=Nat) (fun i=>l.length-i) (fun i=>[s,t,.f (.func 149) [] []]++tp 8++[s,.i .i64 (l.length:Int),.i .i64 (i:Int)]++tp 25) (fun i=>i<=l.length/\i<=m.length/\lexI (l.drop i) (m.drop i)=lexI l m) 0 ⟨Nat.zero_le _,Nat.zero_le _,rfl⟩ ?_ fun i hi=>?_
   ·simp only[tp_0,tp_s,List.cons_append,List.nil_append,K2n,JRI,QoW,Jje,and_true,true_and]
    all_goals exact Wk.refl _
   obtain ⟨h1,h2,h3⟩:=hi
   rw[<-h3]
   by_cases g:i<l.length
   ·have g':((i:Int)<(l.length:Int))=True:=eq_true (by omega)
    have e1:IntKind.i64.wrap ((i:Int)+1)=((i+1:Nat):Int):=ZWm (by have:=hs.2;unfold maxLen at this;unfold In64;omega)
    by_cases k:i<m.length
    ·have k':((m.length:Int)<=(i:Int))=False:=eq_false (by omega)
     obtain ⟨x,hx⟩:∃x,l.getD i intR.d=x:=⟨_,rfl⟩
     obtain ⟨y,hy⟩:∃y,m.getD i intR.d=y:=⟨_,rfl⟩
     have hx':l[i]=x:=by rw[<-hx,List.getD_eq_getElem?_getD,List.getElem?_eq_getElem g];rfl
     have hy':m[i]=y:=by rw[<-hy,List.getD_eq_getElem?_getD,List.getElem?_eq_getElem k];rfl
     rw[List.drop_eq_getElem_cons g,List.drop_eq_getElem_cons k,lexI,hx',hy']at h3 ⊢
     rcases emG (cmpI x y=0) with c|c
     ·rw[if_pos (of_eq_true c)]at h3 ⊢
      simp only[QhU,YqB,z16,KHD,Xq6,simprocAttr,CO.tmps,Opd.tmps,optT,f1,f2,g,g',k,k',hx,hy,c,e1,Zr0,ZG9,Nat.zero_lt_one,oD,ne_eq,forall_const]
      refine ⟨i+1,⟨g,k,rfl⟩,by omega,?_⟩
      simp only[tp_0,tp_s,List.cons_append,List.nil_append,K2n,JRI,QoW,Jje,and_true,true_and]
     ·rw[if_neg (of_eq_false c)]at h3 ⊢
      simp only[QhU,YqB,z16,KHD,Xq6,simprocAttr,CO.tmps,Opd.tmps,optT,f1,f2,g,g',k,k',hx,hy,c,e1,Zr0,ZG9,Nat.zero_lt_one,oD,ne_eq,forall_const]
      exact Bt.dropI _ hh rfl
    ·have k':((m.length:Int)<=(i:Int))=True:=eq_true (by omega)
     rw[List.drop_eq_getElem_cons g,List.drop_eq_nil_of_le (show m.length<=i by omega),lexI]
     simp only[QhU,YqB,z16,KHD,Xq6,simprocAttr,CO.tmps,Opd.tmps,optT,f1,f2,g,g',k',Zr0,Nat.zero_lt_one,oD,ne_eq,forall_const]
     exact Bt.dropI _ hh rfl
   ·have g':((i:Int)<(l.length:Int))=False:=eq_false (by omega)
    rw[List.drop_eq_nil_of_le (show l.length<=i by omega)]
    rcases emG ((l.length:Int)<(m.length:Int)) with c|c
    ·have hk:i<m.length:=by have:=of_eq_true c;omega
     rw[List.drop_eq_getElem_cons hk,lexI]
     simp only[QhU,YqB,z16,KHD,Xq6,simprocAttr,CO.tmps,Opd.tmps,optT,f1,f2,g',c,oD,ne_eq,forall_const]
     exact Bt.dropI _ hh rfl
    ·rw[List.drop_eq_nil_of_le (show m.length<=i by have:=of_eq_false c;omega),lexI]
     simp only[QhU,YqB,z16,KHD,Xq6,simprocAttr,CO.tmps,Opd.tmps,optT,f1,f2,g',c,oD,ne_eq,forall_const]
     exact Bt.dropI _ hh rfl
  ·cases e
 ·cases e
def ZHl (a:Int×Int) (w:Int) (b:Int×Int) (u:Int):Prop:=a≠b/\lexI [w,a.1,a.2] [u,b.1,b.2]<0\/a=b/\w<u
instance (a:Int×Int) (w:Int) (b:Int×Int) (u:Int):Decidable (ZHl a w b u):=inferInstanceAs (Decidable (_\/_))
noncomputable def Qgw:List AV->List AB->Option (AV×List AB)
 | [.ag [.i .i64 a,.i .i64 b],s,.ag [.i .i64 c,.i .i64 d],t],h=>(getS intR h s).bind fun l=>(getS intR h t).bind fun m=>if l.length<=1000000/\m.length<=1000000 then some (.b (decide (ZHl (a,b) (wS l l.length) (c,d) (wS m m.length))),h) else none
 | _,_=>none
theorem qEQ:Spec Tryz.prog 94 Qgw:=by
  intro args h v h' e
  unfold Qgw at e
  split at e
  · rename_i a b s c d t
    obtain ⟨l,hs,e⟩:=zZy e
    obtain ⟨m,ht,e⟩:=zZy e
    split at e
    · rename_i hl
      cases e
      refine FnAt.c (FnAt.frz0 fun hz=>?_)
      have hs:=hs.frz
      have ht:=ht.frz
      generalize h.map AB.freeze=h at *
      refine FnAt.run (by kernel_rfl) (T:=⟨[⟨150,qal,fun _=>[]⟩,⟨151,Q2L,fun _=>[]⟩],[]⟩) ⟨⟨zZe,XlJ,trivial⟩,trivial⟩ Tryz.func94 sw94 fun ho hh=>?_
      simp only[XDA,Bool.and_eq_true]at ho
      have f1:=hs.fx ho.2.1 (sz:=1) rfl
      have f2:=ht.fx ho.2.2.2.1 (sz:=1) rfl
      have l1:=eq_true hl.1
      have l2:=eq_true hl.2
      unfold w94
      have eqd:qN8 [.i,.i] [.i .i64 a,.i .i64 b] [.i .i64 c,.i .i64 d]=some (decide ((a,b)=(c,d))):=zlA (a,b) (c,d)
      rcases emG ((a,b)=(c,d)) with q|q <;> rcases emG (wS l l.length<wS m m.length) with q2|q2 <;> rcases emG (lexI [wS l l.length,a,b] [wS m m.length,c,d]<0) with q3|q3 <;>
        (simp only[QhU,YqB,z16,KHD,Xq6,simprocAttr,CO.tmps,Opd.tmps,optT,f1,f2,l1,l2,qal,Q2L,eqd,q,q2,q3,q9x,QQN,Option.bind_some,oW hh hz,if_true,oD,ne_eq,forall_const]
         exact Bt.dropB _ hh (by simp [ZHl,q,q2,q3]))
    · cases e
  · cases e
noncomputable def q1b:List AV->List AB->Option (AV×List AB)
 | [a,b],h=>(getE a).bind fun x=>(getE b).bind fun y=>(getS intR h x.deps.a).bind fun l=>(getS intR h y.deps.a).bind fun m=>if l.length<=1000000/\m.length<=1000000 then some (.b (decide (ZHl x.dot (wS l l.length) y.dot (wS m m.length))),h) else none
 | _,_=>none
theorem Yf2:Spec Tryz.prog 41 q1b:=by
 intro args h v h' e
 unfold q1b at e
 split at e
 ·obtain ⟨x,hx,e2⟩:=Kc6 e
  obtain ⟨y,hy,e3⟩:=Kc6 e2
  clear e e2
  subst hx hy
  obtain ⟨l,hs,e4⟩:=zZy e3
  obtain ⟨m,ht,e5⟩:=zZy e4
  clear e3 e4
  split at e5
  ·rename_i hl
   cases e5
   refine FnAt.c (FnAt.run (by kernel_rfl) (T:=⟨[⟨94,Qgw,fun _=>[]⟩],[]⟩) ⟨⟨qEQ,trivial⟩,trivial⟩ Tryz.func41 sw41 fun ho hh=>?_)
   obtain ⟨a0,a1,a2,a3,a4,a5,a6⟩:=Zxc x
   obtain ⟨b0,b1,b2,b3,b4,b5,b6⟩:=Zxc y
   have w1:=Q7m x
   have w2:=Q7m y
   have l1:=YXj x
   have l2:=YXj y
   have c1:∀l:List AV,(AV.ag l).cells=l:=fun _=>rfl
   have t1:(evtF x).take 2=[.i .i64 x.dot.1,.i .i64 x.dot.2]:=rfl
   have t2:(evtF y).take 2=[.i .i64 y.dot.1,.i .i64 y.dot.2]:=rfl
   have g1:∀z,getS intR (h++z) x.deps.a=some l:=fun z=>(hs.app z).get
   have g2:∀z,getS intR (h++z) y.deps.a=some m:=fun z=>(ht.app z).get
   have hl':=eq_true hl
   unfold w41
   simp only[QhU,YqB,z16,KHD,Xq6,simprocAttr,CO.tmps,Opd.tmps,optT,Qgw,a0,a1,a2,b0,b1,b2,w1,w2,l1,l2,c1,t1,t2,g1,g2,hl',List.drop_zero,Option.bind_some,if_true,oD,ne_eq,forall_const]
   exact Bt.dropB _ hh rfl
  ·cases e5
 ·cases e
end
section
set_option maxRecDepth 100000
set_option maxHeartbeats 4000000
section
variable {α:Type} (lt:α->α->Prop) [DecidableRel lt]
def insV (x:α):List α->List α
 | []=>[x]
 | y::r=>if lt x y then y::insV x r else x::y::r
def insB (l:List α) (x:α):List α:=(insV lt x l.reverse).reverse
theorem Y64 (x:α):insB lt [] x=[x]:=rfl
theorem XpT {x y:α} (l:List α) (h:lt x y):insB lt (l++[y]) x=insB lt l x++[y]:=by
 unfold insB
 rw[List.reverse_append]
 show (insV lt x (y::l.reverse)).reverse=_
 rw[insV,if_pos h,List.reverse_cons]
theorem Kyq {x y:α} (l:List α) (h:¬lt x y):insB lt (l++[y]) x=l++[y,x]:=by
 unfold insB
 rw[List.reverse_append]
 show (insV lt x (y::l.reverse)).reverse=_
 rw[insV,if_neg h,List.reverse_cons,List.reverse_cons,List.reverse_reverse,List.append_assoc]
 rfl
theorem Yi5 (x:α):∀l,(insV lt x l).Perm (x::l)
 | []=>.refl _
 | y::r=>by
  rw[insV]
  split
  ·exact ((Yi5 x r).cons y).trans (.swap x y r)
  ·exact .refl _
theorem XGp (l:List α) (x:α):(insB lt l x).Perm (l++[x]):=
 ((List.reverse_perm _).trans (Yi5 lt x l.reverse)).trans (((List.reverse_perm l).cons x).trans (List.perm_append_comm (l₁:=[x]) (l₂:=l)))
def srtI (l:List α):List α:=l.foldl (insB lt) []
theorem YgA (l:List α) (x:α):srtI lt (l++[x])=insB lt (srtI lt l) x:=by
 unfold srtI
 rw[List.foldl_append]
 rfl
theorem YQG (l:List α):(srtI lt l).Perm l:=by
 have:∀(l a:List α),(l.foldl (insB lt) a).Perm (a++l):=fun l=>by
  induction l with
  | nil=>intro a;rw[List.append_nil];exact .refl _
  | cons x l ih =>
   intro a
   refine (ih (insB lt a x)).trans ?_
   have:=(XGp lt a x).append_right l
   rw[List.append_assoc]at this
   exact this
 exact this l []
theorem KuP (l:List α):(srtI lt l).length=l.length:=(YQG lt l).length_eq
end
noncomputable def wtH (h:List AB) (x:EvtA):Int:=((getS intR h x.deps.a).map fun l=>wS l l.length).getD 0
def qkI (h:List AB) (x y:EvtA):Prop:=ZHl x.dot (wtH h x) y.dot (wtH h y)
noncomputable instance (h:List AB):DecidableRel (qkI h):=fun _ _=>inferInstanceAs (Decidable (ZHl _ _ _ _))
noncomputable def Ywd:List AV->List AB->Option (AV×List AB)
 | [a,b],h=>(getE a).bind fun x=>(getE b).bind fun y=>(getS intR h x.deps.a).bind fun l=>(getS intR h y.deps.a).bind fun m=>if l.length<=1000000/\m.length<=1000000 then some (.i .i64 (if ZHl x.dot (wS l l.length) y.dot (wS m m.length) then -1 else if ZHl y.dot (wS m m.length) x.dot (wS l l.length) then 1 else 0),h) else none
 | _,_=>none
theorem JXQ:Spec Tryz.prog 105 Ywd:=by
  intro args h v h' e
  unfold Ywd at e
  split at e
  · obtain ⟨x,hx,e2⟩:=Kc6 e
    obtain ⟨y,hy,e3⟩:=Kc6 e2
    clear e e2
    subst hx hy
    obtain ⟨l,hs,e4⟩:=zZy e3
    obtain ⟨m,ht,e5⟩:=zZy e4
    clear e3 e4
    split at e5
    · rename_i hl
      rw[Option.some.injEq,Prod.mk.injEq]at e5
      obtain ⟨rfl,rfl⟩:=e5
      refine FnAt.c (FnAt.run (by kernel_rfl) (T:=⟨[⟨41,q1b,fun _=>[]⟩],[]⟩) ⟨⟨Yf2,trivial⟩,trivial⟩ Tryz.func105 Y6y fun ho hh=>?_)
      have w1:=Q7m x
      have w2:=Q7m y
      have l1:=YXj x
      have l2:=YXj y
      have c1:∀l:List AV,(AV.ag l).cells=l:=fun _=>rfl
      have g1:∀z,getS intR (h++z) x.deps.a=some l:=fun z=>(hs.app z).get
      have g2:∀z,getS intR (h++z) y.deps.a=some m:=fun z=>(ht.app z).get
      have lt1:(evtF x).take 39=evtF x:=List.take_of_length_le (by rw[l1];exact Nat.le_refl _)
      have lt2:(evtF y).take 39=evtF y:=List.take_of_length_le (by rw[l2];exact Nat.le_refl _)
      have h1:=eq_true hl
      have h2:=eq_true hl.symm
      unfold w105
      rcases emG (ZHl x.dot (wS l l.length) y.dot (wS m m.length)) with q1|q1 <;> rcases emG (ZHl y.dot (wS m m.length) x.dot (wS l l.length)) with q2|q2 <;>
        (simp only[QhU,YqB,z16,KHD,Xq6,if_true,if_false,↓reduceIte,Nat.reduceAdd,Nat.reduceSub,Nat.reduceLeDiff,Nat.reduceEqDiff,Nat.reduceMul,Nat.reduceLT,Int.reduceLT,Int.reduceLE,Int.reduceEq,CO.tmps,Opd.tmps,optT,Nat.reducePow,Nat.reduceDiv,Nat.reduceMod,q1b,Zz9,w1,w2,l1,l2,lt1,lt2,c1,g1,g2,h1,h2,q1,q2,List.drop_zero,Option.bind_some,if_true,if_false,oD,ne_eq,forall_const]
         exact Bt.dropI _ hh rfl)
    · cases e5
  · cases e
def J8B (h:List AB) (id:Nat) (l:List EvtA):Prop:=∀x∈l,okL (fun i=>decide (i<h.length)) (evtF x)=true/\(∀k∈idOf x.deps.a,k≠id)/\∃d,Rd intR h x.deps.a d/\d.length<=1000000
open Classical in
noncomputable def ZVs:List AV->List AB->Option (AV×List AB)
 | [s,.i .i64 a,.i .i64 b,.f (.func g) [] []],h=>if g=105 then (getS evR h s).bind fun l=>if a=b/\-1000000<=a/\a<=1000000 then some (.tu [],h) else match idOf s with
   | [id]=>if a=0/\b=(l.length:Int)/\s=apS evR id l/\l.length≠0/\l.length<=1000/\h[id]?=some (resN evR true l)/\J8B h id l then some (.tu [],h.set id (resN evR true (srtI (qkI h) l))) else none
   | _=>none
  else none
 | _,_=>none
theorem zHB:Spec Tryz.prog 210 ZVs:=by
  intro args h v' h' e
  unfold ZVs at e
  split at e
  · rename_i s a b g0
    split at e
    · rename_i hg0
      subst hg0
      obtain ⟨l,hs,e2⟩:=zZy e
      clear e
      split at e2
      · rename_i hab
        obtain ⟨rfl,ha⟩:=hab
        cases e2
        refine FnAt.c (FnAt.run (by kernel_rfl) (T:=⟨[],[]⟩) ⟨trivial,trivial⟩ Tryz.func210 zsC fun ho hh=>?_)
        have e1:IntKind.i64.wrap (a+1)=a+1:=ZWm (by unfold In64;omega)
        have z:(a+1<a)=False:=eq_false (by omega)
        unfold w210
        simp only[QhU,YqB,z16,Xq6,if_true,if_false,reduceIte,Nat.reduceAdd,Nat.reduceSub,Nat.reduceLeDiff,Nat.reduceEqDiff,Nat.reduceMul,Nat.reduceLT,Int.reduceLT,Int.reduceLE,Int.reduceEq,e1]
        refine zXM (S:=Nat) (fun _=>0) (fun _=>tp 2++[.i .i64 a]++tp 5++[.i .i64 (a+1)]++tp 44) (fun _=>True) 0 trivial (by simp only[tp_0,tp_s,List.cons_append,List.nil_append,K2n,JRI,QoW,Jje,and_true,true_and]) fun _ _=>?_
        simp only[QhU,YqB,z16,Xq6,if_true,if_false,reduceIte,Nat.reduceAdd,Nat.reduceSub,Nat.reduceLeDiff,Nat.reduceEqDiff,Nat.reduceMul,Nat.reduceLT,Int.reduceLT,Int.reduceLE,Int.reduceEq,z,oD,ne_eq,forall_const]
        exact Bt.eq rfl (List.append_nil h)
      · split at e2
        · rename_i id hid
          split at e2
          · rename_i hcc
            obtain ⟨rfl,rfl,h1,h0,hlen,h2,hdep⟩:=hcc
            have hlt:=(List.getElem?_eq_some_iff.1 h2).1
            have hS:apS evR id l=.sl id 0 l.length l.length (some 39):=by unfold apS;rw[if_neg h0];rfl
            rw[hS]at h1
            subst h1
            rw[Option.some.injEq,Prod.mk.injEq]at e2
            obtain ⟨rfl,rfl⟩:=e2
            refine FnAt.c (FnAt.run (by kernel_rfl) (T:=⟨[⟨105,Ywd,fun _=>[]⟩],[]⟩) ⟨⟨JXQ,trivial⟩,trivial⟩ Tryz.func210 zsC fun ho hh=>?_)
            have iA:∀(t:Int) ,iadV 39 (.sl id 0 l.length l.length (some 39)) (.i .i64 t)=if 0<=t/\t<(l.length:Int) then some (elP 39 (.sl id 0 l.length l.length (some 39)) t.toNat 0) else none:=fun t=>hs.iad .i64 t
            have q1:∀c,(id<h.length+c)=True:=fun c=>eq_true (by omega)
            have q3:∀sel,selN h.length sel id=id:=fun sel=>ZiE hlt
            have hltz:id<(h.map AB.freeze).length:=by rw[List.length_map];exact hlt
            have hok:∀L:List EvtA,(∀x∈L,x∈l)->∀b c,(resN evR b L).ok (fun i=>decide (i<h.length+c))=true:=fun L hL b c=>qn4 fun x hx=>KAd (fun i q=>by simp only[decide_eq_true_eq]at q ⊢;omega) _ (hdep x (hL x hx)).1
            have e01:IntKind.i64.wrap ((0:Int)+1)=((1:Nat):Int):=rfl
            unfold w210
            simp only[QhU,YqB,z16,Xq6,if_true,if_false,reduceIte,Nat.reduceAdd,Nat.reduceSub,Nat.reduceLeDiff,Nat.reduceEqDiff,Nat.reduceMul,Nat.reduceLT,Int.reduceLT,Int.reduceLE,Int.reduceEq,e01]
            refine q2X (S:=Nat) (fun i=>l.length-i) (fun i=>[.sl id 0 l.length l.length (some 39),.i .i64 0,.i .i64 (l.length:Int),.f (.func 105) [] []]++tp 4++[.i .i64 (i:Int)]++tp 44) (fun i=>oB h id (resN evR true (srtI (qkI h) (l.take i)++l.drop i))++[]) (fun i=>1<=i/\i<=l.length) 1 ⟨Nat.le_refl _,by omega⟩ ?_ fun i hi=>?_
            · have:srtI (qkI h) (l.take 1)++l.drop 1=l:=by
                cases l with
                | nil=>exact absurd rfl h0
                | cons x l=>rfl
              rw[this,Y1G h2]
              refine Bt.wk ?_
              simp only[z16,Xq6,if_true,if_false,reduceIte,Nat.reduceAdd,Nat.reduceSub,Nat.reduceLeDiff,Nat.reduceEqDiff,Nat.reduceMul,Nat.reduceLT,Int.reduceLT,Int.reduceLE,Int.reduceEq]
            obtain ⟨i1,i2⟩:=hi
            by_cases g:i<l.length
            · have g':((i:Int)<(l.length:Int))=True:=eq_true (by omega)
              have e1:IntKind.i64.wrap ((i:Int)+1)=((i+1:Nat):Int):=ZWm (by unfold In64;omega)
              obtain ⟨x,hx⟩:∃x,l[i]=x:=⟨_,rfl⟩
              have hxl:x∈l:=by rw[<-hx];exact List.getElem_mem g
              have hdrop:l.drop i=x::l.drop (i+1):=by rw[List.drop_eq_getElem_cons g,hx]
              have hsn:srtI (qkI h) (l.take (i+1))=insB (qkI h) (srtI (qkI h) (l.take i)) x:=by rw[List.take_succ_eq_append_getElem g,hx,YgA]
              have hPl:(srtI (qkI h) (l.take i)).length=i:=by rw[KuP,List.length_take];omega
              have hPm:∀y∈srtI (qkI h) (l.take i),y∈l:=fun y hy=>List.mem_of_mem_take ((YQG (qkI h) (l.take i)).mem_iff.1 hy)
              have hRm:∀y∈l.drop (i+1),y∈l:=fun y hy=>List.mem_of_mem_drop hy
              rw[hdrop]
              generalize srtI (qkI h) (l.take i)=P at *
              generalize hR:l.drop (i+1)=R at *
              have hRl:R.length=l.length-(i+1):=by rw[<-hR,List.length_drop]
              simp only[QhU,YqB,z16,Xq6,if_true,if_false,reduceIte,Nat.reduceAdd,Nat.reduceSub,Nat.reduceLeDiff,Nat.reduceEqDiff,Nat.reduceMul,Nat.reduceLT,Int.reduceLT,Int.reduceLE,Int.reduceEq,g',oD,ne_eq,forall_const]
              refine q2X (S:=Nat×List EvtA) (fun τ=>τ.1) (fun τ=>[.sl id 0 l.length l.length (some 39),.i .i64 0,.i .i64 (l.length:Int),.f (.func 105) [] []]++tp 4++[.i .i64 (i:Int),.i .i64 (τ.1:Int)]++tp 43) (fun τ=>oB h id (resN evR true τ.2)++[]) (fun τ=>∃P1 P2,τ.2=P1++x::(P2++R)/\P1.length=τ.1/\τ.1+P2.length=i/\insB (qkI h) P1 x++P2=insB (qkI h) P x/\(∀y∈P1,y∈l)/\∀y∈P2,y∈l) (i,P++x::R) ⟨P,[],rfl,hPl,Nat.add_zero i,by rw[List.append_nil],hPm,fun y hy=>by simp at hy⟩ ?_ fun τ hτ=>?_
              · refine Bt.wk ?_
                simp only[z16,Xq6,if_true,if_false,reduceIte,Nat.reduceAdd,Nat.reduceSub,Nat.reduceLeDiff,Nat.reduceEqDiff,Nat.reduceMul,Nat.reduceLT,Int.reduceLT,Int.reduceLE,Int.reduceEq]
              obtain ⟨j,L⟩:=τ
              obtain ⟨P1,P2,hL,hj,hj2,hins,m1,m2⟩:=hτ
              dsimp only at hL hj hj2 ⊢
              have hmem:∀y∈L,y∈l:=fun y hy=>by
                rw[hL]at hy
                rcases List.mem_append.1 hy with hy|hy
                · exact m1 y hy
                · rcases List.mem_cons.1 hy with rfl|hy
                  · exact hxl
                  · rcases List.mem_append.1 hy with hy|hy
                    · exact m2 y hy
                    · exact hRm y hy
              have hLl:L.length=l.length:=by rw[hL];simp only[List.length_append,List.length_cons];omega
              have hokL:=hok L hmem
              cases j with
              | zero =>
                obtain rfl:P1=[]:=List.eq_nil_of_length_eq_zero hj
                have z':((0:Int)<((0:Nat):Int))=False:=eq_false (by omega)
                have hfin:L=srtI (qkI h) (l.take (i+1))++R:=by
                  rw[hsn,<-hins,Y64,hL]
                  rfl
                simp only[QhU,YqB,z16,qdd,Qgj,if_true,if_false,reduceIte,Nat.reduceAdd,Nat.reduceSub,Nat.reduceLeDiff,Nat.reduceEqDiff,Nat.reduceMul,Nat.reduceLT,Int.reduceLT,Int.reduceLE,Int.reduceEq,CO.tmps,Opd.tmps,optT,Nat.reducePow,Nat.reduceDiv,Nat.reduceMod,ZxG,z',e1,oD,ne_eq,forall_const]
                refine ⟨i+1,⟨by omega,g⟩,by dsimp only;omega,?_⟩
                dsimp only
                rw[hR,<-hfin]
                refine Bt.wk ?_
                simp only[z16,Xq6,if_true,if_false,reduceIte,Nat.reduceAdd,Nat.reduceSub,Nat.reduceLeDiff,Nat.reduceEqDiff,Nat.reduceMul,Nat.reduceLT,Int.reduceLT,Int.reduceLE,Int.reduceEq]
              | succ j =>
                obtain ⟨Q,y,hQ⟩:∃Q y,P1=Q++[y]:=by
                  refine ⟨P1.dropLast,P1.getLast (fun z=>by rw[z]at hj;cases hj),(List.dropLast_concat_getLast _).symm⟩
                subst hQ
                have hQl:Q.length=j:=by simpa using hj
                have hyl:y∈l:=m1 y (List.mem_append_right _ (List.mem_singleton.2 rfl))
                have z':((0:Int)<((j+1:Nat):Int))=True:=eq_true (by omega)
                have ej:IntKind.i64.wrap (((j+1:Nat):Int)-1)=(j:Int):=by rw[ZWm (by unfold In64;omega)];omega
                have g5:((0:Int)<=((j+1:Nat):Int)/\((j+1:Nat):Int)<(l.length:Int))=True:=eq_true (by omega)
                have g6:((0:Int)<=(j:Int)/\(j:Int)<(l.length:Int))=True:=eq_true (by omega)
                have gx:L.getD (j+1) evR.d=x:=by rw[hL,List.getD_eq_getElem?_getD,List.getElem?_append_right (by simp;omega)];simp [hQl]
                have gy:L.getD j evR.d=y:=by
                  rw[hL,List.append_assoc,List.getD_eq_getElem?_getD,List.getElem?_append_right (by omega),hQl,Nat.sub_self]
                  rfl
                have ldx:=fun b z=>ztc (r:=evR) (m:=b) (sz:=39) hlt hLl (show j+1<l.length by omega) rfl z
                have ldy:=fun b z=>ztc (r:=evR) (m:=b) (sz:=39) hlt hLl (show j<l.length by omega) rfl z
                rw[gx]at ldx
                rw[gy]at ldy
                simp only[ZxE]at ldx ldy
                obtain ⟨ox,vx,dx,rx,bx⟩:=hdep x hxl
                obtain ⟨oy,vy,dy,ry,byy⟩:=hdep y hyl
                have gdx:∀z,getS intR ((oB h id (resN evR true L)).map AB.freeze++z) x.deps.a=some dx:=fun z=>(((JkI rx vx _).frz).app z).get
                have gdy:∀z,getS intR ((oB h id (resN evR true L)).map AB.freeze++z) y.deps.a=some dy:=fun z=>(((JkI ry vy _).frz).app z).get
                have hbb:=eq_true (p:=dx.length<=1000000/\dy.length<=1000000) ⟨bx,byy⟩
                have wx:wtH h x=wS dx dx.length:=by unfold wtH;rw[rx.get];rfl
                have wy:wtH h y=wS dy dy.length:=by unfold wtH;rw[ry.get];rfl
                have eo:∀j (q:Nat->Bool),(elP 39 (.sl id 0 l.length l.length (some 39)) j 0).ok q=q id:=fun j q=>by simp [elP,AV.ok]
                have ei:∀j,idOf (elP 39 (.sl id 0 l.length l.length (some 39)) j 0)=[id]:=fun j=>rfl
                have ox1:∀c,okL (fun i=>decide (i<h.length+c)) (evtF x)=true:=fun c=>KAd (fun i q=>by simp only[decide_eq_true_eq]at q ⊢;omega) _ ox
                have ox2:∀c lo hi anc past,okL (qOk (h.length+c) lo hi anc past) (evtF x)=true:=fun c lo hi anc past=>KAd (fun i q=>YO3 (by have:=of_decide_eq_true q;omega)) _ ox
                have oy1:∀c,okL (fun i=>decide (i<h.length+c)) (evtF y)=true:=fun c=>KAd (fun i q=>by simp only[decide_eq_true_eq]at q ⊢;omega) _ oy
                have oy2:∀c lo hi anc past,okL (qOk (h.length+c) lo hi anc past) (evtF y)=true:=fun c lo hi anc past=>KAd (fun i q=>YO3 (by have:=of_decide_eq_true q;omega)) _ oy
                have oS:∀q:Nat->Bool,q id=true->(AV.sl id 0 l.length l.length (some 39)).ok q=true:=fun q hq=>by simp [AV.ok,hq]
                have jl1:(j+1<l.length)=True:=eq_true (by omega)
                have jl2:(j<l.length)=True:=eq_true (by omega)
                have st1:=fun z=>Zaz (h:=h.map AB.freeze) (r:=evR) (sz:=39) hltz hLl (show j+1<l.length by omega) rfl (y:=y) (Q7m _) z
                have hL1l:(L.set (j+1) y).length=l.length:=by rw[List.length_set];exact hLl
                have st2:=fun z=>Zaz (h:=h.map AB.freeze) (r:=evR) (sz:=39) hltz hL1l (show j<l.length by omega) rfl (y:=x) (Q7m _) z
                simp only[ZxE]at st1 st2
                have hL1:∀z∈L.set (j+1) y,z∈l:=fun z hz=>by
                  rcases List.mem_or_eq_of_mem_set hz with hz|rfl
                  · exact hmem z hz
                  · exact hyl
                have hL2:∀z∈(L.set (j+1) y).set j x,z∈l:=fun z hz=>by
                  rcases List.mem_or_eq_of_mem_set hz with hz|rfl
                  · exact hL1 z hz
                  · exact hxl
                have hok1:=hok _ hL1
                have hokq:∀X:List EvtA,(∀z∈X,z∈l)->∀c lo hi anc past,(resN evR true X).ok (qOk (h.length+c) lo hi anc past)=true:=fun X hX c lo hi anc past=>qn4 fun x hx=>KAd (fun i q=>YO3 (by have:=of_decide_eq_true q;omega)) _ (hdep x (hX x hx)).1
                have hok1q:=hokq _ hL1
                have hok2q:=hokq _ hL2
                have hL2e:(L.set (j+1) y).set j x=Q++x::((y::P2)++R):=by
                  rw[hL,List.append_assoc,List.set_append_right _ _ (by omega),hQl,show j+1-j=1 by omega,List.set_append_right _ _ (by omega),hQl,Nat.sub_self]
                  rfl
                have im1:((-1:Int)<0)=True:=eq_true (by decide)
                rcases emG (ZHl x.dot (wS dx dx.length) y.dot (wS dy dy.length)) with q|q
                · have hins2:insB (qkI h) Q x++(y::P2)=insB (qkI h) P x:=by
                    rw[<-hins,XpT (qkI h) Q (show qkI h x y by unfold qkI;rw[wx,wy];exact of_eq_true q),List.append_assoc]
                    rfl
                  simp only[QhU,YqB,z16,qdd,Qgj,if_true,if_false,reduceIte,Nat.reduceAdd,Nat.reduceSub,Nat.reduceLeDiff,Nat.reduceEqDiff,Nat.reduceMul,Nat.reduceLT,Int.reduceLT,Int.reduceLE,Int.reduceEq,CO.tmps,Opd.tmps,optT,Nat.reducePow,Nat.reduceDiv,Nat.reduceMod,ZxG,z',ej,g5,g6,iA,ldx,ldy,Ywd,Zz9,gdx,gdy,hbb,q,q1,eo,ei,ox1,ox2,oy1,oy2,im1,Int.toNat_natCast,X1A,X01,zhj rfl hlt,QGw hlt,XgJ hltz,Z3V,ZlO,List.length_map,zMZ hlt hh,hokL,hok1,hok1q,hok2q,jl1,jl2,st1,st2,Option.bind_some,Option.map_some,if_true,oD,ne_eq,forall_const]
                  refine ⟨(j,(L.set (j+1) y).set j x),⟨Q,y::P2,hL2e,hQl,by rw[List.length_cons];omega,hins2,fun z hz=>m1 z (List.mem_append_left _ hz),fun z hz=>?_⟩,Nat.lt_succ_self _,?_⟩
                  · rcases List.mem_cons.1 hz with rfl|hz
                    · exact hyl
                    · exact m2 z hz
                  · dsimp only
                    refine Bt.wk ?_
                    simp only[z16,Xq6,if_true,if_false,reduceIte,Nat.reduceAdd,Nat.reduceSub,Nat.reduceLeDiff,Nat.reduceEqDiff,Nat.reduceMul,Nat.reduceLT,Int.reduceLT,Int.reduceLE,Int.reduceEq]
                · have hfin:L=srtI (qkI h) (l.take (i+1))++R:=by
                    rw[hsn,<-hins,Kyq (qkI h) Q (show ¬qkI h x y by unfold qkI;rw[wx,wy];exact of_eq_false q),hL]
                    simp only[List.append_assoc,List.cons_append,List.nil_append]
                  have z0:((0:Int)<0)=False:=eq_false (by decide)
                  have z1:((1:Int)<0)=False:=eq_false (by decide)
                  rcases emG (ZHl y.dot (wS dy dy.length) x.dot (wS dx dx.length)) with q2|q2 <;>
                    (simp only[QhU,YqB,z16,qdd,Qgj,if_true,if_false,reduceIte,Nat.reduceAdd,Nat.reduceSub,Nat.reduceLeDiff,Nat.reduceEqDiff,Nat.reduceMul,Nat.reduceLT,Int.reduceLT,Int.reduceLE,Int.reduceEq,CO.tmps,Opd.tmps,optT,Nat.reducePow,Nat.reduceDiv,Nat.reduceMod,ZxG,z',ej,g5,g6,iA,ldx,ldy,Ywd,Zz9,gdx,gdy,hbb,q,q2,z0,z1,q1,eo,ei,ox1,ox2,oy1,oy2,im1,e1,Int.toNat_natCast,X1A,X01,zhj rfl hlt,QGw hlt,XgJ hltz,Z3V,ZlO,List.length_map,zMZ hlt hh,hokL,jl1,jl2,Option.bind_some,Option.map_some,if_true,if_false,oD,ne_eq,forall_const]
                     refine ⟨i+1,⟨by omega,g⟩,by dsimp only;omega,?_⟩
                     dsimp only
                     rw[hR,<-hfin]
                     refine Bt.wk ?_
                     simp only[z16,Xq6,if_true,if_false,reduceIte,Nat.reduceAdd,Nat.reduceSub,Nat.reduceLeDiff,Nat.reduceEqDiff,Nat.reduceMul,Nat.reduceLT,Int.reduceLT,Int.reduceLE,Int.reduceEq])
            · have g':((i:Int)<(l.length:Int))=False:=eq_false (by omega)
              rw[List.take_of_length_le (by omega),List.drop_eq_nil_of_le (by omega),List.append_nil]
              simp only[QhU,YqB,z16,Xq6,if_true,if_false,reduceIte,Nat.reduceAdd,Nat.reduceSub,Nat.reduceLeDiff,Nat.reduceEqDiff,Nat.reduceMul,Nat.reduceLT,Int.reduceLT,Int.reduceLE,Int.reduceEq,g',oD,ne_eq,forall_const]
              rw[List.append_nil]
              exact Bt.refl _ _ _
          · cases e2
        · cases e2
    · cases e
  · cases e
end
end Go.Proofs.YtebcngelgdpbjaaGreat
