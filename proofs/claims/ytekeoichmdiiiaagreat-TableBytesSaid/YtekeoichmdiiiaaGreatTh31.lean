/- Part 31 of what the laws' proofs rest on. No condition. -/
import Derived.Test.YtekeoichmdiiiaaGreatTh30
set_option linter.all false
namespace Go.Proofs.YtekeoichmdiiiaaGreat
section
set_option maxRecDepth 100000
set_option maxHeartbeats 8000000
def QNJ (g:TgD):Prop:=200<g.name.length\/20<g.held.length
def K28 (r:RpD):Prop:=200<r.name.length\/10<r.tags.length\/20<r.mans.length\/∃g∈r.tags,QNJ g
def KHX (t:TbD):Prop:=20<t.v.length\/10<t.repos.length\/∃r∈t.repos,K28 r
theorem qFt {t:TbD} (h:¬KHX t):BdT t:=by
 have h1:t.v.length<=20:=Nat.le_of_not_lt fun q=>h (.inl q)
 have h2:t.repos.length<=10:=Nat.le_of_not_lt fun q=>h (.inr (.inl q))
 refine ⟨by omega,by omega,fun r hr=>?_⟩
 have k:¬K28 r:=fun q=>h (.inr (.inr ⟨r,hr,q⟩))
 have k1:r.name.length<=200:=Nat.le_of_not_lt fun q=>k (.inl q)
 have k2:r.tags.length<=10:=Nat.le_of_not_lt fun q=>k (.inr (.inl q))
 have k3:r.mans.length<=20:=Nat.le_of_not_lt fun q=>k (.inr (.inr (.inl q)))
 refine ⟨by omega,by omega,by omega,fun g hg=>?_⟩
 have m:¬QNJ g:=fun q=>k (.inr (.inr (.inr ⟨g,hg,q⟩)))
 have m1:g.name.length<=200:=Nat.le_of_not_lt fun q=>m (.inl q)
 have m2:g.held.length<=20:=Nat.le_of_not_lt fun q=>m (.inr q)
 omega
open Classical in
noncomputable def QQx:List AV->List AB->Option (AV×List AB)
 | [a],h=>(getT h a).bind fun t=>some (.b (decide (KHX t)),h)
 | _,_=>none
open Classical in
theorem qPQ:Spec Tryz.prog 9 QQx:=by
 intro args h v h' e
 unfold QQx at e
 split at e
 ·obtain ⟨v1,s1,n1,m,rfl,ha,e2⟩:=JfV e
  clear e
  rw[Option.some.injEq,Prod.mk.injEq]at e2
  obtain ⟨rfl,rfl⟩:=e2
  refine FnAt.c (FnAt.frz0 fun hz=>?_)
  replace ha:=ha.frz
  generalize h.map AB.freeze=h at *
  refine FnAt.run (by kernel_rfl) (T:=⟨[],[]⟩) ⟨trivial,trivial⟩ Tryz.func9 sw9 fun ho hh=>?_
  simp only[ZiP,q0E,JL2,Bool.and_eq_true,and_true]at ho
  obtain ⟨ov,os⟩:=ho
  have fv:=ha.v.fx ov (sz:=1) rfl
  have fs:=ha.s.s.fx os (sz:=3) rfl
  rw[List.length_map]at fs
  have c1:∀l:List AV,(AV.ag l).cells=l:=fun _=>rfl
  have lS:∀l:List UInt8,lenV (.s l)=some (l.length:Int):=fun _=>rfl
  have sS:∀l:List UInt8,(AV.s l).isStr=true:=fun _=>rfl
  have km:(m.map (·.2)).length=m.length:=List.length_map _
  unfold w9
  rcases emG ((20:Int)<(n1.length:Int)) with q1|q1
  ·have hn:KHX ⟨n1,m.map (·.2)⟩:=.inl (by have:=of_eq_true q1;dsimp only;omega)
   simp only[z49,Qs3,XtK,K1H,JS3,simprocAttr,CO.tmps,Opd.tmps,optT,fv,fs,q1,c1,oW hh hz,oD,ne_eq,forall_const]
   exact Bt.dropB _ hh (by rw[decide_eq_true hn])
  rcases emG ((10:Int)<(m.length:Int)) with q2|q2
  ·have hn:KHX ⟨n1,m.map (·.2)⟩:=.inr (.inl (by have:=of_eq_true q2;dsimp only;rw[km];omega))
   simp only[z49,Qs3,XtK,K1H,JS3,simprocAttr,CO.tmps,Opd.tmps,optT,fv,fs,q1,q2,c1,oW hh hz,oD,ne_eq,forall_const]
   exact Bt.dropB _ hh (by rw[decide_eq_true hn])
  have sov:∀c,v1.ok (fun j=>decide (j<h.length+c))=true:=fun c=>AV.ok_mono (fun i q=>by simp only[decide_eq_true_eq]at q ⊢;omega) v1 ov
  have sos:∀c,s1.ok (fun j=>decide (j<h.length+c))=true:=fun c=>AV.ok_mono (fun i q=>by simp only[decide_eq_true_eq]at q ⊢;omega) s1 os
  have rv:∀sel,Wk (v1.ren (selN h.length sel)) v1:=fun sel=>Wk.ren (fun i hi=>qMB hi) ov
  have rs:∀sel,Wk (s1.ren (selN h.length sel)) s1:=fun sel=>Wk.ren (fun i hi=>qMB hi) os
  simp only[z49,Qs3,XtK,K1H,JS3,simprocAttr,CO.tmps,Opd.tmps,optT,fv,fs,q1,q2,c1,oW hh hz,oD,ne_eq,forall_const]
  refine JLk (S:=Nat) (fun i=>m.length-i) (fun i=>tp 1++[.p (h.length+0) 0]++tp 1++[.i .i64 (i:Int)]++tp 65) (fun _=>h++[.blk false true [v1,s1]]) (fun i=>i<=m.length/\∀r∈(m.map (·.2)).take i,¬K28 r) 0 ⟨Nat.zero_le _,by simp⟩ ?_ fun i hi=>?_
  ·refine Bt.wk ?_
   simp only[XtK,JS3,simprocAttr]
  obtain ⟨i1,i2⟩:=hi
  by_cases g:i<m.length
  rotate_left
  ·have g':((i:Int)<(m.length:Int))=False:=eq_false (by omega)
   have hn:¬KHX ⟨n1,m.map (·.2)⟩:=by
    rintro (z|z|⟨r,hr,z⟩)
    ·exact of_eq_false q1 (by dsimp only at z;omega)
    ·exact of_eq_false q2 (by dsimp only at z;rw[km]at z;omega)
    ·rw[List.take_of_length_le (by rw[km];omega)]at i2
     exact i2 r hr z
   simp only[z49,Qs3,XtK,K1H,JS3,simprocAttr,CO.tmps,Opd.tmps,optT,fv,fs,g',c1,oW hh hz,oD,ne_eq,forall_const]
   exact Bt.dropB _ hh (by rw[decide_eq_false hn])
  have hm:=of_eq_false q2
  have g':((i:Int)<(m.length:Int))=True:=eq_true (by omega)
  have gz:((0:Int)<=(i:Int)/\(i:Int)<(m.length:Int))=True:=eq_true (by omega)
  have e1:IntKind.i64.wrap ((i:Int)+1)=((i+1:Nat):Int):=Q7p (by unfold In64;omega)
  obtain ⟨dx,rx,ox⟩:=ha.s.at g
  have htk:(m.map (·.2)).take (i+1)=(m.map (·.2)).take i++[m[i].2]:=by
   rw[List.take_succ_eq_append_getElem (by rw[List.length_map];exact g),List.getElem_map]
  have hin:m[i].2∈m.map (·.2):=List.mem_map.2 ⟨_,List.getElem_mem g,rfl⟩
  generalize m[i]=ex at *
  obtain ⟨x,X⟩:=ex
  dsimp only at *
  obtain ⟨nx,⟨tx,htx,etx⟩,mx⟩:=Xxg rx
  rw[XBQ]at dx ox
  have wx:=zUA x
  rw[X6g]at ox wx
  simp only[ZiP,q0E,ok_s,Bool.and_eq_true,and_true,true_and]at ox
  have ftx:=htx.s.fx ox.1 (sz:=2) rfl
  rw[List.length_map]at ftx
  have fmx:=mx.fx ox.2 (sz:=34) rfl
  have ltx:X.tags.length=tx.length:=by rw[etx,List.length_map]
  have yes:K28 X->KHX ⟨n1,m.map (·.2)⟩:=fun z=>.inr (.inr ⟨X,hin,z⟩)
  rcases emG ((200:Int)<(x.name.length:Int)) with q3|q3
  ·have hn:=yes (.inl (by have:=of_eq_true q3;rw[nx]at this;omega))
   simp only[z49,Qs3,XtK,K1H,JS3,simprocAttr,CO.tmps,Opd.tmps,optT,fv,fs,g,g',gz,dx,XBQ,X6g,wx,ox,ftx,fmx,lS,sS,q3,c1,oW hh hz,oD,ne_eq,forall_const]
   exact Bt.dropB _ hh (by rw[decide_eq_true hn])
  rcases emG ((10:Int)<(tx.length:Int)) with q4|q4
  ·have hn:=yes (.inr (.inl (by have:=of_eq_true q4;omega)))
   simp only[z49,Qs3,XtK,K1H,JS3,simprocAttr,CO.tmps,Opd.tmps,optT,fv,fs,g,g',gz,dx,XBQ,X6g,wx,ox,ftx,fmx,lS,sS,q3,q4,c1,oW hh hz,oD,ne_eq,forall_const]
   exact Bt.dropB _ hh (by rw[decide_eq_true hn])
  rcases emG ((20:Int)<(X.mans.length:Int)) with q5|q5
  ·have hn:=yes (.inr (.inr (.inl (by have:=of_eq_true q5;omega))))
   simp only[z49,Qs3,XtK,K1H,JS3,simprocAttr,CO.tmps,Opd.tmps,optT,fv,fs,g,g',gz,dx,XBQ,X6g,wx,ox,ftx,fmx,lS,sS,q3,q4,q5,c1,oW hh hz,oD,ne_eq,forall_const]
   exact Bt.dropB _ hh (by rw[decide_eq_true hn])
  simp only[z49,Qs3,XtK,K1H,JS3,simprocAttr,CO.tmps,Opd.tmps,optT,fv,fs,g,g',gz,dx,XBQ,X6g,wx,ox,ftx,fmx,lS,sS,q3,q4,q5,c1,oW hh hz,oD,ne_eq,forall_const]
  refine JLk (S:=Nat) (fun j=>tx.length-j) (fun j=>tp 1++[.p (h.length+0) 0]++tp 1++[.i .i64 (i:Int),.p (h.length+1) 0,.i .i64 (j:Int)]++tp 63) (fun _=>h++[.blk false true [v1,s1],.blk false true [.s x.name,x.tags.a,x.mans.a]]) (fun j=>j<=tx.length/\∀g∈(tx.map (·.2)).take j,¬QNJ g) 0 ⟨Nat.zero_le _,by simp⟩ ?_ fun j hj=>?_
  ·refine Bt.wk ?_
   simp only[XtK,JS3,simprocAttr]
  obtain ⟨j1,j2⟩:=hj
  have kt:(tx.map (·.2)).length=tx.length:=List.length_map _
  have ht4:=of_eq_false q4
  by_cases gj:j<tx.length
  rotate_left
  ·have gj':((j:Int)<(tx.length:Int))=False:=eq_false (by omega)
   have hno:¬K28 X:=by
    rintro (z|z|z|⟨g2,hg2,z⟩)
    ·exact of_eq_false q3 (by rw[nx];omega)
    ·exact of_eq_false q4 (by omega)
    ·exact of_eq_false q5 (by omega)
    ·rw[List.take_of_length_le (by rw[kt];omega),<-etx]at j2
     exact j2 g2 hg2 z
   simp only[z49,Qs3,XtK,K1H,JS3,simprocAttr,CO.tmps,Opd.tmps,optT,ftx,gj',e1,c1,oW hh hz,oD,ne_eq,forall_const]
   refine ⟨i+1,⟨g,fun r hr=>?_⟩,by dsimp only;omega,?_⟩
   ·rw[htk]at hr
    rcases List.mem_append.1 hr with q|q
    ·exact i2 r q
    ·rw[List.mem_singleton]at q
     subst q
     exact hno
   ·dsimp only
    exact Bt.sel [0] hh (by decide) (by simp only[Ztz,FrSel,BlkSel,AV.ren,renL,AV.ok,okL,Option.some.injEq,exists_eq_left',List.length_cons,List.length_nil,Nat.reduceAdd,Nat.reduceLT,reduceCtorEq,implies_true,exists_eq',sov,sos,rv,rs,ov,os]) (by simp only[tp_0,tp_s,List.cons_append,List.nil_append,Ztz,FrSel,BlkSel,AV.ren,renL,AV.ok,okL,Option.some.injEq,exists_eq_left',List.length_cons,List.length_nil,Nat.reduceAdd,Nat.reduceLT,reduceCtorEq,implies_true,exists_eq'])
  have gj':((j:Int)<(tx.length:Int))=True:=eq_true (by omega)
  have gjz:((0:Int)<=(j:Int)/\(j:Int)<(tx.length:Int))=True:=eq_true (by omega)
  have ej:IntKind.i64.wrap ((j:Int)+1)=((j+1:Nat):Int):=Q7p (by unfold In64;omega)
  obtain ⟨dgx,rgx,ogx⟩:=htx.at gj
  have htj:(tx.map (·.2)).take (j+1)=(tx.map (·.2)).take j++[tx[j].2]:=by
   rw[List.take_succ_eq_append_getElem (by rw[List.length_map];exact gj),List.getElem_map]
  have hjn:tx[j].2∈X.tags:=by rw[etx];exact List.mem_map.2 ⟨_,List.getElem_mem gj,rfl⟩
  generalize tx[j]=ey at *
  obtain ⟨a,A⟩:=ey
  dsimp only at *
  obtain ⟨na,ha2⟩:=J9V rgx
  rw[QMV]at dgx ogx
  rw[q2E]at ogx
  simp only[ZiP,q0E,ok_s,Bool.and_eq_true,and_true,true_and]at ogx
  have fga:=ha2.fx ogx (sz:=34) rfl
  rcases emG ((200:Int)<(a.name.length:Int)) with q6|q6
  ·have hn:=yes (.inr (.inr (.inr ⟨A,hjn,.inl (by have:=of_eq_true q6;rw[na]at this;omega)⟩)))
   simp only[z49,Qs3,XtK,K1H,JS3,simprocAttr,CO.tmps,Opd.tmps,optT,ftx,gj,gj',gjz,dgx,QMV,q2E,lS,sS,fga,q6,c1,List.getElem?_cons_zero,List.getElem?_cons_succ,Nat.reduceLT,oW hh hz,oD,ne_eq,forall_const]
   exact Bt.dropB _ hh (by rw[decide_eq_true hn])
  rcases emG ((20:Int)<(A.held.length:Int)) with q7|q7
  ·have hn:=yes (.inr (.inr (.inr ⟨A,hjn,.inr (by have:=of_eq_true q7;omega)⟩)))
   simp only[z49,Qs3,XtK,K1H,JS3,simprocAttr,CO.tmps,Opd.tmps,optT,ftx,gj,gj',gjz,dgx,QMV,q2E,lS,sS,fga,q6,q7,c1,List.getElem?_cons_zero,List.getElem?_cons_succ,Nat.reduceLT,oW hh hz,oD,ne_eq,forall_const]
   exact Bt.dropB _ hh (by rw[decide_eq_true hn])
  simp only[z49,Qs3,XtK,K1H,JS3,simprocAttr,CO.tmps,Opd.tmps,optT,ftx,gj,gj',gjz,dgx,QMV,q2E,lS,sS,fga,q6,q7,ej,c1,List.getElem?_cons_zero,List.getElem?_cons_succ,Nat.reduceLT,oW hh hz,oD,ne_eq,forall_const]
  refine ⟨j+1,⟨gj,fun g2 hg2=>?_⟩,by dsimp only;omega,?_⟩
  ·rw[htj]at hg2
   rcases List.mem_append.1 hg2 with q|q
   ·exact j2 g2 q
   ·rw[List.mem_singleton]at q
    subst q
    rintro (z|z)
    ·exact of_eq_false q6 (by rw[na];omega)
    ·exact of_eq_false q7 (by omega)
  ·dsimp only
   refine Bt.wk ?_
   simp only[XtK,JS3,simprocAttr]
 ·cases e
end
section
theorem Jzl {α:Type} {f:α->List UInt8} {b:Nat}:∀ {l:List α},(∀x∈l,(f x).length<=b)->(l.flatMap f).length<=l.length*b
 | [],_=>Nat.zero_le _
 | x::l,h=>by
  have h1:=h x (.head _)
  have h2:=Jzl (l:=l) fun y hy=>h y (.tail _ hy)
  rw[List.flatMap_cons,List.length_append,List.length_cons,Nat.add_mul,Nat.one_mul]
  omega
theorem qxQ (x:Hd):(qq2 x).length<=50:=by
 have h1:=zHu x.1.1
 have h2:=zHu x.1.2
 have h3:=x.2.h
 unfold qq2
 rw[List.length_append,List.length_append]
 omega
theorem qKL {α:Type} {f:α->List UInt8} {b n:Nat} {l:List α} (h:∀x∈l,(f x).length<=b) (hn:l.length<=n):(encL f l).length<=9+n*b:=by
 have h1:=zHu l.length
 have h2:=Jzl h
 have h3:=Nat.mul_le_mul_right b hn
 unfold encL
 rw[List.length_append]
 omega
theorem KpV {s:List UInt8} (h:s.length<=200):(qMO s).length<=209:=by
 have h1:=zHu s.length
 unfold qMO
 rw[List.length_append]
 omega
theorem znJ {t:TbD} (h:¬KHX t):(encT t).length<=1000000:=by
 have h1:t.v.length<=20:=Nat.le_of_not_lt fun q=>h (.inl q)
 have h2:t.repos.length<=10:=Nat.le_of_not_lt fun q=>h (.inr (.inl q))
 have hr:∀r∈t.repos,(Jpu r).length<=13500:=fun r hr=>by
  have k:¬K28 r:=fun q=>h (.inr (.inr ⟨r,hr,q⟩))
  have k1:r.name.length<=200:=Nat.le_of_not_lt fun q=>k (.inl q)
  have k2:r.tags.length<=10:=Nat.le_of_not_lt fun q=>k (.inr (.inl q))
  have k3:r.mans.length<=20:=Nat.le_of_not_lt fun q=>k (.inr (.inr (.inl q)))
  have hg:∀g∈r.tags,(YvM g).length<=1218:=fun g hg=>by
   have m:¬QNJ g:=fun q=>k (.inr (.inr (.inr ⟨g,hg,q⟩)))
   have m1:g.name.length<=200:=Nat.le_of_not_lt fun q=>m (.inl q)
   have m2:g.held.length<=20:=Nat.le_of_not_lt fun q=>m (.inr q)
   have e1:=KpV m1
   have e2:=qKL (f:=qq2) (fun x _=>qxQ x) m2
   unfold YvM
   rw[List.length_append]
   omega
  have e1:=KpV k1
  have e2:=qKL (f:=YvM) hg k2
  have e3:=qKL (f:=qq2) (fun x _=>qxQ x) k3
  unfold Jpu
  rw[List.length_append,List.length_append]
  omega
 have e1:=zHu t.v.length
 have e2:=YGx t.v
 have e3:=qKL (f:=Jpu) hr h2
 unfold encT
 rw[List.length_append,List.length_append]
 omega
theorem qjB (t:TbD):encT t≠[]:=fun e=>Zom _ (List.append_eq_nil_iff.1 (List.append_eq_nil_iff.1 e).1).1
theorem zcZ {l:List Int} (h:∀x∈l,0<=x/\x<=1048576) (r:Int):atV l r<=1048576:=by
 unfold atV
 split
 ·omega
 ·rename_i q
  have hl:(r-1).toNat<l.length:=by omega
  have:=(h (l.getD (r-1).toNat 0) (by rw[List.getD_eq_getElem?_getD,List.getElem?_eq_getElem hl];exact List.getElem_mem hl)).2
  omega
theorem QOi {l:List Int} (h:∀x∈l,0<=x/\x<=1048576) (hl:l.length<=16) {d:Int×Int} (hd:vhas l d):0<=d.1/\d.1<=9223372036854775807/\0<=d.2/\d.2<=9223372036854775807:=by
 obtain ⟨h1,h2,h3⟩:=hd
 have h4:=zcZ h d.1
 have h5:¬((l.length:Int)<d.1):=fun q=>by
  unfold atV at h3
  rw[if_pos (.inr q)]at h3
  omega
 omega
theorem zGX {t:TbD} (hc:chkT t=0) (hb:BdT t):TbIn t:=by
 obtain ⟨h1,h2,h3⟩:=Qbs.1 hc
 have hv:∀x:Hd,(∃w∈ZrA t.repos,w.held=x)->HdIn x:=fun x ⟨w,hw,e⟩=>by
  have:=QOi h1.2.2 h1.2.1 (h3.vec w hw)
  rw[e]at this
  exact ⟨this.1,this.2.1,this.2.2.1,this.2.2.2⟩
 refine ⟨h1.2.1,fun x hx=>⟨(h1.2.2 x hx).1,by have:=(h1.2.2 x hx).2;omega⟩,by have:=hb.repos;omega,fun r hr=>?_⟩
 have br:=hb.r r hr
 have nr:=h2 r hr
 refine ⟨by have:=nr.1.1;omega,by have:=br.tags;omega,fun g hg=>⟨by have:=(nr.2 g hg).1;omega,by have:=(br.tag g hg).2;omega,fun x hx=>hv x ⟨⟨r.name,g.name,false,x⟩,?_,rfl⟩⟩,by have:=br.mans;omega,fun x hx=>hv x ⟨⟨r.name,[],true,x⟩,?_,rfl⟩⟩
 ·unfold ZrA qEk
  refine List.mem_flatMap.2 ⟨r,hr,List.mem_append_left _ (Qn2.2 ⟨g,hg,x,hx,rfl⟩)⟩
 ·unfold ZrA qEk qyh
  exact List.mem_flatMap.2 ⟨r,hr,List.mem_append_right _ (List.mem_map.2 ⟨x,hx,rfl⟩)⟩
end
section
set_option maxRecDepth 100000
set_option maxHeartbeats 4000000
def Zlc:List AV->List AB->Option (AV×List AB)
 | [.p i 0],h=>match zZU h i with
   | some [.p _ 0,_,_]=>some (.b false,h)
   | _=>none
 | _,_=>none
theorem KMf:Spec Tryz.prog 168 Zlc:=by
 intro args h v h' e
 unfold Zlc at e
 split at e
 ·rename_i i
  split at e
  ·rename_i j s p hb
   cases e
   refine FnAt.c (FnAt.run (by kernel_rfl) (T:=⟨[],[]⟩) ⟨trivial,trivial⟩ Tryz.func168 Xv6 fun ho hh=>?_)
   have f1:=X5u hb
   unfold w168
   simp only[z49,Qs3,XtK,K1H,JS3,simprocAttr,CO.tmps,Opd.tmps,optT,f1,YNB,List.getElem?_cons_zero,List.getElem?_cons_succ]
   exact Bt.dropB _ hh rfl
  ·cases e
 ·cases e
def JK7:List AV->List AB->Option (AV×List AB)
 | [.i .i64 n],h=>if 0<=n/\n<=67108864 then some (.tu [.p h.length 0,.i .i64 0],h++[.blk false true [.p (h.length+1) 0,.i .i64 n,.ns],.blk true true [.i .i64 0,.i .i64 0]]) else none
 | _,_=>none
theorem z8R:Spec Tryz.prog 68 JK7:=by
 intro args h v h' e
 unfold JK7 at e
 split at e
 ·rename_i n
  split at e
  ·rename_i hn
   cases e
   refine FnAt.c (FnAt.run (by kernel_rfl) (T:=⟨[],[]⟩) ⟨trivial,trivial⟩ Tryz.func68 sw68 fun ho hh=>?_)
   have g1:(n<0)=False:=eq_false (by omega)
   have g2:((67108864:Int)<n)=False:=eq_false (by omega)
   unfold w68
   simp only[z49,Qs3,XtK,K1H,JS3,simprocAttr,CO.tmps,Opd.tmps,optT,g1,g2]
   exact Bt.sel [1,0] hh (by decide) (by simp only[Ztz,FrSel,BlkSel,AV.ren,renL,AV.ok,okL,Option.some.injEq,exists_eq_left',List.length_cons,List.length_nil,Nat.reduceAdd,Nat.reduceLT,reduceCtorEq,implies_true,exists_eq',Ytc,Ket]) (by simp only[Ztz,FrSel,BlkSel,AV.ren,renL,AV.ok,okL,Option.some.injEq,exists_eq_left',List.length_cons,List.length_nil,Nat.reduceAdd,Nat.reduceLT,reduceCtorEq,implies_true,exists_eq'])
  ·cases e
 ·cases e
end
section
set_option maxRecDepth 100000
set_option maxHeartbeats 4000000
def wtr (h:List AB) (i:Nat):Option (Nat×Int×AV×Int×Int):=match h[i]? with
 | some (.blk false _ [.p j 0,.i .i64 n,s])=>match zZU h j with
  | some [.i .i64 e,.i .i64 a]=>some (j,n,s,e,a)
  | _=>none
 | _=>none
theorem JDm {β:Type} {h:List AB} {i:Nat} {f:Nat×Int×AV×Int×Int->Option β} {b:β} (q:(wtr h i).bind f=some b):∃j n s e a,(∃m,h[i]?=some (.blk false m [.p j 0,.i .i64 n,s]))/\zZU h i=some [.p j 0,.i .i64 n,s]/\zZU h j=some [.i .i64 e,.i .i64 a]/\f (j,n,s,e,a)=some b:=by
 obtain ⟨x,h1,h2⟩:=oQ.1 q
 unfold wtr at h1
 split at h1
 ·rename_i hb
  split at h1
  ·rename_i hc
   cases h1
   exact ⟨_,_,_,_,_,⟨_,hb⟩,by unfold zZU;rw[hb],hc,h2⟩
  ·cases h1
 ·cases h1
theorem zYd {h:List AB} (hh:HOk h) {i j:Nat} {s:AV} {n:Int} {m:Bool} (q:h[i]?=some (.blk false m [.p j 0,.i .i64 n,s])):s.ok (fun k=>decide (k<h.length))=true:=by
 have:=hh i _ q
 simp only[AB.ok,ZiP,Bool.and_eq_true]at this
 exact this.2.2.1
noncomputable def Jhs:List AV->List AB->Option (AV×List AB)
 | [.p i 0],h=>(wtr h i).bind fun x=>(getS X0d h x.2.2.1).bind fun bs=>if bs.length<=1000000 then
   if x.2.2.2.1=0 then some (.tu [rsl X0d h.length bs,.i .i64 0],h++[resB X0d true bs]) else some (.tu [.ns,.i .i64 x.2.2.2.1],h)
   else none
 | _,_=>none
theorem qih:Spec Tryz.prog 73 Jhs:=by
 intro args h v h' e
 unfold Jhs at e
 split at e
 ·rename_i i
  obtain ⟨j,n,s,er,a,⟨m,hi⟩,hb,hc,e⟩:=JDm e
  dsimp only at e
  obtain ⟨bs,hs,e⟩:=Qk0 e
  split at e
  ·rename_i hl
   have l1:=eq_true hl
   refine FnAt.c (FnAt.run (by kernel_rfl) (T:=⟨[⟨168,Zlc,fun _=>[]⟩,⟨169,zbh,fun _=>[]⟩,⟨170,qjh,fun _=>[]⟩],[]⟩) ⟨⟨KMf,ZST,Z6M,trivial⟩,trivial⟩ Tryz.func73 sw73 fun ho hh=>?_)
   have f1:=X5u hb
   have f2:=X5u hc
   have f3:=hs.fx (zYd hh hi) (sz:=1) rfl
   unfold w73
   by_cases g:er=0
   ·have g':=eq_true g
    rw[if_pos g]at e
    cases e
    simp only[z49,Qs3,XtK,K1H,JS3,simprocAttr,CO.tmps,Opd.tmps,optT,f1,f2,f3,g',l1,Zlc,zbh,qjh,YNB,List.getElem?_cons_zero,List.getElem?_cons_succ,ne_eq,not_true_eq_false,decide_true,decide_false]
    exact Bt.eq rfl rfl
   ·have g':=eq_false g
    rw[if_neg g]at e
    cases e
    simp only[z49,Qs3,XtK,K1H,JS3,simprocAttr,CO.tmps,Opd.tmps,optT,f1,f2,f3,g',l1,Zlc,zbh,qjh,YNB,List.getElem?_cons_zero,List.getElem?_cons_succ,ne_eq,not_false_eq_true,decide_true,decide_false]
    exact Bt.drop _ hh rfl (by simp only[Zlu,ZiP,q0E,KE7,ok_i,Bool.and_true])
  ·cases e
 ·cases e
end
section
set_option maxRecDepth 100000
set_option maxHeartbeats 4000000
theorem ZvE {ty:TypeId} {v:AV} {p:List UInt8×Bool} (h:encV ty v=some p):p.1.length≠0/\p.1.length<=1000009:=by
 unfold encV at h
 split at h
 ·split at h
  ·rename_i n
   split at h
   ·cases h
    exact ⟨YHu n,by have:=zHu n;dsimp only;omega⟩
   ·cases h
  ·cases h
 split at h
 ·split at h
  ·rename_i l
   split at h
   ·rename_i hl
    cases h
    have:=YHu l.length
    have:=zHu l.length
    dsimp only
    rw[List.length_append]
    omega
   ·cases h
  ·cases h
 split at h
 ·obtain ⟨d,_,hp⟩:=Option.map_eq_some_iff.1 h
  cases hp
  rw[d.h]
  decide
 ·cases h
section
variable {h:List AB} {i j:Nat} {lim:Int} {s:AV} {bs:List UInt8} {e:Int}
theorem rd_i (H:WrH h i j lim s bs e):zZU h i=some [.p j 0,.i .i64 lim,s]:=by unfold zZU;rw[H.hi];rfl
theorem rd_j (H:WrH h i j lim s bs e):zZU h j=some [.i .i64 e,.i .i64 0]:=by unfold zZU;rw[H.hj];rfl
theorem YuF (H:WrH h i j lim s bs e) (st:List UInt8×Int) (k:Option Nat) (L:List AB):ldV (wX h i j lim s st k++L) none (.p i 0)=some (.p j 0)/\ldV (wX h i j lim s st k++L) none (.p j 0)=some (.i .i64 st.2):=by
 have hil:=H.il
 have hjl:=H.jl
 constructor
 ·simp only[ldV,zZU]
  rw[List.getElem?_append_left (by rw[XqL];exact hil),wX_i H]
  rfl
 ·simp only[ldV,zZU]
  rw[List.getElem?_append_left (by rw[XqL];exact hjl),wX_j H]
  rfl
theorem z18 (H:WrH h i j lim s bs 0) (x:Int) (L:List AB):qJg [.p j 0,.i .i64 x,.i .i64 0] (h++L)=some (.tu [],wX h i j lim s (bs,x) none++L):=by
 have hjl:=H.jl
 have hj:(h++L)[j]?=some (.blk true true [.i .i64 0,.i .i64 0]):=by rw[List.getElem?_append_left hjl];exact H.hj
 unfold qJg
 simp only[hj,if_true]
 rw[List.set_append_left _ _ hjl]
 rfl
theorem Zu4 (H:WrH h i j lim s bs e) {enc:List UInt8} (h0:enc.length≠0) (hm:enc.length<=1000009) (L:List AB):appW (h++L) true 1 1 s enc.length (X0d.cells enc)=some (apS X0d (h.length+L.length) (bs++enc),qBs s h++(L++[resB X0d true (bs++enc)])):=by
 have hl1:=H.hlim
 have hl2:=H.hlen
 rcases H.hs with ⟨q1,q2⟩|⟨q,q1,q2,q3⟩
 ·rw[q1,q2,zp5,if_neg h0,if_pos ⟨by omega,by unfold maxLen;omega⟩,List.nil_append,Keb _ h0,KFt h0]
  rfl
 ·obtain ⟨p1,p2,p3,p4⟩:=H.q q1 q2
  have hne:bs.length+enc.length≠0:=by omega
  have hg:(h++L)[q]?=some (.blk true true (X0d.cells bs)):=by rw[List.getElem?_append_left p4];exact p1
  have hcl:(X0d.cells bs).length=bs.length:=by rw[X0d.cells_len,YPl];omega
  rw[q1,Keb _ q2,zUV _ q2,zP9 q2]
  simp only[appW,qBs,hg]
  rw[if_neg h0,if_neg (by omega),if_pos ⟨trivial,by omega,by omega,by unfold maxLen;omega⟩,if_neg (by simp),if_pos ⟨trivial,by decide,trivial,by omega⟩,List.drop_zero,List.length_append,List.set_append_left _ _ p4,List.append_assoc]
  rfl
theorem st_w (H:WrH h i j lim s bs 0) (k:Nat) (bs':List UInt8) (L:List AB):stV (qBs s h++L) none (.p i 2) (apS X0d (h.length+k) bs')=some (wX h i j lim s (bs',0) (some k)++L):=by
 have hq:i∉idOf s:=by
  rcases H.hs with ⟨q1,q2⟩|⟨q,q1,q2,q3⟩
  ·rw[q1];simp [idOf]
  ·obtain ⟨p1,p2,p3,p4⟩:=H.q q1 q2
   rw[q1,Keb _ q2]
   simp only[idOf,List.mem_singleton]
   exact Ne.symm p2
 have hqj:j∉idOf s:=by
  rcases H.hs with ⟨q1,q2⟩|⟨q,q1,q2,q3⟩
  ·rw[q1];simp [idOf]
  ·obtain ⟨p1,p2,p3,p4⟩:=H.q q1 q2
   rw[q1,Keb _ q2]
   simp only[idOf,List.mem_singleton]
   exact Ne.symm p3
 rw[ZBH (h:=qBs s h) (i:=i) (fl:=false) (cells:=[.p j 0,.i .i64 lim,s]) (by rw[KC2 hq];exact H.hi) (o:=2) (Nat.le_refl 3) (by unfold apS;split <;> rfl) (KiU _ _)]
 have:wX h i j lim s (bs',0) (some k)=(qBs s h).set i (blkW j lim (apS X0d (h.length+k) bs')):=by
  simp only[wX]
  rw[qgt]
  rw[List.getElem?_set_ne H.ne,KC2 hqj]
  exact H.hj
 rw[this]
 rfl
end
noncomputable def YXI:List AV->List AB->Option (AV×List AB)
 | [.p i 0,.ifc ty v],h=>(encV ty v).bind fun p=>wPut h i p.1 p.2
 | _,_=>none
theorem zFG:Spec Tryz.prog 165 YXI:=by
 intro args h v h' e
 unfold YXI at e
 split at e
 ·rename_i i ty x
  obtain ⟨⟨enc,ok⟩,hp,e⟩:=oQ.1 e
  obtain ⟨n0,n1⟩:=ZvE hp
  dsimp only at e n0 n1
  unfold wPut at e
  obtain ⟨j,lim,s,bs,er,H,e⟩:=Zix e
  dsimp only at e
  cases e
  unfold wOut
  refine FnAt.c (FnAt.run (by kernel_rfl) (T:=⟨[⟨168,Zlc,fun _=>[]⟩,⟨169,zbh,fun _=>[]⟩,⟨258,qJg,wsP⟩,⟨257,XJM,fun _=>[]⟩],[]⟩) ⟨⟨KMf,ZST,Zvp,XEC,trivial⟩,trivial⟩ Tryz.func165 Kmn fun ho hh=>?_)
  have f1:=X5u (rd_i H)
  have f2:=X5u (rd_j H)
  have hl1:=H.hlim
  have hl2:=H.hlen
  have hso:s.ok (fun k=>decide (k<h.length))=true:=by
   have:=hh i _ H.hi
   simp only[blkW,AB.ok,ZiP,Bool.and_eq_true]at this
   exact this.2.2.1
  have hsl:s.isSl=true:=by
   rcases H.hs with ⟨q1,q2⟩|⟨q,q1,q2,q3⟩
   ·rw[q1];rfl
   ·rw[q1];exact zMR _ _
  have hsv:lenV s=some (bs.length:Int):=by
   rcases H.hs with ⟨q1,q2⟩|⟨q,q1,q2,q3⟩
   ·rw[q1,q2];rfl
   ·rw[q1];exact Qsh _ _
  have s1:=QP8 hsl
  have s2:=Zcq hsl
  have s3:=Jrd hsl
  have s4:∀c lo hi anc past,s.ok (qOk (h.length+c) lo hi anc past)=true:=fun c lo hi anc past=>AV.ok_mono (fun k hk=>ZX5 (by simp only[decide_eq_true_eq]at hk;omega)) s hso
  unfold w165
  by_cases g:er=0
  case neg =>
   have g':=eq_false g
   have hw:wput lim bs er enc ok=(bs,er):=by unfold wput;rw[if_neg g]
   rw[hw,if_pos rfl,if_pos rfl]
   simp only[z49,Qs3,XtK,K1H,JS3,simprocAttr,CO.tmps,Opd.tmps,optT,f1,f2,g',Zlc,zbh,YNB,List.getElem?_cons_zero,List.getElem?_cons_succ,not_false_eq_true,decide_true]
   exact QhD (st:=(bs,er)) (k:=none) (d:=0) (L:=[]) H hh rfl _ rfl |> fun q=>by
    unfold wOut at q
    rw[if_pos rfl,if_pos rfl]at q
    have e0:wX h i j lim s (bs,er) none=h:=by
     simp only[wX]
     exact qgt H.hj
    rw[e0]at q ⊢
    exact q
  subst g
  have ff:=z18 H
  have fl:=fun st k L=>(YuF H st k L).1
  have fl2:=fun st k L=>(YuF H st k L).2
  cases ok with
  | false =>
   have hw:wput lim bs 0 enc false=(bs,3):=rfl
   rw[hw]
   simp only[z49,Qs3,XtK,K1H,JS3,simprocAttr,CO.tmps,Opd.tmps,optT,f1,f2,ff,fl,fl2,hp,Zlc,zbh,XJM,YNB,List.getElem?_cons_zero,List.getElem?_cons_succ,not_true_eq_false,not_false_eq_true,decide_true,decide_false,ne_eq]
   refine QhD (P:=Tryz.prog) (st:=(bs,3)) (k:=none) (d:=0) (L:=[resB X0d true enc]) H hh rfl (.i .i64 3) rfl |> fun q=>?_
   unfold wOut at q
   rw[if_pos rfl,if_pos rfl]at q
   exact q
  | true =>
   have w1:IntKind.i64.wrap ((bs.length:Int)+(enc.length:Int))=(bs.length:Int)+(enc.length:Int):=Q7p (by unfold In64;omega)
   by_cases g2:lim<(bs.length:Int)+(enc.length:Int)
   ·have g2':=eq_true g2
    have hw:wput lim bs 0 enc true=(bs,4):=by unfold wput;rw[if_pos rfl,if_pos rfl,if_pos g2]
    rw[hw]
    simp only[z49,Qs3,XtK,K1H,JS3,simprocAttr,CO.tmps,Opd.tmps,optT,f1,f2,ff,fl,fl2,hp,g2',w1,s1,s2,s3,s4,hsv,Zlc,zbh,XJM,YNB,List.getElem?_cons_zero,List.getElem?_cons_succ,not_true_eq_false,not_false_eq_true,decide_true,decide_false,ne_eq]
    refine QhD (P:=Tryz.prog) (st:=(bs,4)) (k:=none) (d:=0) (L:=[resB X0d true enc]) H hh rfl (.i .i64 4) rfl |> fun q=>?_
    unfold wOut at q
    rw[if_pos rfl,if_pos rfl]at q
    exact q
   ·have g2':=eq_false g2
    have hw:wput lim bs 0 enc true=(bs++enc,0):=by unfold wput;rw[if_pos rfl,if_pos rfl,if_neg g2]
    rw[hw]
    have gr:∀id,apS X0d id enc=rsl X0d id enc:=fun id=>JgW _ n0
    have fs:=fun L k l e=>J8W (h:=h) (r:=X0d) (sz:=1) rfl L k l e
    have fa:=Zu4 H n0 n1
    have fst:=st_w H
    simp only[z49,Qs3,XtK,K1H,JS3,simprocAttr,CO.tmps,Opd.tmps,optT,f1,f2,ff,fl,fl2,hp,g2',w1,s1,s2,s3,s4,hsv,gr,fs,fa,fst,qrm,Zlc,zbh,XJM,YNB,List.getElem?_cons_zero,List.getElem?_cons_succ,not_true_eq_false,not_false_eq_true,decide_true,decide_false,ne_eq]
    exact QhD (st:=(bs++enc,0)) (k:=some 1) (d:=0) H hh ⟨Nat.zero_le _,by rw[List.length_append];omega,rfl⟩ (.i .i64 0) rfl
 ·cases e
end
section
set_option maxRecDepth 100000
set_option maxHeartbeats 4000000
noncomputable def XoS:List AV->List AB->Option (AV×List AB)
 | [.p i 0,.i .i64 n],h=>if In64 n then wPut h i (qkv n) (decide (0<=n)) else none
 | _,_=>none
noncomputable def JqN:List AV->List AB->Option (AV×List AB)
 | [.p i 0,.s l],h=>if l.length<=1000000 then wPut h i (qkv l.length++l) true else none
 | _,_=>none
noncomputable def YuM:List AV->List AB->Option (AV×List AB)
 | [.p i 0,a],h=>(qIH a).bind fun d=>wPut h i d.l true
 | _,_=>none
theorem Yy2:Spec Tryz.prog 70 XoS:=by
 intro args h v h' e
 unfold XoS at e
 split at e
 ·rename_i i n
  split at e
  ·rename_i hn
   refine FnAt.c (FnAt.run (by kernel_rfl) (T:=⟨[⟨165,YXI,fun _=>[]⟩],[]⟩) ⟨⟨zFG,trivial⟩,trivial⟩ Tryz.func70 sw70 fun ho hh=>?_)
   have tp:YXI [.p i 0,.ifc 3 (.i .i64 n)] (h++[])=some (v,h'):=by
    rw[List.append_nil]
    unfold YXI
    have:encV 3 (.i .i64 n)=some (qkv n,decide (0<=n)):=by
     unfold encV
     rw[if_pos rfl]
     exact if_pos hn
    simp only[this,Option.bind_some]
    exact e
   unfold w70
   simp only[z49,Qs3,XtK,K1H,JS3,simprocAttr,CO.tmps,Opd.tmps,optT,XHr,tp]
   exact Bt.refl _ _ _
  ·cases e
 ·cases e
theorem KtZ:Spec Tryz.prog 71 JqN:=by
 intro args h v h' e
 unfold JqN at e
 split at e
 ·rename_i i l
  split at e
  ·rename_i hn
   refine FnAt.c (FnAt.run (by kernel_rfl) (T:=⟨[⟨165,YXI,fun _=>[]⟩],[]⟩) ⟨⟨zFG,trivial⟩,trivial⟩ Tryz.func71 sw71 fun ho hh=>?_)
   have tp:YXI [.p i 0,.ifc 9 (.s l)] (h++[])=some (v,h'):=by
    rw[List.append_nil]
    unfold YXI
    have:encV 9 (.s l)=some (qkv l.length++l,true):=by
     unfold encV
     rw[if_neg (by decide),if_pos rfl]
     exact if_pos hn
    simp only[this,Option.bind_some]
    exact e
   unfold w71
   simp only[z49,Qs3,XtK,K1H,JS3,simprocAttr,CO.tmps,Opd.tmps,optT,XHr,tp]
   exact Bt.refl _ _ _
  ·cases e
 ·cases e
theorem qIy:Spec Tryz.prog 167 YuM:=by
 intro args h v h' e
 unfold YuM at e
 split at e
 ·rename_i i a
  obtain ⟨d,hd,e2⟩:=oQ.1 e
  clear e
  obtain rfl:=Jib hd
  unfold wPut at e2
  obtain ⟨j,lim,s,bs,er,H,e3⟩:=Zix e2
  clear e2
  cases e3
  refine FnAt.c (FnAt.run (by kernel_rfl) (T:=⟨[⟨165,YXI,fun _=>[]⟩],[]⟩) ⟨⟨zFG,trivial⟩,trivial⟩ Tryz.func167 JYA fun ho hh=>?_)
  have ev:encV 42 (.ag (idR.f d))=some (d.l,true):=by
   unfold encV
   rw[if_neg (by decide),if_neg (by decide),if_pos rfl,KVT]
   rfl
  obtain ⟨k,R,q1,q2,q3⟩:=QA9 (D:=[]) (R:=[.blk true true (idR.f d)]) H (st:=(bs,er)) (k:=none) rfl H.hlen d.l true
  rw[wX_0 H]at q1
  have tp:YXI [.p i 0,.ifc 42 (.ag (idR.f d))] (h++[.blk true true (idR.f d)])=some (.i .i64 (wput lim bs er d.l true).2,wX h i j lim s (wput lim bs er d.l true) k++R):=by
   unfold YXI
   simp only[ev,Option.bind_some]
   exact q1
  obtain ⟨b1,b2,b3,b4,b5⟩:=YTo d.h
  rw[show d.l.map u8A=idR.f d from rfl]at *
  unfold w167
  simp only[z49,Qs3,XtK,K1H,JS3,simprocAttr,CO.tmps,Opd.tmps,optT,XHr,b1,b2,b3,tp]
  exact QhD H hh q2 _ rfl
 ·cases e
end
section
set_option maxRecDepth 100000
set_option maxHeartbeats 4000000
theorem zX3 (n:Int):FOk fun lim st=>wN lim st n:=⟨fun lim st h=>zvB _ _ _ _ _ h,fun lim st=>JLo _ _ _ _⟩
theorem z3a (t:List UInt8):FOk fun lim st=>wTx lim st t:=⟨fun lim st h=>zvB _ _ _ _ _ h,fun lim st=>JLo _ _ _ _⟩
theorem X7T (t:List UInt8):FOk fun lim st=>wId lim st t:=⟨fun lim st h=>zvB _ _ _ _ _ h,fun lim st=>JLo _ _ _ _⟩
theorem FOk.seq {f g:Int->List UInt8×Int->List UInt8×Int} (F:FOk f) (G:FOk g):FOk fun lim st=>g lim (f lim st):=⟨fun lim st h=>G.le _ _ (F.le _ _ h),fun lim st=>by
 rcases F.grow lim st with q|q <;> rcases G.grow lim (f lim st) with q'|q'
 ·exact .inl (q'.trans q)
 ·exact .inr (by rw[<-q];exact q')
 ·exact .inr (by rw[q'];exact q)
 ·exact .inr (by omega)⟩
theorem Zon:FOk fun _ st=>st:=⟨fun _ _ h=>h,fun _ _=>.inl rfl⟩
section
variable {h:List AB} {i j:Nat} {lim:Int} {s:AV} {bs:List UInt8} {e:Int}
theorem ZPS (H:WrH h i j lim s bs e) {m:Nat} {xs:List AV} (h1:zZU h m=some xs) (h2:xs.length≠3) (h3:xs.length≠2) (h4:∃(k:Nat) (c:AV),xs[k]?=some c/\∀b,c≠u8A b):m≠i/\m≠j/\m∉idOf s:=by
 refine ⟨?_,?_,?_⟩
 ·rintro rfl
  rw[rd_i H]at h1
  cases h1
  exact h2 rfl
 ·rintro rfl
  rw[rd_j H]at h1
  cases h1
  exact h3 rfl
 ·intro hm
  rcases H.hs with ⟨q1,q2⟩|⟨q,q1,q2,q3⟩
  ·rw[q1]at hm
   simp [idOf]at hm
  ·obtain ⟨p1,p2,p3,p4⟩:=H.q q1 q2
   rw[q1,Keb _ q2]at hm
   simp only[idOf,List.mem_singleton]at hm
   subst hm
   unfold zZU at h1
   rw[p1]at h1
   cases h1
   obtain ⟨k,c,hc,hn⟩:=h4
   rw[YG4,List.getElem?_map]at hc
   cases hb:bs[k]? with
   | none=>rw[hb]at hc;cases hc
   | some b =>
    rw[hb]at hc
    cases hc
    exact hn b rfl
theorem Qbo (st:List UInt8×Int) (k:Option Nat) (L:List AB) {m:Nat} {xs:List AV} (h1:zZU h m=some xs) (hk:m≠i/\m≠j/\m∉idOf s):zZU (wX h i j lim s st k++L) m=some xs:=by
 have hlt:m<h.length:=by
  unfold zZU at h1
  split at h1
  ·rename_i hB
   exact (List.getElem?_eq_some_iff.1 hB).1
  ·cases h1
 unfold zZU at h1 ⊢
 rw[List.getElem?_append_left (by rw[XqL];exact hlt),ZxI st k hk.1 hk.2.1 hk.2.2]
 exact h1
theorem ZVz (st:List UInt8×Int) (k:Option Nat) (L:List AB) {α:Type} {r:Row α} {t:AV} {l:List α} (h1:Rd r h t l) (hk:∀m∈idOf t,l.length≠0->m≠i/\m≠j/\m∉idOf s):Rd r (wX h i j lim s st k++L) t l:=by
 by_cases h0:l.length=0
 ·refine ⟨?_,h1.2⟩
  have e1:=h1.1
  have hl:=h1.len
  cases t <;> first|exact e1|skip
  simp only[lenV,Option.some.injEq]at hl
  rename_i len cap k'
  obtain rfl:len=0:=by omega
  simp only[rdS,if_true]at e1 ⊢
  exact e1
 ·obtain ⟨id,off,cap,k',xs,rfl,e1,e2,e3⟩:=h1.blk 0 (by omega)
  exact Rd.mk_sl (Qbo st k L e1 (hk id (by simp [idOf]) h0)) rfl e2 e3 h1.2
end
end
section
set_option maxRecDepth 100000
set_option maxHeartbeats 8000000
def OwnB (h:List AB) (s:AV) (bs:List UInt8):Prop:=(s=.ns/\bs=[])\/∃q,s=apS X0d q bs/\bs.length≠0/\h[q]?=some (resB X0d true bs)
theorem OwnB.inj {h:List AB} {s:AV} {bs cs:List UInt8} (H:OwnB h s bs) (K:OwnB h s cs):bs=cs:=by
 rcases H with ⟨q1,q2⟩|⟨q,q1,q2,q3⟩ <;> rcases K with ⟨p1,p2⟩|⟨p,p1,p2,p3⟩
 ·rw[q2,p2]
 ·rw[q1,Keb _ p2]at p1;cases p1
 ·rw[p1,Keb _ q2]at q1;cases q1
 ·have hqp:p=q:=by
   rw[q1,Keb _ q2,Keb _ p2]at p1
   injection p1 with p1
   exact p1.symm
  subst hqp
  exact QXv (q1.symm.trans p1) (by have:=q3.symm.trans p3;injection this)
theorem OwnB.app {h:List AB} {s:AV} {bs:List UInt8} (H:OwnB h s bs) (hb:bs.length<=1000000000) {m:Nat} (h0:m≠0) (hm:m<=1000009) (ys:List AV) (L:List AB):appW (h++L) true 1 1 s m ys=some (.sl (h.length+L.length) 0 (bs.length+m) (bs.length+m) (some 1),qBs s h++(L++[.blk true true (X0d.cells bs++ys)])):=by
 rcases H with ⟨q1,q2⟩|⟨q,q1,q2,q3⟩
 ·rw[q1,q2,zp5,if_neg h0,if_pos ⟨by omega,by unfold maxLen;omega⟩]
  simp only[List.length_nil,Nat.zero_add,Q33,List.nil_append,qBs,List.append_assoc]
 ·have p4:=(List.getElem?_eq_some_iff.1 q3).1
  rw[KFt q2]at q3
  have hg:(h++L)[q]?=some (.blk true true (X0d.cells bs)):=by rw[List.getElem?_append_left p4];exact q3
  have hcl:(X0d.cells bs).length=bs.length:=by rw[X0d.cells_len,YPl];omega
  rw[q1,Keb _ q2]
  simp only[appW,qBs,hg]
  rw[if_neg h0,if_neg (by omega),if_pos ⟨trivial,by omega,by omega,by unfold maxLen;omega⟩,if_neg (by simp),if_pos ⟨trivial,by decide,trivial,by omega⟩,List.drop_zero,List.length_append,List.set_append_left _ _ p4,List.append_assoc]
theorem OwnB.fx {h:List AB} {s:AV} {bs:List UInt8} (H:OwnB h s bs) (hh:HOk h):s.isSl=true/\HOk (qBs s h):=by
 rcases H with ⟨q1,q2⟩|⟨q,q1,q2,q3⟩
 ·rw[q1]
  exact ⟨rfl,hh⟩
 ·rw[q1,Keb _ q2]
  refine ⟨rfl,fun i B hB=>?_⟩
  have hB2:(h.set q .dead)[i]?=some B:=hB
  have e:(qBs (.sl q 0 bs.length bs.length (some 1)) h).length=h.length:=JA8 _ _
  have key:B.ok (fun i=>decide (i<h.length))=true:=by
   rw[List.getElem?_set]at hB2
   split at hB2
   ·split at hB2
    ·cases hB2;rfl
    ·cases hB2
   ·exact hh i B hB2
  exact AB.ok_mono (fun i q=>by simp only[decide_eq_true_eq]at q ⊢;rw[e];exact q) B key
open Classical in
noncomputable def qPh:List AV->List AB->Option (AV×List AB)
 | [s,.ifc ty (.i .i64 n)],h=>if e:ty=3/\In64 n/\∃bs,OwnB h s bs/\bs.length<=100000000 then some (.tu [apS X0d h.length (e.2.2.choose++qkv n),.b (decide (0<=n))],qBs s h++[resB X0d true (e.2.2.choose++qkv n)]) else none
 | _,_=>none
theorem JZH {h:List AB} {s:AV} {bs:List UInt8} {n:Int} (H:OwnB h s bs) (hb:bs.length<=100000000) (hn:In64 n):qPh [s,.ifc 3 (.i .i64 n)] h=some (.tu [apS X0d h.length (bs++qkv n),.b (decide (0<=n))],qBs s h++[resB X0d true (bs++qkv n)]):=by
 have e:3=3/\In64 n/\∃bs,OwnB h s bs/\bs.length<=100000000:=⟨rfl,hn,bs,H,hb⟩
 simp only[qPh]
 rw[dif_pos e]
 have:=e.2.2.choose_spec.1.inj H
 rw[this]
theorem QnI:Spec Tryz.prog 257 qPh:=by
 intro args h v h' e
 unfold qPh at e
 split at e
 ·rename_i s ty n
  split at e
  ·rename_i hty
   obtain ⟨H,hb⟩:=hty.2.2.choose_spec
   generalize hty.2.2.choose=bs at *
   obtain ⟨rfl,hn,_⟩:=hty
   cases e
   refine FnAt.c (FnAt.run (by kernel_rfl) (T:=⟨[⟨267,X2a,fun _=>[]⟩],[]⟩) ⟨⟨KEp,trivial⟩,trivial⟩ Tryz.func257 YvR fun ho hh=>?_)
   obtain ⟨hsl,hk⟩:=H.fx hh
   have kl:(qBs s h).length=h.length:=JA8 s h
   have s1:=QP8 hsl
   have s2:=Zcq hsl
   have s3:=Jrd hsl
   have hso:s.ok (fun k=>decide (k<h.length))=true:=by
    simp only[ZiP,Bool.and_eq_true]at ho
    exact ho.1
   have s4:∀c lo hi anc past,s.ok (qOk (h.length+c) lo hi anc past)=true:=fun c lo hi anc past=>AV.ok_mono (fun k hk=>ZX5 (by simp only[decide_eq_true_eq]at hk;omega)) s hso
   have ap:=fun m h0 hm ys L=>H.app (by omega) (m:=m) h0 hm ys L
   have sel:=fun (l l':List AB) fr fr' (sel:List Nat) hnd hb hfr=>by
    have:=Bt.sel (P:=Tryz.prog) (h:=qBs s h) (l:=l) (l':=l') (fr:=fr) (fr':=fr') sel hk hnd hb hfr
    rwa [kl]at this
   unfold w257
   have sb:=qcd n
   have ap1:=fun ys L=>ap 1 (by decide) (by decide) ys L
   have app1:∀(id:Nat) (b:UInt8),AV.sl id 0 (bs.length+1) (bs.length+1) (some 1)=apS X0d id (bs++[b]):=fun id b=>by rw[Keb _ (by simp),List.length_append];rfl
   have bpp1:∀(b:UInt8),AB.blk true true (X0d.cells bs++[u8A b])=resB X0d true (bs++[b]):=fun b=>by
    rw[KFt (by simp)]
    simp only[Row.cells,List.flatMap_append]
    rfl
   by_cases g1:KyO n=0
   ·have g1':((KyO n:Int)=0)=True:=eq_true (by omega)
    have he:qkv n=[UInt8.ofInt n]:=by unfold qkv;rw[if_pos g1]
    rw[he]
    simp only[z49,Qs3,XtK,Q8d,simprocAttr,kl,zg2,XHr,X2a,g1',ZcP,Xhc,QpM,q9E,QAA,Qn4,Zto,ZTi,s1,s2,s3,s4,ap1,List.length_cons,List.length_nil,oD,ne_eq,forall_const]
    rw[app1 _ (UInt8.ofInt n),bpp1]
    have ao:(apS X0d h.length (bs++[UInt8.ofInt n])).ok (fun i=>decide (i<h.length+1))=true:=JRX _ _ _ (by simp)
    have:=sel [.blk true true [u8A (UInt8.ofInt n)],resB X0d true (bs++[UInt8.ofInt n])] [resB X0d true (bs++[UInt8.ofInt n])] [.tu [apS X0d (h.length+1) (bs++[UInt8.ofInt n]),.b (decide (0<=n))]] [.tu [apS X0d h.length (bs++[UInt8.ofInt n]),.b (decide (0<=n))]] [1] (by decide) (by simp only[Ztz,FrSel,BlkSel,AV.ren,renL,AV.ok,okL,Option.some.injEq,exists_eq_left',List.length_cons,List.length_nil,Nat.reduceAdd,Nat.reduceLT,reduceCtorEq,implies_true,exists_eq',kl]) (by simp only[Ztz,FrSel,BlkSel,AV.ren,renL,AV.ok,okL,Option.some.injEq,exists_eq_left',List.length_cons,List.length_nil,Nat.reduceAdd,Nat.reduceLT,reduceCtorEq,implies_true,exists_eq',kl,ao])
    exact this
   ·have g1':((KyO n:Int)=0)=False:=eq_false (by omega)
    have he:qkv n=Xyh n (KyO n):=by unfold qkv;rw[if_neg g1];rfl
    have hp:0<=n:=by
     have:¬n<192:=fun q=>g1 (by unfold KyO;rw[if_pos q])
     omega
    have e1:IntKind.i64.wrap (191+(KyO n:Int))=191+(KyO n:Int):=Q7p (by unfold In64;omega)
    have e2:IntKind.i64.wrap ((KyO n:Int)-1)=(KyO n:Int)-1:=Q7p (by unfold In64;omega)
    rw[he]
    simp only[z49,Qs3,XtK,Q8d,simprocAttr,kl,zg2,XHr,X2a,g1',e1,ZcP,Xhc,QpM,q9E,QAA,Qn4,Zto,ZTi,s1,s2,s3,s4,ap1,List.length_cons,List.length_nil,oD,ne_eq,forall_const]
    refine JLk (S:=Nat) (fun k=>KyO n-k) (fun k=>[apS X0d (h.length+0) (bs++Xyh n k)]++tp 5++[.i .i64 n,.i .i64 (KyO n)]++tp 30++[.i .i64 (KyO n),.i .i64 k]++tp 117) (fun k=>qBs s h++[resB X0d true (bs++Xyh n k)]) (fun k=>k<=KyO n) 0 (Nat.zero_le _) ?_ fun k hk=>?_
    ·simp only[show Xyh n 0=[UInt8.ofInt (191+KyO n)] from rfl]
     rw[app1 _ (UInt8.ofInt (191+KyO n)),bpp1]
     have ao:(apS X0d h.length (bs++[UInt8.ofInt (191+KyO n)])).ok (fun i=>decide (i<h.length+1))=true:=JRX _ _ _ (by simp)
     exact sel _ _ _ _ [1] (by decide) (by simp only[Ztz,FrSel,BlkSel,AV.ren,renL,AV.ok,okL,Option.some.injEq,exists_eq_left',List.length_cons,List.length_nil,Nat.reduceAdd,Nat.reduceLT,reduceCtorEq,implies_true,exists_eq',kl]) (by simp only[tp_0,tp_s,J5y,Q2P,Int.natCast_zero,Ztz,FrSel,BlkSel,AV.ren,renL,AV.ok,okL,Option.some.injEq,exists_eq_left',List.length_cons,List.length_nil,Nat.reduceAdd,Nat.reduceLT,reduceCtorEq,implies_true,exists_eq',kl,ao])
    ·by_cases gi:k<KyO n
     ·have gi':((k:Int)<(KyO n:Int))=True:=eq_true (by omega)
      have q1:IntKind.i64.wrap ((k:Int)+1)=((k+1:Nat):Int):=Q7p (by unfold In64;omega)
      have q2:IntKind.i64.wrap ((KyO n:Int)-1-(k:Int))=((KyO n-1-k:Nat):Int):=by
       rw[show (KyO n:Int)-1-(k:Int)=((KyO n-1-k:Nat):Int) by omega]
       exact Q7p (by unfold In64;omega)
      have q3:IntKind.i64.wrap (8*((KyO n-1-k:Nat):Int))=((8*(KyO n-1-k):Nat):Int):=by
       rw[Int.natCast_mul]
       exact Q7p (by unfold In64;omega)
      have q4:min (8*(KyO n-1-k)) 64=8*(KyO n-1-k):=by omega
      have q5:Int.fdiv n (2 ^ (8*(KyO n-1-k)))=n / 2 ^ (8*(KyO n-1-k)):=Int.fdiv_eq_ediv_of_nonneg _ (Int.le_of_lt (Int.pow_pos (by decide)))
      have lo:=Y4d n k
      have hB:(bs++Xyh n k).length≠0:=by rw[List.length_append];omega
      have gr:∀id,apS X0d id (bs++Xyh n k)=rsl X0d id (bs++Xyh n k):=fun id=>JgW _ hB
      have lo2:(bs++Xyh n k).length=bs.length+(k+1):=by rw[List.length_append,lo]
      have fa:=fun L j ys hb=>K0E (h:=qBs s h) (p:=h.length) kl (r:=X0d) (sz:=1) rfl L j (bs++Xyh n k) 1 1 ys hB hb (by decide) (by omega) (by unfold maxLen;omega)
      simp only[gr,XtK,Q8d,simprocAttr,kl,gi',q1,e2,q2,q3,q4,q5,KxK,qfj,zZJ,ZcP,Xhc,QpM,q9E,QAA,Qn4,Zto,fa,oD,ne_eq,forall_const]
      refine ⟨k+1,gi,by dsimp only;omega,?_⟩
      have hst:apS X0d (h.length+0) (bs++Xyh n (k+1))=.sl (h.length+0) 0 ((bs++Xyh n k).length+1) ((bs++Xyh n k).length+1) (some 1):=by rw[Zdh,<-List.append_assoc,K2H,YPl]
      have hst2:resB X0d true (bs++Xyh n (k+1))=.blk true true (X0d.cells (bs++Xyh n k)++[u8A (J8Z n (KyO n) k)]):=by rw[Zdh,<-List.append_assoc,zKv,qrk]
      simp only[hst,hst2]
      exact sel _ _ _ _ [2] (by decide) (by simp only[Ztz,FrSel,BlkSel,AV.ren,renL,AV.ok,okL,Option.some.injEq,exists_eq_left',List.length_cons,List.length_nil,Nat.reduceAdd,Nat.reduceLT,reduceCtorEq,implies_true,exists_eq',kl,J8Z]) (by simp only[tp_0,tp_s,J5y,Q2P,Ztz,FrSel,BlkSel,AV.ren,renL,AV.ok,okL,Option.some.injEq,exists_eq_left',List.length_cons,List.length_nil,Nat.reduceAdd,Nat.reduceLT,reduceCtorEq,implies_true,exists_eq',kl])
     ·obtain rfl:k=KyO n:=by omega
      have gi':((KyO n:Int)<(KyO n:Int))=False:=eq_false (by omega)
      have gp:=eq_true hp
      simp only[XtK,Q8d,simprocAttr,kl,gi',oD,ne_eq,forall_const]
      exact Bt.eq (by rw[decide_eq_true hp];rfl) rfl
  ·cases e
 ·cases e
end
end Go.Proofs.YtekeoichmdiiiaaGreat
