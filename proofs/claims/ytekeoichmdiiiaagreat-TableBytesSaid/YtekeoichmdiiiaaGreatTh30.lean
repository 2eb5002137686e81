/- Part 30 of what the laws' proofs rest on. No condition. -/
import Derived.Test.YtekeoichmdiiiaaGreatTh29
set_option linter.all false
namespace Go.Proofs.YtekeoichmdiiiaaGreat
section
set_option maxRecDepth 100000
set_option maxHeartbeats 8000000
def Qf0 (v:List Int):Prop:=¬v.length<1/\v.length<=16/\∀x∈v,0<=x/\x<=1048576
def okNm (l:List RpD):Prop:=∀r∈l,ZwV r.name/\∀g∈r.tags,Y7J g.name
open Classical in
noncomputable def chkT (t:TbD):Int:=if Qf0 t.v then (if okNm t.repos then (if YKY t then 0 else 2) else 7) else 3
open Classical in
noncomputable def YeC:List AV->List AB->Option (AV×List AB)
 | [a],h=>(getT h a).bind fun t=>if BdT t then some (.i .i64 (chkT t),h) else none
 | _,_=>none
theorem zlv {h:List AB} {s:AV} {m:List (TagA×TgD)} (e:RdP tagD h s m):(∃x∈m.map (·.1),¬Y7J x.name)↔∃g∈m.map (·.2),¬Y7J g.name:=by
 constructor
 ·rintro ⟨x,hx,q⟩
  obtain ⟨p,hp,rfl⟩:=List.mem_map.1 hx
  exact ⟨p.2,List.mem_map.2 ⟨p,hp,rfl⟩,by rw[<-(J9V (e.d p hp)).1];exact q⟩
 ·rintro ⟨g,hg,q⟩
  obtain ⟨p,hp,rfl⟩:=List.mem_map.1 hg
  exact ⟨p.1,List.mem_map.2 ⟨p,hp,rfl⟩,by rw[(J9V (e.d p hp)).1];exact q⟩
open Classical in
theorem qha:Spec Tryz.prog 18 YeC:=by
 intro args h v h' e
 unfold YeC at e
 split at e
 ·obtain ⟨v1,s1,n1,m,rfl,ha,e2⟩:=JfV e
  clear e
  split at e2
  case isFalse=>cases e2
  rename_i hB
  rw[Option.some.injEq,Prod.mk.injEq]at e2
  obtain ⟨rfl,rfl⟩:=e2
  refine FnAt.c (FnAt.frz0 fun hz=>?_)
  replace ha:=ha.frz
  generalize h.map AB.freeze=h at *
  refine FnAt.run (by kernel_rfl) (T:=⟨[⟨81,XrX,fun _=>[]⟩,⟨82,KAm,fun _=>[]⟩,⟨85,QOu,fun _=>[]⟩,⟨86,Y4E,fun _=>[]⟩,⟨87,qmj,fun _=>[]⟩],[]⟩) ⟨⟨QyN,XRd,Zoj,QqO,z4v,trivial⟩,trivial⟩ Tryz.func18 sw18 fun ho hh=>?_
  simp only[ZiP,q0E,JL2,Bool.and_eq_true,and_true]at ho
  obtain ⟨ov,os⟩:=ho
  have fv:=ha.v.fx ov (sz:=1) rfl
  have fs:=ha.s.s.fx os (sz:=3) rfl
  rw[List.length_map]at fs
  have gT:∀L,getT (h++L) (.ag [v1,s1])=some ⟨n1,m.map (·.2)⟩:=fun L=>(ha.app L).get
  have c1:∀l:List AV,(AV.ag l).cells=l:=fun _=>rfl
  have hB1:=hB.repos
  rw[List.length_map]at hB1
  have hBt:=eq_true hB
  unfold w18
  have no3:¬Qf0 n1->chkT ⟨n1,m.map (·.2)⟩=3:=fun z=>if_neg z
  rcases emG ((n1.length:Int)<1) with q1|q1
  ·have hn:¬Qf0 n1:=fun z=>z.1 (by have:=of_eq_true q1;omega)
   rw[no3 hn]
   simp only[z49,Qs3,XtK,K1H,JS3,simprocAttr,CO.tmps,Opd.tmps,optT,fv,fs,q1,c1,Option.bind_some,oW hh hz,oD,ne_eq,forall_const]
   exact Bt.dropI _ hh rfl
  rcases emG ((16:Int)<(n1.length:Int)) with q2|q2
  ·have hn:¬Qf0 n1:=fun z=>by have:=of_eq_true q2;have:=z.2.1;omega
   rw[no3 hn]
   simp only[z49,Qs3,XtK,K1H,JS3,simprocAttr,CO.tmps,Opd.tmps,optT,fv,fs,q1,q2,c1,Option.bind_some,oW hh hz,oD,ne_eq,forall_const]
   exact Bt.dropI _ hh rfl
  have h0:n1.length≠0:=by have:=of_eq_false q1;omega
  have h0':=eq_false h0
  rcases emG (minL n1<0) with q3|q3
  ·have hn:¬Qf0 n1:=fun z=>by
    obtain ⟨x,hx,hl⟩:=(ZL4 h0 0).1 (of_eq_true q3)
    have:=(z.2.2 x hx).1
    omega
   rw[no3 hn]
   simp only[z49,Qs3,XtK,K1H,JS3,simprocAttr,CO.tmps,Opd.tmps,optT,fv,fs,q1,q2,q3,h0',XrX,KAm,c1,if_false,Option.bind_some,oW hh hz,oD,ne_eq,forall_const]
   exact Bt.dropI _ hh rfl
  rcases emG (1048576<maxL n1) with q4|q4
  ·have hn:¬Qf0 n1:=fun z=>by
    obtain ⟨x,hx,hl⟩:=(KlH h0 1048576).1 (of_eq_true q4)
    have:=(z.2.2 x hx).2
    omega
   rw[no3 hn]
   simp only[z49,Qs3,XtK,K1H,JS3,simprocAttr,CO.tmps,Opd.tmps,optT,fv,fs,q1,q2,q3,q4,h0',XrX,KAm,c1,if_false,Option.bind_some,oW hh hz,oD,ne_eq,forall_const]
   exact Bt.dropI _ hh rfl
  have hv:Qf0 n1:=⟨by have:=of_eq_false q1;omega,by have:=of_eq_false q2;omega,fun x hx=>⟨by
   apply Classical.byContradiction
   intro z
   exact of_eq_false q3 ((ZL4 h0 0).2 ⟨x,hx,by omega⟩),by
   apply Classical.byContradiction
   intro z
   exact of_eq_false q4 ((KlH h0 1048576).2 ⟨x,hx,by omega⟩)⟩⟩
  have hc:chkT ⟨n1,m.map (·.2)⟩=if okNm (m.map (·.2)) then (if YKY ⟨n1,m.map (·.2)⟩ then 0 else 2) else 7:=if_pos hv
  rw[hc]
  clear hc no3
  simp only[z49,Qs3,XtK,K1H,JS3,simprocAttr,CO.tmps,Opd.tmps,optT,fv,fs,q1,q2,q3,q4,h0',XrX,KAm,c1,if_false,Option.bind_some,oW hh hz,oD,ne_eq,forall_const]
  have sov:∀c,v1.ok (fun j=>decide (j<h.length+c))=true:=fun c=>AV.ok_mono (fun i q=>by simp only[decide_eq_true_eq]at q ⊢;omega) v1 ov
  have sos:∀c,s1.ok (fun j=>decide (j<h.length+c))=true:=fun c=>AV.ok_mono (fun i q=>by simp only[decide_eq_true_eq]at q ⊢;omega) s1 os
  have rv:∀sel,Wk (v1.ren (selN h.length sel)) v1:=fun sel=>Wk.ren (fun i hi=>qMB hi) ov
  have rs:∀sel,Wk (s1.ren (selN h.length sel)) s1:=fun sel=>Wk.ren (fun i hi=>qMB hi) os
  refine JLk (S:=Nat) (fun i=>m.length-i) (fun i=>tp 1++[.p (h.length+0) 0]++tp 27++[s1,.i .i64 (m.length:Int),.i .i64 (i:Int)]++tp 18) (fun _=>h++[.blk false true [v1,s1]]) (fun i=>i<=m.length/\okNm ((m.map (·.2)).take i)) 0 ⟨Nat.zero_le _,by simp [okNm]⟩ ?_ fun i hi=>?_
  ·refine Bt.wk ?_
   simp only[XtK,JS3,simprocAttr]
  obtain ⟨i1,i2⟩:=hi
  by_cases g:i<m.length
  rotate_left
  ·have g':((i:Int)<(m.length:Int))=False:=eq_false (by omega)
   have hall:okNm (m.map (·.2)):=by rwa [List.take_of_length_le (by rw[List.length_map];omega)]at i2
   rw[if_pos hall]
   by_cases q5:YKY ⟨n1,m.map (·.2)⟩
   ·have hd:=decide_eq_true q5
    rw[if_pos q5]
    simp only[z49,Qs3,XtK,K1H,JS3,simprocAttr,CO.tmps,Opd.tmps,optT,qmj,gT,hBt,hd,fv,fs,g',c1,QpH,Option.bind_some,if_true,Bool.not_true,Bool.not_false,oW hh hz,oD,ne_eq,forall_const]
    exact Bt.dropI _ hh rfl
   ·have hd:=decide_eq_false q5
    rw[if_neg q5]
    simp only[z49,Qs3,XtK,K1H,JS3,simprocAttr,CO.tmps,Opd.tmps,optT,qmj,gT,hBt,hd,fv,fs,g',c1,QpH,Option.bind_some,if_true,Bool.not_true,Bool.not_false,oW hh hz,oD,ne_eq,forall_const]
    exact Bt.dropI _ hh rfl
  have g':((i:Int)<(m.length:Int))=True:=eq_true (by omega)
  have gz:((0:Int)<=(i:Int)/\(i:Int)<(m.length:Int))=True:=eq_true (by omega)
  have e1:IntKind.i64.wrap ((i:Int)+1)=((i+1:Nat):Int):=Q7p (by unfold In64;omega)
  obtain ⟨dx,rx,ox⟩:=ha.s.at g
  have htk:(m.map (·.2)).take (i+1)=(m.map (·.2)).take i++[m[i].2]:=by
   rw[List.take_succ_eq_append_getElem (by rw[List.length_map];exact g),List.getElem_map]
  have hin:m[i].2∈m.map (·.2):=List.mem_map.2 ⟨_,List.getElem_mem g,rfl⟩
  generalize m[i]=ex at *
  obtain ⟨x,X⟩:=ex
  dsimp only at *
  have hbX:=hB.r X hin
  obtain ⟨nx,⟨tx,htx,etx⟩,mx⟩:=Xxg rx
  rw[XBQ]at dx ox
  have wx:=zUA x
  rw[X6g]at ox wx
  simp only[ZiP,q0E,ok_s,Bool.and_eq_true,and_true,true_and]at ox
  have ftx:=htx.s.fx ox.1 (sz:=2) rfl
  rw[List.length_map]at ftx
  have fmx:=mx.fx ox.2 (sz:=34) rfl
  have gS:∀L,getS tagR (h++L) x.tags.a=some (tx.map (·.1)):=fun L=>(htx.s.app L).get
  obtain ⟨re,rp,r1,r2⟩:=Kvk x.name
  have cr:=eq_true (show x.name.length<=1000000 by rw[nx];exact hbX.name)
  have n12:(83=83/\∀x∈tx.map (·.1),x.name.length<=1000000)=True:=eq_true ⟨rfl,fun y hy=>by
   obtain ⟨p,hp,rfl⟩:=List.mem_map.1 hy
   rw[(J9V (htx.d p hp)).1]
   exact (hbX.tag p.2 (by rw[etx];exact List.mem_map.2 ⟨p,hp,rfl⟩)).1⟩
  have n13:(∀x∈tx.map (·.1),x.name.length<=1000000)=True:=eq_true (of_eq_true n12).2
  rcases emG (ZwV x.name) with q5|q5
  rotate_left
  ·have hn:¬okNm (m.map (·.2)):=fun z=>of_eq_false q5 (by rw[nx];exact (z X hin).1)
   rw[if_neg hn]
   simp only[z49,Qs3,XtK,K1H,JS3,simprocAttr,CO.tmps,Opd.tmps,optT,fv,fs,g,g',gz,dx,XBQ,X6g,wx,ox,ftx,fmx,QOu,cr,r1,r2,q5,Xyf,c1,QpH,Option.bind_some,Option.map_some,if_true,Bool.not_true,Bool.not_false,oW hh hz,oD,ne_eq,forall_const]
   exact Bt.dropI _ hh rfl
  rcases emG (∃y∈tx.map (·.1),¬Y7J y.name) with q6|q6
  ·have hn:¬okNm (m.map (·.2)):=fun z=>by
    obtain ⟨g2,hg2,hl⟩:=(zlv htx).1 (of_eq_true q6)
    rw[<-etx]at hg2
    exact hl ((z X hin).2 g2 hg2)
   have hd:=decide_eq_true (of_eq_true q6)
   rw[if_neg hn]
   simp only[z49,Qs3,XtK,K1H,JS3,simprocAttr,CO.tmps,Opd.tmps,optT,fv,fs,g,g',gz,dx,XBQ,X6g,wx,ox,ftx,fmx,gS,QOu,Y4E,cr,r1,r2,n12,n13,q5,hd,Xyf,c1,QpH,Option.bind_some,Option.map_some,if_true,Bool.not_true,Bool.not_false,oW hh hz,oD,ne_eq,forall_const]
   exact Bt.dropI _ hh rfl
  have hd:=decide_eq_false (of_eq_false q6)
  simp only[z49,Qs3,XtK,K1H,JS3,simprocAttr,CO.tmps,Opd.tmps,optT,fv,fs,g,g',gz,dx,XBQ,X6g,wx,ox,ftx,fmx,gS,QOu,Y4E,cr,r1,r2,n12,n13,q5,hd,e1,Xyf,c1,QpH,Option.bind_some,Option.map_some,if_true,Bool.not_true,Bool.not_false,oW hh hz,oD,ne_eq,forall_const]
  refine ⟨i+1,⟨g,fun r hr=>?_⟩,by dsimp only;omega,?_⟩
  ·rw[htk]at hr
   rcases List.mem_append.1 hr with q|q
   ·exact i2 r q
   ·rw[List.mem_singleton]at q
    subst q
    refine ⟨by rw[<-nx];exact of_eq_true q5,fun g2 hg2=>?_⟩
    apply Classical.byContradiction
    intro z
    exact of_eq_false q6 ((zlv htx).2 ⟨g2,by rw[<-etx];exact hg2,z⟩)
  ·dsimp only
   exact Bt.sel [0] hh (by decide) (by simp only[Ztz,FrSel,BlkSel,AV.ren,renL,AV.ok,okL,Option.some.injEq,exists_eq_left',List.length_cons,List.length_nil,Nat.reduceAdd,Nat.reduceLT,reduceCtorEq,implies_true,exists_eq',sov,sos,rv,rs,ov,os]) (by simp only[tp_0,tp_s,List.cons_append,List.nil_append,Ztz,FrSel,BlkSel,AV.ren,renL,AV.ok,okL,Option.some.injEq,exists_eq_left',List.length_cons,List.length_nil,Nat.reduceAdd,Nat.reduceLT,reduceCtorEq,implies_true,exists_eq',sov,sos,rv,rs,ov,os])
 ·cases e
end
section
set_option maxRecDepth 100000
set_option maxHeartbeats 8000000
def dB (p:Nat) (bs:List UInt8) (y:RSt):List AB:=[.blk false true [.ns,.ns],.blk true true [.i .i64 0,.i .i64 0],.blk false true [.p (p+3) 0,rsl X0d (p+4) bs,.i .i64 (y.pos:Nat)],.blk true true [.i .i64 y.err,.i .i64 y.ea],resB X0d true bs,.blk false true [.p (p+2) 0],.blk false true [.p (p+2) 0,.i .i64 (bs.length:Nat),.i .i64 0,.i .i64 0],.blk false true [.p (p+6) 0]]
section
variable {h:List AB} {bs:List UInt8} {y:RSt}
theorem K7P (hl:bs.length<=1000000) (ok:RFok bs (y,(0,0))) (L:List AB):RI (h.length+2) (h.length+3) (h.length+6) (rsl X0d (h.length+4) bs) bs (y,(0,0)) (h++(dB h.length bs y++L)):=by
 have g:∀k,(h++(dB h.length bs y++L))[h.length+k]?=(dB h.length bs y++L)[k]?:=fun k=>JNS _ k
 have hid:∀k∈idOf (rsl X0d (h.length+4) bs),k=h.length+4:=fun k hk=>by
  unfold rsl at hk
  split at hk <;> simpa [idOf] using hk
 refine ⟨g 2,g 3,g 6,⟨?_,?_,by omega,?_,fun k hk=>by have:=hid k hk;omega,?_,fun k hk=>?_⟩,⟨by omega,by omega,fun k hk=>by have:=hid k hk;omega⟩,ok⟩
 ·simp only[List.length_append,dB,List.length_cons,List.length_nil];omega
 ·simp only[List.length_append,dB,List.length_cons,List.length_nil];omega
 ·exact qIg (g 4) (by unfold maxLen;omega)
 ·unfold rsl
  split <;> simp [AV.capOk]
 ·have:=hid k hk
  simp only[List.length_append,dB,List.length_cons,List.length_nil]
  omega
theorem Yf1 (y':RSt) (L:List AB):rB (h++(dB h.length bs y++L)) (h.length+2) (h.length+3) (rsl X0d (h.length+4) bs) y'=h++(dB h.length bs y'++L):=by
 unfold rB
 rw[KSf,KSf]
 rfl
end
theorem zvl {fr:List AV} {h:List AB} {P:Program} {p n m:Nat} {sz sz':Option Nat} {a:AV} {h':List AB}:(∃v,resV fr h [RC.cell n sz,RC.cell m sz']=some v/\Bt P p [v] h [a] h')=FinO P p ((ldV h sz (pl fr n)).bind fun x=>(ldV h sz' (pl fr m)).map fun y=>.tu [x,y]) h a h':=by
 have e:resV fr h [RC.cell n sz,RC.cell m sz']=(ldV h sz (pl fr n)).bind fun x=>(ldV h sz' (pl fr m)).map fun y=>.tu [x,y]:=by
  simp only[resV,JRR,KZN,ZRE,Option.bind_some]
  cases ldV h sz (pl fr n) with
  | none=>rfl
  | some x =>
   cases ldV h sz' (pl fr m) <;> rfl
 rw[e]
 rfl
theorem RI.endM {h:List AB} {i j xi:Nat} {s:AV} {bs:List UInt8} {st:RFt} (e:RI i j xi s bs st h) (anc:Nat) (past:List Pt):zJN [.p i 0] (qRB (seen h.length anc past h.length) [] 0 h)=some (.ag [.i .i64 (Q60 bs st.1).1,.i .i64 (Q60 bs st.1).2],qRB (seen h.length anc past h.length) [] 0 h):=by
 have hp:=e.pos
 have h1:=YFq (x:=st.1) e.R [] 0 anc h.length past rfl
 rw[e.asis,List.append_nil,Nat.add_zero]at h1
 have h2:Rd X0d (qRB (seen h.length anc past h.length) [] 0 h) s bs:=Rd.mask e.R.rd fun k hk=>by
  have:=e.R.lt k hk
  exact z7v (by omega) (by omega)
 show (rdr _ i).bind _=_
 rw[h1,Option.bind_some]
 dsimp only
 rw[h2.get,Option.bind_some,if_pos ⟨by omega,by omega⟩,Int.toNat_natCast]
section
variable {Z:List AB} {w o n:Nat} {fl:Bool} {xs vs:List AV}
theorem stM (S:List Nat) (e:Z[w]?=some (.blk fl true xs)) (hl:vs.length=n) (ho:o+n<=xs.length) (hw:vs.all (wrOk fl)=true):stV (qRB S [w] 0 Z) (some n) (.p w o) (.ag vs)=some ((qRB S [w] 0 Z).set w (.blk fl true (over xs o vs))):=by
 have g:(qRB S [w] 0 Z)[w]?=some (.blk fl true xs):=(Qwa (by simp)).trans e
 simp only[stV,stB,g]
 rw[if_pos hl,if_pos ⟨by omega,hw⟩]
theorem stM1 (S:List Nat) {v:AV} (e:Z[w]?=some (.blk fl true xs)) (ho:o<xs.length) (hv:v.one=true) (hw:wrOk fl v=true):stV (qRB S [w] 0 Z) none (.p w o) v=some ((qRB S [w] 0 Z).set w (.blk fl true (over xs o [v]))):=by
 have g:(qRB S [w] 0 Z)[w]?=some (.blk fl true xs):=(Qwa (by simp)).trans e
 simp only[stV,stB,g]
 rw[if_pos hv,if_pos ⟨by simp only[List.length_cons,List.length_nil];omega,by simp [hw]⟩]
theorem mrgM (S:List Nat) (B:AB):JkA [w] ((qRB S [w] 0 Z).set w B) 0 Z=Z.set w B:=by
 refine List.ext_getElem? fun k=>?_
 rw[Xwm,Nat.zero_add]
 split
 ·rename_i hk
  by_cases h1:k=w
  ·subst h1
   rw[if_pos (by simp),List.getElem?_set_self (by rw[ZOs];exact hk),List.getElem?_set_self hk]
   rfl
  ·rw[if_neg (by simp [h1]),List.getElem?_set_ne (Ne.symm h1)]
 ·rename_i hk
  rw[List.getElem?_eq_none (by rw[List.length_set,ZOs];omega),List.getElem?_eq_none (by rw[List.length_set];omega)]
theorem qFk (S:List Nat) (B:AB) (hw:w<Z.length):((qRB S [w] 0 Z).set w B).getD w .dead=B:=by
 rw[List.getD_eq_getElem?_getD,List.getElem?_set_self (by rw[ZOs];exact hw)]
 rfl
theorem drpM (S:List Nat) (B:AB):((qRB S [w] 0 Z).set w B).drop Z.length=[]:=List.drop_eq_nil_of_le (by rw[List.length_set,ZOs];exact Nat.le_refl _)
theorem lenM (S:List Nat) (B:AB):((qRB S [w] 0 Z).set w B).length=Z.length:=by rw[List.length_set,ZOs]
end
theorem SlA.fx' (x:SlA):x.a.cells=[x.a]/\x.a.known=true:=by
 obtain ⟨a,h⟩:=x
 cases a <;> first|exact ⟨rfl,rfl⟩|cases h
theorem JCd (bs:List UInt8):RFok bs (⟨0,0,0⟩,(0,0)):=⟨.inl rfl,fun _=>rfl,⟨Nat.zero_le _,fun q=>absurd rfl q⟩⟩
theorem ZZk {h:List AB} {a:AV} {bs:List UInt8} (ha:Rd X0d h a bs) (hl:bs.length<=1000000) (hB:BdT (tbS bs).1) (hh:HOk h) (ao:a.ok (fun i=>decide (i<h.length))=true) :
  ∃v h',FnC Tryz.prog 37 [a] h v h'/\(∃L,h'=h++L)/\HOk h'/\∃vs rs n m c p,v=.tu [.ag [vs,rs],.ag [.i .i64 c,.i .i64 p]]/\okL (fun i=>decide (i<h'.length)) [vs,rs]=true/\RdT h' vs rs n m/\(⟨n,m.map (·.2)⟩,c,p)=tdec chkT bs:=by
 have hmax:bs.length<=maxLen:=by unfold maxLen;omega
 obtain ⟨n,y,hy⟩:∃n y,QDw bs ⟨0,0,0⟩ 16=(n,y):=⟨_,_,rfl⟩
 have okV:RFok bs (y,(0,0)):=by
  have g0:RGood bs ⟨0,0,0⟩:=⟨Nat.zero_le _,fun q=>absurd rfl q⟩
  have ho:RFok bs ((QDw bs ⟨0,0,0⟩ 16).2,(0,0)):=⟨.inl rfl,XeB (zw3 (most:=16)) g0 fun _=>rfl,g0.vec 16⟩
  rw[hy]at ho
  exact ho
 have ht:tbS bs=(⟨n,(seqS bs (rpS bs) (y,(0,0))).1⟩,(seqS bs (rpS bs) (y,(0,0))).2):=by unfold tbS;rw[hy]
 obtain ⟨vs,hvs⟩:∃vs:SlA,vs.a=apS intR (h.length+8) n:=⟨⟨_,zMR _ _⟩,rfl⟩
 obtain ⟨s,hs⟩:∃s,s=rsl X0d (h.length+4) bs:=⟨_,rfl⟩
 have G0:=K7P (h:=h) (y:=⟨0,0,0⟩) hl (JCd bs) []
 have vY:XHu [.p (h.length+2) 0,.i .i64 16] (h++(dB h.length bs ⟨0,0,0⟩++[]))=some (vs.a,h++(dB h.length bs y++[resB intR true n])):=by
  have e0:XHu [.p (h.length+2) 0,.i .i64 16] (h++(dB h.length bs ⟨0,0,0⟩++[]))=(rdM (h++(dB h.length bs ⟨0,0,0⟩++[])) (h.length+2)).bind fun y=>some (apS intR (h++(dB h.length bs ⟨0,0,0⟩++[])).length (QDw y.2.2.1 y.2.2.2 16).1,rB (h++(dB h.length bs ⟨0,0,0⟩++[])) (h.length+2) y.1 y.2.1 (QDw y.2.2.1 y.2.2.2 16).2++[resB intR true (QDw y.2.2.1 y.2.2.2 16).1]):=by
   unfold XHu
   exact if_pos ⟨by decide,by decide⟩
  rw[e0,G0.m,Option.bind_some]
  dsimp only
  rw[hy,Yf1,hvs]
  simp only[List.append_nil,List.append_assoc]
  simp only[List.length_append,dB,List.length_cons,List.length_nil]
 obtain ⟨Y,hY⟩:∃Y,Y=h++(dB h.length bs y++[resB intR true n,.blk false true [vs.a,.ns]]):=⟨_,rfl⟩
 have yl:Y.length=h.length+10:=by rw[hY];simp only[List.length_append,dB,List.length_cons,List.length_nil]
 have riY:RI (h.length+2) (h.length+3) (h.length+6) s bs (y,(0,0)) Y:=by rw[hY,hs];exact K7P hl okV _
 have g:∀k,Y[h.length+k]?=(dB h.length bs y++[resB intR true n,.blk false true [vs.a,.ns]])[k]?:=fun k=>by rw[hY];exact JNS _ k
 have LX:LR repD false (h.length+2) (h.length+3) (h.length+6) s bs (h.length+9) (fun v=>[vs.a,v]) Y 0 Y (y,(0,0)) [] 0:=⟨riY,Fr.refl _ _,by omega,by omega,fun k hk=>by
  have:k=h.length+4:=by
   rw[hs]at hk
   unfold rsl at hk
   split at hk <;> simpa [idOf] using hk
  omega,rfl,g 9,fun q=>absurd rfl q,fun e he=>by simp at he⟩
 have sid:∀q:Nat->Bool,q (h.length+4)=true->(rsl X0d (h.length+4) bs).ok q=true:=fun q hq=>YhM _ _ _ hq
 have hhY:HOk Y:=by
  rw[hY]
  refine hh.app1 fun B hB=>?_
  simp only[dB,List.cons_append,List.nil_append,List.mem_cons,List.not_mem_nil,or_false]at hB
  have le:∀q,q<10->(decide (h.length+q<h.length+(dB h.length bs y++[resB intR true n,AB.blk false true [vs.a,.ns]]).length))=true:=fun q hq=>decide_eq_true (by simp only[List.length_append,dB,List.length_cons,List.length_nil];omega)
  have vo:vs.a.ok (fun i=>decide (i<h.length+(dB h.length bs y++[resB intR true n,AB.blk false true [vs.a,.ns]]).length))=true:=by
   rw[hvs]
   exact JRX _ _ _ (le 8 (by omega))
  rcases hB with rfl|rfl|rfl|rfl|rfl|rfl|rfl|rfl|rfl|rfl
  ·rfl
  ·rfl
  ·simp only[AB.ok,ZiP,q0E,ok_p,ok_i,le 3 (by omega),Bool.and_true,Bool.true_and]
   exact sid _ (le 4 (by omega))
  ·rfl
  ·exact KjL _ _ _
  ·simp only[AB.ok,ZiP,q0E,ok_p,le 2 (by omega),Bool.and_true]
  ·simp only[AB.ok,ZiP,q0E,ok_p,ok_i,le 2 (by omega),Bool.and_true]
  ·simp only[AB.ok,ZiP,q0E,ok_p,le 6 (by omega),Bool.and_true]
  ·exact KjL _ _ _
  ·simp only[AB.ok,ZiP,q0E,vo,Bool.true_and]
   rfl
 obtain ⟨Z,c1,hhZ,kk,m,id,hk,LZ,ez⟩:=XpL (c:=103) (eq_false (by decide)) (eq_false (by decide)) (eq_false (by decide)) (cap:=[.p (h.length+5) 0,.p (h.length+7) 0,.p (h.length+9) 0]) (gS:=rpS bs) hl (fun x y e=>by simpa using e) LX hhY fun k H2 st2 m id hk e hh2 q=>ZmH hl (g 5) (by omega) (g 7) (by omega) hk e hh2 q
 rw[ez]at ht
 obtain ⟨st,hst⟩:∃st,st=(seqS bs (rpS bs) (y,(0,0))).2:=⟨_,rfl⟩
 rw[<-hst]at ht LZ
 obtain ⟨b1,b2,b3⟩:=QtM bs
 rw[ht]at b1 b2 b3 hB
 dsimp only at b1 b2 b3 hB
 have hF:Q60 bs (vir st)=fltS bs st:=(Ygn b3).symm
 have hdec:tdec chkT bs=if fltS bs st=(0,0) then (if chkT ⟨n,m.map (·.2)⟩=0 then (⟨n,m.map (·.2)⟩,0,0) else (⟨[],[]⟩,chkT ⟨n,m.map (·.2)⟩,0)) else (⟨[],[]⟩,fltS bs st):=by
  unfold tdec
  rw[<-b1,<-b2,hF]
 obtain ⟨rs,hrs⟩:∃rs:SlA,rs.a=apS repD.r id (m.map (·.1)):=⟨⟨_,zMR _ _⟩,rfl⟩
 have zle:=LZ.fr.le
 have Zr:=LZ.ri
 have zld:=Zr.ld
 have keep:∀q,q<h.length+10->q≠h.length+2->q≠h.length+3->q≠h.length+6->q≠h.length+9->Z[q]?=Y[q]?:=fun q h1 h2 h3 h4 h5=>LZ.fr.eq q (by omega) (by simp only[List.mem_cons,List.not_mem_nil,or_false,not_or];omega)
 have z4:ldV Z none (.p (h.length+5) 0)=some (.p (h.length+2) 0):=qGa ((keep _ (by omega) (by omega) (by omega) (by omega) (by omega)).trans (g 5)) rfl
 have zb7:Z[h.length+7]?=some (.blk false true [.p (h.length+6) 0]):=(keep _ (by omega) (by omega) (by omega) (by omega) (by omega)).trans (g 7)
 have z5:ldV Z none (.p (h.length+7) 0)=some (.p (h.length+6) 0):=qGa zb7 rfl
 have zb9:Z[h.length+9]?=some (.blk false true [vs.a,rs.a]):=by rw[hrs];exact LZ.ob
 have z6:ldV Z (some 2) (.p (h.length+9) 0)=some (.ag [vs.a,rs.a]):=JNy zb9 (by simp) rfl
 have zo0:Z[h.length+0]?=some (.blk false true [.ns,.ns]):=(keep _ (by omega) (by omega) (by omega) (by omega) (by omega)).trans (g 0)
 have zo1:Z[h.length+1]?=some (.blk true true [.i .i64 0,.i .i64 0]):=(keep _ (by omega) (by omega) (by omega) (by omega) (by omega)).trans (g 1)
 have zx:=Zr.hx
 have q2:=eq_true (show h.length+2<Z.length by omega)
 have q5:=eq_true (show h.length+5<Z.length by omega)
 have q6:=eq_true (show h.length+6<Z.length by omega)
 have q7:=eq_true (show h.length+7<Z.length by omega)
 have q9:=eq_true (show h.length+9<Z.length by omega)
 have q0:=eq_true (show h.length+0<Z.length by omega)
 have q1:=eq_true (show h.length+1<Z.length by omega)
 have hZ:=eq_true hhZ
 have so:=vs.one'
 have so2:=vs.fx'
 have ro:=rs.one'
 have ro2:=rs.fx'
 have np1:AV.np.one=true:=rfl
 have ov2:over [AV.ns,AV.ns] 0 [vs.a]=[vs.a,.ns]:=rfl
 have ov3:over [AV.ns,AV.ns] 0 [vs.a,.ns]=[vs.a,.ns]:=rfl
 have ov4:over [AV.ns,AV.ns] 0 [vs.a,rs.a]=[vs.a,rs.a]:=rfl
 have wsl:∀x:SlA,wrOk false x.a=true:=fun x=>by
  have:=x.one'
  simp only[wrOk]
  exact this
 have sw:[vs.a,AV.ns].all (wrOk false)=true:=by
  simp only[List.all_cons,List.all_nil,wsl,Bool.and_true,Bool.true_and]
  rfl
 have sw2:[vs.a,rs.a].all (wrOk false)=true:=by
  simp only[List.all_cons,List.all_nil,wsl,Bool.and_true]
 have o0:over [AV.ns,AV.ns] 0 [.ns,.ns]=[.ns,.ns]:=rfl
 have o1:∀x y,over [AV.i .i64 0,AV.i .i64 0] 0 [.i .i64 x,.i .i64 y]=[.i .i64 x,.i .i64 y]:=fun _ _=>rfl
 have o6:∀a b c d x y:AV,over [a,b,c,d] 2 [x,y]=[a,b,x,y]:=fun _ _ _ _ _ _=>rfl
 have o7:∀a b c d x:AV,over [a,b,c,d] 2 [x]=[a,b,x,d]:=fun _ _ _ _ _=>rfl
 have vso:vs.a.ok (fun i=>decide (i<Z.length))=true:=by
  rw[hvs]
  exact JRX _ _ _ (decide_eq_true (by omega))
 have stP:=LZ.stayP (lo:=Y.length) (by omega) (Nat.le_refl _)
 have rso:rs.a.ok (fun i=>decide (i<Z.length))=true:=by
  rw[hrs]
  exact (stP Z (Nat.le_refl _) fun _ _ _=>rfl).2
 have qk:∀(x:AV) lo hi anc past,x.ok (fun i=>decide (i<Z.length))=true->x.ok (qOk Z.length lo hi anc past)=true:=fun x lo hi anc past hx=>AV.ok_mono (fun i z=>by simp only[decide_eq_true_eq]at z;exact ZX5 z) x hx
 have vsq:=fun lo hi anc past=>qk vs.a lo hi anc past vso
 have rsq:=fun lo hi anc past=>qk rs.a lo hi anc past rso
 have zb8:Z[h.length+8]?=some (resB intR true n):=(keep _ (by omega) (by omega) (by omega) (by omega) (by omega)).trans (g 8)
 have hnl:n.length<=maxLen:=by have:=hB.v;dsimp only at this;unfold maxLen;omega
 have rdT:∀H',Z.length<=H'.length->(∀q,h.length+8<=q->q<Z.length->q≠h.length+9->zZU H' q=zZU Z q)->RdT H' vs.a rs.a n m:=fun H' g1 g2=>by
  refine ⟨?_,?_⟩
  ·rw[hvs]
   have e1:Rd intR Z (apS intR (h.length+8) n) n:=KKk zb8 hnl
   have hid:∀id∈idOf (apS intR (h.length+8) n),id=h.length+8:=fun id hid=>by
    unfold apS at hid
    split at hid
    ·simp [idOf]at hid
    ·simpa [idOf] using hid
   exact q4d (fun id z=>by
    have:=hid id z
    exact g2 id (by omega) (by omega) (by omega)) e1
  ·rw[hrs]
   exact (stP H' g1 fun q h1 h2=>g2 q (by omega) h2 (by omega)).1
 have pre:∀H',Z.length<=H'.length->(∀q,q<h.length->H'[q]?=Z[q]?)->∃L,H'=h++L:=fun H' g1 g2=>by
  refine ⟨H'.drop h.length,?_⟩
  have:H'.take h.length=h:=List.ext_getElem? fun q=>by
   rw[List.getElem?_take]
   split
   ·rename_i hq
    rw[g2 q hq,keep q (by omega) (by omega) (by omega) (by omega) (by omega),hY,List.getElem?_append_left hq]
   ·rename_i hq
    rw[List.getElem?_eq_none (by omega)]
  conv=>lhs;rw[<-List.take_append_drop h.length H',this]
 have nil:∀H',RdT H' .ns .ns [] []:=fun H'=>⟨⟨rfl,Nat.zero_le _⟩,⟨rfl,Nat.zero_le _⟩,fun e he=>by simp at he,fun e he=>by simp at he⟩
 have frz:∀anc past,qRB (seen Z.length anc past Z.length) [] 0 Z=Z.map AB.freeze:=fun anc past=>List.ext_getElem? fun q=>by
  by_cases hq:q<Z.length
  ·rw[q3P (z7v hq hq) (by simp),List.getElem?_map]
  ·rw[List.getElem?_eq_none (by rw[ZOs];omega),List.getElem?_eq_none (by rw[List.length_map];omega)]
 have endM:∀anc past,zJN [.p (h.length+2) 0] (qRB (seen Z.length anc past Z.length) [] 0 Z)=some (.ag [.i .i64 (Q60 bs st.1).1,.i .i64 (Q60 bs st.1).2],qRB (seen Z.length anc past Z.length) [] 0 Z):=fun anc past=>Zr.endM anc past
 have chk:∀anc past,YeC [.ag [vs.a,rs.a]] (qRB (seen Z.length anc past Z.length) [] 0 Z)=some (.i .i64 (chkT ⟨n,m.map (·.2)⟩),qRB (seen Z.length anc past Z.length) [] 0 Z):=fun anc past=>by
  show (getT _ _).bind _=_
  have e1:getT (qRB (seen Z.length anc past Z.length) [] 0 Z) (.ag [vs.a,rs.a])=some ⟨n,m.map (·.2)⟩:=by
   rw[frz]
   exact (rdT Z (Nat.le_refl _) fun _ _ _ _=>rfl).frz.get
  rw[e1,Option.bind_some,if_pos hB]
 have l1:=eq_true hl
 have vY':XHu [.p (h.length+2) 0,.i .i64 16] (h++[.blk false true [.ns,.ns],.blk true true [.i .i64 0,.i .i64 0],.blk false true [.p (h.length+3) 0,rsl X0d (h.length+4) bs,.i .i64 0],.blk true true [.i .i64 0,.i .i64 0],resB X0d true bs,.blk false true [.p (h.length+2) 0],.blk false true [.p (h.length+2) 0,.i .i64 (bs.length:Nat),.i .i64 0,.i .i64 0],.blk false true [.p (h.length+6) 0]])=some (vs.a,h++(dB h.length bs y++[resB intR true n])):=vY
 simp only[dB,List.cons_append,List.nil_append]at vY'
 have t1:T1 [.p (h.length+6) 0,.f (.func 103) [] [.p (h.length+5) 0,.p (h.length+7) 0,.p (h.length+9) 0]] Y (.tu []) Z [.p (h.length+6) 0,.f (.func 103) [] [.p (h.length+5) 0,.p (h.length+7) 0,.p (h.length+9) 0]] (h++(dB h.length bs y++[resB intR true n,.blk false true [vs.a,.ns]]))=some (.tu [],Z):=by
  rw[<-hY]
  exact YEj _ _ _ _
 simp only[dB,List.cons_append,List.nil_append]at t1
 have pack:∀c q:Int,∃Zx,Z.set (h.length+6) (.blk false true [.p (h.length+2) 0,.i .i64 (bs.length:Nat),.i .i64 c,.i .i64 q])=Zx/\Zx.length=Z.length/\HOk Zx/\Zx[h.length+7]?=some (.blk false true [.p (h.length+6) 0])/\Zx[h.length+6]?=some (.blk false true [.p (h.length+2) 0,.i .i64 (bs.length:Nat),.i .i64 c,.i .i64 q])/\Zx[h.length+0]?=some (.blk false true [.ns,.ns])/\Zx[h.length+1]?=some (.blk true true [.i .i64 0,.i .i64 0])/\∀k,k<h.length->Zx[k]?=Z[k]?:=fun c q=>by
  refine ⟨_,rfl,List.length_set,hhZ.set1 ?_,?_,List.getElem?_set_self (by omega),?_,?_,fun k hk=>List.getElem?_set_ne (by omega)⟩
  ·simp only[AB.ok,ZiP,q0E,ok_p,ok_i,Bool.and_true]
   exact decide_eq_true (by omega)
  ·rw[List.getElem?_set_ne (by omega)];exact zb7
  ·rw[List.getElem?_set_ne (by omega)];exact zo0
  ·rw[List.getElem?_set_ne (by omega)];exact zo1
 have qo2:∀lo hi anc past,qOk Z.length lo hi anc past (h.length+2)=true:=fun lo hi anc past=>ZX5 (by omega)
 rcases Zr.ok.f with zf|⟨zf,_⟩
 ·have zf1:st.2.1=0:=by rw[zf]
  have zf2:st.2.2=0:=by rw[zf]
  rw[zf1,zf2]at zld
  have zx':Z[h.length+6]?=some (.blk false true [.p (h.length+2) 0,.i .i64 (bs.length:Nat),.i .i64 0,.i .i64 0]):=by rw[zx,zf]
  have fs3:=fun S x y=>stM (n:=2) (o:=2) (vs:=[.i .i64 x,.i .i64 y]) S zx' rfl (by simp) rfl
  have fs4:=fun S x=>stM1 (o:=2) (v:=.i .i64 x) S zx' (by simp) rfl rfl
  have hfl:fltS bs st=Q60 bs st.1:=by unfold fltS;rw[if_pos zf]
  obtain ⟨f1,f2,hf12⟩:∃f1 f2,Q60 bs st.1=(f1,f2):=⟨_,_,rfl⟩
  rw[hf12]at hfl endM
  rw[hfl]at hdec
  by_cases w:f1=0/\f2=0
  ·obtain ⟨w1,w2⟩:=w
   subst w1
   subst w2
   rw[if_pos rfl]at hdec
   have as6:Z.set (h.length+6) (.blk false true [.p (h.length+2) 0,.i .i64 (bs.length:Nat),.i .i64 0,.i .i64 0])=Z:=qgt zx'
   obtain ⟨c,hc⟩:∃c,chkT ⟨n,m.map (·.2)⟩=c:=⟨_,rfl⟩
   rw[hc]at hdec chk
   rcases emG (c=0) with w|w
   ·rw[if_pos (of_eq_true w)]at hdec
    have w0:c=0:=of_eq_true w
    subst w0
    have fs1:=fun S=>stM (n:=2) (o:=0) (vs:=[vs.a,rs.a]) S zo0 rfl (by simp) sw2
    obtain ⟨Za,hZa⟩:∃Za,Z.set (h.length+0) (.blk false true [vs.a,rs.a])=Za:=⟨_,rfl⟩
    have al:Za.length=Z.length:=by rw[<-hZa,List.length_set]
    have a1:Za[h.length+1]?=some (.blk true true [.i .i64 0,.i .i64 0]):=by rw[<-hZa,List.getElem?_set_ne (by omega)];exact zo1
    have hZa2:HOk Za:=by
     rw[<-hZa]
     refine hhZ.set1 ?_
     simp only[AB.ok,ZiP,q0E,vso,rso,Bool.and_true]
    have hZa3:=eq_true hZa2
    have drpMa:∀(S:List Nat) (w:Nat) (B:AB),((qRB S [w] 0 Za).set w B).drop Z.length=[]:=fun S w B=>by rw[<-al];exact drpM S B
    have y1:=eq_true (show h.length+1<Za.length by omega)
    have fs2:=fun S x y=>stM (n:=2) (o:=0) (vs:=[.i .i64 x,.i .i64 y]) S a1 rfl (by simp) rfl
    have as1:Za.set (h.length+1) (.blk true true [.i .i64 0,.i .i64 0])=Za:=qgt a1
    have lf0:ldV Za (some 2) (.p (h.length+0) 0)=some (.ag [vs.a,rs.a]):=by
     rw[<-hZa]
     exact JNy (List.getElem?_set_self (by omega)) (by simp) rfl
    have lf1:ldV Za (some 2) (.p (h.length+1) 0)=some (.ag [.i .i64 0,.i .i64 0]):=JNy a1 (by simp) rfl
    refine ⟨.tu [.ag [vs.a,rs.a],.ag [.i .i64 0,.i .i64 0]],Za,?_,pre Za (by omega) (fun q hq=>by rw[<-hZa,List.getElem?_set_ne (by omega)]),hZa2,vs.a,rs.a,n,m,_,_,rfl,by rw[al];simp only[ZiP,q0E,vso,rso,Bool.and_true],rdT Za (by omega) (fun q h1 h2 h3=>by unfold zZU;rw[<-hZa,List.getElem?_set_ne (by omega)]),hdec.symm⟩
    refine FnAt.c (FnAt.run (by kernel_rfl) (T:=⟨[⟨100,ZjI,fun _=>[]⟩,⟨101,XHu,fun _=>[]⟩,⟨102,T1 [.p (h.length+6) 0,.f (.func 103) [] [.p (h.length+5) 0,.p (h.length+7) 0,.p (h.length+9) 0]] Y (.tu []) Z,fun _=>[]⟩,⟨107,zJN,fun _=>[]⟩,⟨18,YeC,fun _=>[]⟩],[]⟩) ⟨⟨qCs,K0t,Y2x c1,ZLZ,qha,trivial⟩,trivial⟩ Tryz.func37 sw37 fun _ _=>?_)
    have fa:=ha.fx ao (sz:=1) rfl
    unfold w37
    simp only[z49,Qs3,XtK,K1H,JS3,simprocAttr,CO.tmps,Opd.tmps,optT,fa,l1,vY',t1,so,so2,ro,ro2,np1,ov2,ov3,ov4,sw,sw2,z4,z5,z6,zld,endM,chk,fs3,fs4,qo2,vsq,rsq,vso,rso,as6,fs1,hZa,al,drpMa,hZa3,y1,fs2,as1,lf0,lf1, Xvm,hZ,q0,q1,q2,q5,q6,q7,q9,o0,o1,o6,o7,JW9,mrgM,qFk,drpM,lenM,ZOs,Nat.le_refl,List.length_set,if_true,zvl,ZjI,Option.bind_some,Bool.xor_true,Bool.xor_false,Bool.false_and,Bool.and_false,Bool.and_true,Bool.true_and,Bool.not_true,Bool.not_false,List.getElem?_cons_zero,List.getElem?_cons_succ,oD,ne_eq,forall_const]
    exact Bt.refl _ _ _
   ·rw[if_neg (of_eq_false w)]at hdec
    obtain ⟨Zx,x0,x1,x2,x3,x4,x5,x6,x7⟩:=pack c 0
    have hZx:=eq_true x2
    have y0:=eq_true (show h.length+0<Zx.length by omega)
    have y1:=eq_true (show h.length+1<Zx.length by omega)
    have y6:=eq_true (show h.length+6<Zx.length by omega)
    have y7:=eq_true (show h.length+7<Zx.length by omega)
    have fs1:=fun S=>stM (n:=2) (o:=0) (vs:=[.ns,.ns]) S x5 rfl (by simp) rfl
    have fs2:=fun S x y=>stM (n:=2) (o:=0) (vs:=[.i .i64 x,.i .i64 y]) S x6 rfl (by simp) rfl
    have asis:Zx.set (h.length+0) (.blk false true [.ns,.ns])=Zx:=qgt x5
    have xl5:ldV Zx none (.p (h.length+7) 0)=some (.p (h.length+6) 0):=qGa x3 rfl
    have xlf:ldV Zx (some 2) (.p (h.length+6) 2)=some (.ag [.i .i64 (c),.i .i64 (0)]):=JNy x4 (by simp) rfl
    obtain ⟨ZF,hZF⟩:∃ZF,Zx.set (h.length+1) (.blk true true [.i .i64 (c),.i .i64 (0)])=ZF:=⟨_,rfl⟩
    have lf0:ldV ZF (some 2) (.p (h.length+0) 0)=some (.ag [.ns,.ns]):=by
     rw[<-hZF]
     exact JNy ((List.getElem?_set_ne (by omega)).trans x5) (by simp) rfl
    have lf1:ldV ZF (some 2) (.p (h.length+1) 0)=some (.ag [.i .i64 (c),.i .i64 (0)]):=by
     rw[<-hZF]
     exact JNy (List.getElem?_set_self (by omega)) (by simp) rfl
    refine ⟨.tu [.ag [.ns,.ns],.ag [.i .i64 (c),.i .i64 (0)]],ZF,?_,pre ZF (by rw[<-hZF,List.length_set];omega) (fun q hq=>by rw[<-hZF,List.getElem?_set_ne (by omega)];exact x7 q hq),by rw[<-hZF];exact x2.set1 (by simp only[AB.ok]),.ns,.ns,[],[],_,_,rfl,rfl,nil ZF,?_⟩
    ·skip
     refine FnAt.c (FnAt.run (by kernel_rfl) (T:=⟨[⟨100,ZjI,fun _=>[]⟩,⟨101,XHu,fun _=>[]⟩,⟨102,T1 [.p (h.length+6) 0,.f (.func 103) [] [.p (h.length+5) 0,.p (h.length+7) 0,.p (h.length+9) 0]] Y (.tu []) Z,fun _=>[]⟩,⟨107,zJN,fun _=>[]⟩,⟨18,YeC,fun _=>[]⟩],[]⟩) ⟨⟨qCs,K0t,Y2x c1,ZLZ,qha,trivial⟩,trivial⟩ Tryz.func37 sw37 fun _ _=>?_)
     have fa:=ha.fx ao (sz:=1) rfl
     unfold w37
     simp only[z49,Qs3,XtK,K1H,JS3,simprocAttr,CO.tmps,Opd.tmps,optT,fa,l1,vY',t1,so,so2,ro,ro2,np1,ov2,ov3,ov4,sw,sw2,z4,z5,z6,zld,endM,chk,fs3,fs4,qo2,vsq,rsq,vso,rso,as6,w,x0,hZx,y0,y1,y6,y7,fs1,fs2,asis,xl5,xlf,hZF,lf0,lf1, Xvm,hZ,q0,q1,q2,q5,q6,q7,q9,o0,o1,o6,o7,JW9,mrgM,qFk,drpM,lenM,ZOs,Nat.le_refl,List.length_set,if_true,zvl,ZjI,Option.bind_some,Bool.xor_true,Bool.xor_false,Bool.false_and,Bool.and_false,Bool.and_true,Bool.true_and,Bool.not_true,Bool.not_false,List.getElem?_cons_zero,List.getElem?_cons_succ,oD,ne_eq,forall_const]
     exact Bt.refl _ _ _
    ·exact hdec.symm
  ·rw[if_neg (fun z=>w ⟨congrArg Prod.fst z,congrArg Prod.snd z⟩)]at hdec
   have hd:(decide (f1=0)&&decide (f2=0))=false:=by
    rw[Bool.and_eq_false_iff]
    by_cases w1:f1=0
    ·exact .inr (decide_eq_false fun w2=>w ⟨w1,w2⟩)
    ·exact .inl (decide_eq_false w1)
   obtain ⟨Zx,x0,x1,x2,x3,x4,x5,x6,x7⟩:=pack f1 f2
   have hZx:=eq_true x2
   have y0:=eq_true (show h.length+0<Zx.length by omega)
   have y1:=eq_true (show h.length+1<Zx.length by omega)
   have y6:=eq_true (show h.length+6<Zx.length by omega)
   have y7:=eq_true (show h.length+7<Zx.length by omega)
   have fs1:=fun S=>stM (n:=2) (o:=0) (vs:=[.ns,.ns]) S x5 rfl (by simp) rfl
   have fs2:=fun S x y=>stM (n:=2) (o:=0) (vs:=[.i .i64 x,.i .i64 y]) S x6 rfl (by simp) rfl
   have asis:Zx.set (h.length+0) (.blk false true [.ns,.ns])=Zx:=qgt x5
   have xl5:ldV Zx none (.p (h.length+7) 0)=some (.p (h.length+6) 0):=qGa x3 rfl
   have xlf:ldV Zx (some 2) (.p (h.length+6) 2)=some (.ag [.i .i64 (f1),.i .i64 (f2)]):=JNy x4 (by simp) rfl
   obtain ⟨ZF,hZF⟩:∃ZF,Zx.set (h.length+1) (.blk true true [.i .i64 (f1),.i .i64 (f2)])=ZF:=⟨_,rfl⟩
   have lf0:ldV ZF (some 2) (.p (h.length+0) 0)=some (.ag [.ns,.ns]):=by
    rw[<-hZF]
    exact JNy ((List.getElem?_set_ne (by omega)).trans x5) (by simp) rfl
   have lf1:ldV ZF (some 2) (.p (h.length+1) 0)=some (.ag [.i .i64 (f1),.i .i64 (f2)]):=by
    rw[<-hZF]
    exact JNy (List.getElem?_set_self (by omega)) (by simp) rfl
   refine ⟨.tu [.ag [.ns,.ns],.ag [.i .i64 (f1),.i .i64 (f2)]],ZF,?_,pre ZF (by rw[<-hZF,List.length_set];omega) (fun q hq=>by rw[<-hZF,List.getElem?_set_ne (by omega)];exact x7 q hq),by rw[<-hZF];exact x2.set1 (by simp only[AB.ok]),.ns,.ns,[],[],_,_,rfl,rfl,nil ZF,?_⟩
   ·skip
    refine FnAt.c (FnAt.run (by kernel_rfl) (T:=⟨[⟨100,ZjI,fun _=>[]⟩,⟨101,XHu,fun _=>[]⟩,⟨102,T1 [.p (h.length+6) 0,.f (.func 103) [] [.p (h.length+5) 0,.p (h.length+7) 0,.p (h.length+9) 0]] Y (.tu []) Z,fun _=>[]⟩,⟨107,zJN,fun _=>[]⟩,⟨18,YeC,fun _=>[]⟩],[]⟩) ⟨⟨qCs,K0t,Y2x c1,ZLZ,qha,trivial⟩,trivial⟩ Tryz.func37 sw37 fun _ _=>?_)
    have fa:=ha.fx ao (sz:=1) rfl
    unfold w37
    simp only[z49,Qs3,XtK,K1H,JS3,simprocAttr,CO.tmps,Opd.tmps,optT,fa,l1,vY',t1,so,so2,ro,ro2,np1,ov2,ov3,ov4,sw,sw2,z4,z5,z6,zld,endM,fs3,qo2,hd,x0,hZx,y0,y1,y6,y7,fs1,fs2,asis,xl5,xlf,hZF,lf0,lf1, Xvm,hZ,q0,q1,q2,q5,q6,q7,q9,o0,o1,o6,o7,JW9,mrgM,qFk,drpM,lenM,ZOs,Nat.le_refl,List.length_set,if_true,zvl,ZjI,Option.bind_some,Bool.xor_true,Bool.xor_false,Bool.false_and,Bool.and_false,Bool.and_true,Bool.true_and,Bool.not_true,Bool.not_false,List.getElem?_cons_zero,List.getElem?_cons_succ,oD,ne_eq,forall_const]
    exact Bt.refl _ _ _
   ·exact hdec.symm
 ·obtain ⟨Zx,x0,x1,x2,x3,x4,x5,x6,x7⟩:=pack 4 st.2.2
  have xa:Zx=Z:=by
   rw[<-x0,<-zf]
   exact qgt zx
  have hfl:fltS bs st=(4,st.2.2):=by
   unfold fltS
   rw[if_neg (fun z=>by rw[z]at zf;exact absurd zf (by decide))]
   exact Prod.ext zf rfl
  rw[hfl,if_neg (fun z=>absurd (congrArg Prod.fst z) (by show ¬(4:Int)=0;decide))]at hdec
  rw[zf]at zld
  have zn:(4:Int)=0↔False:=by decide
  have hZx:=eq_true x2
  have y0:=eq_true (show h.length+0<Zx.length by omega)
  have y1:=eq_true (show h.length+1<Zx.length by omega)
  have y6:=eq_true (show h.length+6<Zx.length by omega)
  have y7:=eq_true (show h.length+7<Zx.length by omega)
  have fs1:=fun S=>stM (n:=2) (o:=0) (vs:=[.ns,.ns]) S x5 rfl (by simp) rfl
  have fs2:=fun S x y=>stM (n:=2) (o:=0) (vs:=[.i .i64 x,.i .i64 y]) S x6 rfl (by simp) rfl
  have asis:Zx.set (h.length+0) (.blk false true [.ns,.ns])=Zx:=qgt x5
  have xl5:ldV Zx none (.p (h.length+7) 0)=some (.p (h.length+6) 0):=qGa x3 rfl
  have xlf:ldV Zx (some 2) (.p (h.length+6) 2)=some (.ag [.i .i64 (4),.i .i64 (st.2.2)]):=JNy x4 (by simp) rfl
  obtain ⟨ZF,hZF⟩:∃ZF,Zx.set (h.length+1) (.blk true true [.i .i64 (4),.i .i64 (st.2.2)])=ZF:=⟨_,rfl⟩
  have lf0:ldV ZF (some 2) (.p (h.length+0) 0)=some (.ag [.ns,.ns]):=by
   rw[<-hZF]
   exact JNy ((List.getElem?_set_ne (by omega)).trans x5) (by simp) rfl
  have lf1:ldV ZF (some 2) (.p (h.length+1) 0)=some (.ag [.i .i64 (4),.i .i64 (st.2.2)]):=by
   rw[<-hZF]
   exact JNy (List.getElem?_set_self (by omega)) (by simp) rfl
  refine ⟨.tu [.ag [.ns,.ns],.ag [.i .i64 (4),.i .i64 (st.2.2)]],ZF,?_,pre ZF (by rw[<-hZF,List.length_set];omega) (fun q hq=>by rw[<-hZF,List.getElem?_set_ne (by omega)];exact x7 q hq),by rw[<-hZF];exact x2.set1 (by simp only[AB.ok]),.ns,.ns,[],[],_,_,rfl,rfl,nil ZF,?_⟩
  ·rw[xa]at hZx y0 y1 y6 y7 fs1 fs2 asis xl5 xlf hZF
   refine FnAt.c (FnAt.run (by kernel_rfl) (T:=⟨[⟨100,ZjI,fun _=>[]⟩,⟨101,XHu,fun _=>[]⟩,⟨102,T1 [.p (h.length+6) 0,.f (.func 103) [] [.p (h.length+5) 0,.p (h.length+7) 0,.p (h.length+9) 0]] Y (.tu []) Z,fun _=>[]⟩,⟨107,zJN,fun _=>[]⟩,⟨18,YeC,fun _=>[]⟩],[]⟩) ⟨⟨qCs,K0t,Y2x c1,ZLZ,qha,trivial⟩,trivial⟩ Tryz.func37 sw37 fun _ _=>?_)
   have fa:=ha.fx ao (sz:=1) rfl
   unfold w37
   simp only[z49,Qs3,XtK,K1H,JS3,simprocAttr,CO.tmps,Opd.tmps,optT,fa,l1,vY',t1,so,so2,ro,ro2,np1,ov2,ov3,ov4,sw,sw2,z4,z5,z6,zld,zn,hZx,y0,y1,y6,y7,fs1,fs2,asis,xl5,xlf,hZF,lf0,lf1, Xvm,hZ,q0,q1,q2,q5,q6,q7,q9,o0,o1,o6,o7,JW9,mrgM,qFk,drpM,lenM,ZOs,Nat.le_refl,List.length_set,if_true,zvl,ZjI,Option.bind_some,Bool.xor_true,Bool.xor_false,Bool.false_and,Bool.and_false,Bool.and_true,Bool.true_and,Bool.not_true,Bool.not_false,List.getElem?_cons_zero,List.getElem?_cons_succ,oD,ne_eq,forall_const]
   exact Bt.refl _ _ _
  ·exact hdec.symm
end
section
section
variable {α:Type} {bs:List UInt8} {g:RFt->α×RFt}
theorem XZn:∀(n:Nat) (st:RFt) (acc:List α),(lstS g n st acc).1.length<=acc.length+n
 | 0,_,_=>Nat.le_refl _
 | n+1,st,acc=>by
  rw[lstS]
  split
  ·exact Nat.le_add_right _ _
  ·have:=XZn n (g st).2 (acc++[(g st).1])
   rw[List.length_append,List.length_cons,List.length_nil]at this
   omega
theorem ZQp {P:α->Prop} (hg:∀st,P (g st).1):∀(n:Nat) (st:RFt) (acc:List α),(∀x∈acc,P x)->∀x∈(lstS g n st acc).1,P x
 | 0,_,_,h=>h
 | n+1,st,acc,h=>by
  rw[lstS]
  split
  ·exact h
  ·exact ZQp hg n _ _ fun x hx=>by
    rcases List.mem_append.1 hx with hx|hx
    ·exact h x hx
    ·rw[List.mem_singleton]at hx
     rw[hx]
     exact hg st
theorem KHQ (st:RFt):(seqS bs g st).1.length<=bs.length:=by
 unfold seqS
 split
 ·exact Nat.zero_le _
 ·obtain ⟨N,r',hN⟩:=ZBN bs st.1
  rw[q47 hN]
  dsimp only
  by_cases z:(bs.length:Int)<(N:Int)
  ·rw[if_pos z]
   cases N with
   | zero=>exact Nat.zero_le _
   | succ N =>
    rw[lstS,if_pos (show flsV _ from Or.inl (by simp))]
    exact Nat.zero_le _
  ·have:=XZn (g:=g) N (r',if (bs.length:Int)<(N:Int) then (4,(st.1.pos:Int)) else st.2) []
   simp only[List.length_nil]at this
   omega
theorem JAl {P:α->Prop} (hg:∀st,P (g st).1) (st:RFt):∀x∈(seqS bs g st).1,P x:=by
 unfold seqS
 split
 ·intro x hx
  simp at hx
 ·exact ZQp hg _ _ _ fun x hx=>by simp at hx
end
theorem X3U (bs:List UInt8):∀(k:Nat) (x:RSt) (acc:List Int),(KiA bs k x acc).1.length<=acc.length+k
 | 0,x,acc=>by unfold KiA;split <;> first|exact Nat.le_refl _|exact Nat.zero_le _
 | k+1,x,acc=>by
  unfold KiA
  split
  ·have:=X3U bs k (KqA bs x).2 (acc++[(KqA bs x).1])
   rw[List.length_append,List.length_cons,List.length_nil]at this
   omega
  ·exact Nat.zero_le _
theorem ZBw {bs:List UInt8} (hl:bs.length<=1000000):BdT (tbS bs).1:=by
 have hv:(QDw bs ⟨0,0,0⟩ 16).1.length<=1000000:=by
  unfold QDw
  obtain ⟨y,hy⟩:∃y,y=qlW bs ⟨0,0,0⟩ 16:=⟨_,rfl⟩
  rw[<-hy]
  by_cases he:y.2.err=0
  ·have h1:=X3U bs y.1.toNat y.2 []
   have h2:y.1<=16:=by
    have:=(QRN 16 (show (⟨0,0,0⟩:RSt).err=0 from rfl) (by rw[<-hy];exact he)).2.2
    rw[<-hy]at this
    exact this
   simp only[List.length_nil]at h1
   omega
  ·rw[Q7s _ _ _ _ he]
   exact Nat.zero_le _
 refine ⟨hv,Nat.le_trans (KHQ _) hl,JAl (P:=BdR) (fun st=>⟨X5D bs _ _ hl,Nat.le_trans (KHQ _) hl,Nat.le_trans (KHQ _) hl,JAl (P:=fun g:TgD=>g.name.length<=1000000/\g.held.length<=1000000) (fun st=>⟨X5D bs _ _ hl,Nat.le_trans (KHQ _) hl⟩) _⟩) _⟩
noncomputable def zPL:List AV->List AB->Option (AV×List AB):=TQ Tryz.prog 37 (fun args h (bs:List UInt8)=>∃a,args=[a]/\Rd X0d h a bs/\bs.length<=1000000/\HOk h/\a.ok (fun i=>decide (i<h.length))=true) (fun bs h v h'=>(∃L,h'=h++L)/\HOk h'/\∃vs rs n m c p,v=.tu [.ag [vs,rs],.ag [.i .i64 c,.i .i64 p]]/\okL (fun i=>decide (i<h'.length)) [vs,rs]=true/\RdT h' vs rs n m/\(⟨n,m.map (·.2)⟩,c,p)=tdec chkT bs)
theorem XDX:Spec Tryz.prog 37 zPL:=Z7n _ _ _ _
theorem XXR {h:List AB} {a:AV} {bs:List UInt8} (ha:Rd X0d h a bs) (hl:bs.length<=1000000) (hh:HOk h) (ao:a.ok (fun i=>decide (i<h.length))=true):∃L vs rs n m c p,zPL [a] h=some (.tu [.ag [vs,rs],.ag [.i .i64 c,.i .i64 p]],h++L)/\HOk (h++L)/\okL (fun i=>decide (i<(h++L).length)) [vs,rs]=true/\RdT (h++L) vs rs n m/\(⟨n,m.map (·.2)⟩,c,p)=tdec chkT bs:=by
 obtain ⟨v,h',c1,o1⟩:=ZZk ha hl (ZBw hl) hh ao
 obtain ⟨v2,h2,e1,⟨L,rfl⟩,k1,vs,rs,n,m,c,p,rfl,k2,e2,e3⟩:=XsQ (P:=Tryz.prog) (g:=37) (I:=fun args h (bs:List UInt8)=>∃a,args=[a]/\Rd X0d h a bs/\bs.length<=1000000/\HOk h/\a.ok (fun i=>decide (i<h.length))=true) (O:=fun bs h v h'=>(∃L,h'=h++L)/\HOk h'/\∃vs rs n m c p,v=.tu [.ag [vs,rs],.ag [.i .i64 c,.i .i64 p]]/\okL (fun i=>decide (i<h'.length)) [vs,rs]=true/\RdT h' vs rs n m/\(⟨n,m.map (·.2)⟩,c,p)=tdec chkT bs) (fun x y hx hy=>by
  obtain ⟨a1,e1,r1,_⟩:=hx
  obtain ⟨a2,e2,r2,_⟩:=hy
  rw[e1]at e2
  cases e2
  exact r1.inj r2) ⟨a,rfl,ha,hl,hh,ao⟩ c1 o1
 exact ⟨L,vs,rs,n,m,c,p,e1,k1,k2,e2,e3⟩
end
section
theorem znc (V:List Int):∀(L:List Hd) (D:List (Int×Int)),K1o V L D↔(∀x∈L,x.1∉D/\vhas V x.1)/\(L.map (·.1)).Nodup
 | [],D=>by simp [K1o]
 | x::L,D=>by
  rw[K1o,znc V L,List.map_cons,List.nodup_cons]
  constructor
  ·rintro ⟨h1,h2,h3,h4⟩
   refine ⟨fun y hy=>?_,fun q=>?_,h4⟩
   ·rcases List.mem_cons.1 hy with rfl|hy
    ·exact ⟨h1,h2⟩
    ·exact ⟨fun z=>(h3 y hy).1 (List.mem_append_left _ z),(h3 y hy).2⟩
   ·obtain ⟨y,hy,e⟩:=List.mem_map.1 q
    exact (h3 y hy).1 (List.mem_append_right _ (by rw[e];exact List.mem_singleton.2 rfl))
  ·rintro ⟨h1,h2,h3⟩
   refine ⟨(h1 x (.head _)).1,(h1 x (.head _)).2,fun y hy=>⟨fun z=>?_,(h1 y (.tail _ hy)).2⟩,h3⟩
   rcases List.mem_append.1 z with q|q
   ·exact (h1 y (.tail _ hy)).1 q
   ·exact h2 (List.mem_map.2 ⟨y,hy,List.mem_singleton.1 q⟩)
theorem qJE (V:List Int) (D:List (Int×Int)) (L:List Hd):Qgi V D L↔(∀x∈L,x.1∉D/\vhas V x.1)/\(L.map (·.1)).Nodup/\(L.map (·.1)).Pairwise JTv:=by
 unfold Qgi
 rw[znc,QEn QR0 (fun a:Hd=>a.1) zEN.d,and_assoc]
theorem KoD (V:List Int):∀(LL:List (List Hd)) (D:List (Int×Int)),z8C V LL D↔(∀d∈qAa LL,d∉D/\vhas V d)/\(qAa LL).Nodup/\∀L∈LL,(L.map (·.1)).Pairwise JTv
 | [],D=>by simp [z8C,X9e]
 | L::LL,D=>by
  rw[z8C,qJE,KoD V LL,J8J,List.nodup_append]
  constructor
  ·rintro ⟨⟨a1,a2,a3⟩,b1,b2,b3⟩
   refine ⟨fun d hd=>?_,⟨a2,b2,fun d hd e he q=>?_⟩,fun K hK=>?_⟩
   ·rcases List.mem_append.1 hd with q|q
    ·obtain ⟨x,hx,rfl⟩:=List.mem_map.1 q
     exact a1 x hx
    ·exact ⟨fun z=>(b1 d q).1 (List.mem_append_left _ z),(b1 d q).2⟩
   ·subst q
    exact (b1 d he).1 (List.mem_append_right _ hd)
   ·rcases List.mem_cons.1 hK with rfl|hK
    ·exact a3
    ·exact b3 K hK
  ·rintro ⟨h1,⟨h2,h3,h4⟩,h5⟩
   refine ⟨⟨fun x hx=>h1 x.1 (List.mem_append_left _ (List.mem_map.2 ⟨x,hx,rfl⟩)),h2,h5 L (.head _)⟩,fun d hd=>⟨fun z=>?_,(h1 d (List.mem_append_right _ hd)).2⟩,h3,fun K hK=>h5 K (.tail _ hK)⟩
   rcases List.mem_append.1 z with q|q
   ·exact (h1 d (List.mem_append_right _ hd)).1 q
   ·exact h4 d q d hd rfl
theorem XcV (l:List RpD):qAa (qYW l)=(ZrA l).map (·.held.1):=by
 unfold qAa qYW ZrA
 induction l with
 | nil=>rfl
 | cons r l ih =>
  rw[List.flatMap_cons,List.flatMap_cons,List.flatten_append,List.map_append,List.map_append,ih]
  congr 1
  unfold XH8 qEk K3d qyh
  rw[List.flatten_append,List.map_append,List.map_append,List.map_map]
  congr 1
  ·induction r.tags with
   | nil=>rfl
   | cons g ts ih2 =>
    rw[List.map_cons,List.flatten_cons,List.map_append,ih2,List.flatMap_cons,List.map_append,List.map_map]
    rfl
  ·simp
structure FormT (t:TbD):Prop where
 fine:FineT t.repos
 dots:((ZrA t.repos).map (·.held.1)).Nodup
 vec:∀x∈ZrA t.repos,vhas t.v x.held.1
theorem YFt (t:TbD):YKY t↔FormT t:=by
 unfold YKY
 rw[KoD,XcV]
 have hl:∀L,L∈qYW t.repos↔∃r∈t.repos,(∃g∈r.tags,g.held=L)\/L=r.mans:=fun L=>by
  unfold qYW XH8
  simp only[List.mem_flatMap,List.mem_append,List.mem_map,List.mem_singleton]
 constructor
 ·rintro ⟨h1,h2,h3,h4,h5⟩
  refine ⟨⟨h1,fun r hr=>⟨(h2 r hr).1,?_,fun g hg=>⟨fun z=>(h2 r hr).2.2 g hg (by rw[z];rfl),h5 _ ((hl _).2 ⟨r,hr,.inl ⟨g,hg,rfl⟩⟩)⟩,h5 _ ((hl _).2 ⟨r,hr,.inr rfl⟩)⟩⟩,h4,fun x hx=>(h3 _ (List.mem_map.2 ⟨x,hx,rfl⟩)).2⟩
  apply Classical.byContradiction
  intro z
  have z1:r.tags=[]:=Classical.byContradiction fun w=>z (.inl w)
  have z2:r.mans=[]:=Classical.byContradiction fun w=>z (.inr w)
  exact (h2 r hr).2.1 (by rw[z1,z2];rfl)
 ·rintro ⟨⟨h1,h2⟩,h3,h4⟩
  refine ⟨h1,fun r hr=>⟨(h2 r hr).tags,fun z=>?_,fun g hg z=>((h2 r hr).held g hg).1 (List.eq_nil_of_length_eq_zero z)⟩,fun d hd=>⟨by simp,?_⟩,h3,fun L hL=>?_⟩
  ·rcases (h2 r hr).some with w|w
   ·exact w (List.eq_nil_of_length_eq_zero (by omega))
   ·exact w (List.eq_nil_of_length_eq_zero (by omega))
  ·obtain ⟨x,hx,rfl⟩:=List.mem_map.1 hd
   exact h4 x hx
  ·obtain ⟨r,hr,⟨g,hg,rfl⟩|rfl⟩:=(hl L).1 hL
   ·exact ((h2 r hr).held g hg).2
   ·exact (h2 r hr).mans
theorem Qbs {t:TbD}:chkT t=0↔Qf0 t.v/\okNm t.repos/\FormT t:=by
 unfold chkT
 rw[YFt]
 split
 ·split
  ·split
   ·simp_all
   ·simp_all
  ·simp_all
 ·simp_all
end
end Go.Proofs.YtekeoichmdiiiaaGreat
