/- Part 28 of what the laws' proofs rest on. No condition. -/
import Derived.Laws.RangeAny
import Derived.Test.YtekeoichmdiiiaaGreatTh27
set_option linter.all false
namespace Go.Proofs.YtekeoichmdiiiaaGreat
section
set_option maxRecDepth 100000
set_option maxHeartbeats 4000000
def runB {Q:Type} (step:Q->Int->Option Q) (ends:Q->Bool):List UInt8->Nat->Q->Option Nat
 | [],pos,q=>if ends q then none else some pos
 | b::l,pos,q=>match (if b.toNat<128 then step q b.toNat else none) with
  | none=>some pos
  | some q'=>runB step ends l (pos+1) q'
theorem Znx (x:List UInt8):lenV (.s x)=some (x.length:Int):=oI rfl
theorem JX8 (x:List UInt8):(AV.s x).isStr=true:=oI rfl
def fltA (e:Int):Option Nat->AV
 | none=>.ag [.i .i64 0,.i .i64 0]
 | some at'=>.ag [.i .i64 e,.i .i64 at']
theorem Xch {l:List UInt8} {pos:Nat} (h:pos<l.length) (ha:¬(l[pos]).toNat<128):128<=(Utf8.decode ⟨l.toArray⟩ pos).1:=by
 have hs:pos<(⟨l.toArray⟩:ByteArray).size:=by simpa [ByteArray.size] using h
 exact (decode_high ⟨l.toArray⟩ pos hs (by show 128<=(l[pos]).toNat;omega)).1
theorem Xpp {q:RQ} {c:Int} (h:128<=c):qe3 q c=none:=by
 have hw:QQW q.left c=none:=by unfold QQW;rw[if_neg (by unfold lowP;omega)]
 unfold qe3
 split
 ·exact hw
 ·rw[if_neg (by omega),if_neg (by omega),if_neg (by omega),if_neg (by omega),hw]
 ·rw[if_neg (by omega),hw]
 ·rw[if_neg (by omega),hw]
theorem zi2 {q q':RQ} {c:Int} (h:qe3 q c=some q'):q'.left<=q.left:=by
 have hw:∀r,QQW q.left c=some r->r.left<=q.left:=fun r e=>by
  unfold QQW at e
  split at e
  ·cases e;exact Nat.le_refl _
  ·cases e
 unfold qe3 at h
 split at h
 ·exact hw _ h
 ·split at h
  ·cases h;exact Nat.sub_le _ _
  ·split at h
   ·cases h;exact Nat.le_refl _
   ·split at h
    ·cases h;exact Nat.le_refl _
    ·split at h
     ·cases h;exact Nat.le_refl _
     ·exact hw _ h
 ·split at h
  ·cases h;exact Nat.le_refl _
  ·exact hw _ h
 ·split at h
  ·cases h;exact Nat.le_refl _
  ·exact hw _ h
theorem Jcp {q q':RQ} (h:stR q=stR q'):q=q':=by
 obtain ⟨n,k⟩:=q
 obtain ⟨n',k'⟩:=q'
 cases k <;> cases k' <;> simp [stR,fnR]at h ⊢ <;> omega
open Classical in
noncomputable def qAt (h:List AB) (j:Nat):Option RQ:=if hq:∃q:RQ,h[j]?=some (stR q) then some hq.choose else none
theorem JhU {h:List AB} {j:Nat} {q:RQ} (e:h[j]?=some (stR q)):qAt h j=some q:=by
 have hx:∃q:RQ,h[j]?=some (stR q):=⟨q,e⟩
 have h1:some (stR q)=some (stR hx.choose):=e.symm.trans hx.choose_spec
 unfold qAt
 exact (dif_pos hx).trans (congrArg some (Jcp (Option.some.inj h1)).symm)
theorem Xyi {β:Type} {h:List AB} {j:Nat} {f:RQ->Option β} {b:β} (e:(qAt h j).bind f=some b):∃q,h[j]?=some (stR q)/\f q=some b:=by
 unfold qAt at e
 split at e
 ·rename_i hx
  exact ⟨_,hx.choose_spec,e⟩
 ·cases e
def Ybr (q:RQ):Bool:=decide (q.k=.i)
noncomputable def Kml:List AV->List AB->Option (AV×List AB)
 | [.s s,.p j 0,.i .i64 e],h=>(qAt h j).bind fun q=>if q.left<=1000/\s.length<=1000000 then some (fltA e (runB qe3 Ybr s 0 q),h) else none
 | _,_=>none
theorem JSx (q:RQ):(stR q).freeze=.blk false false [.f (.func (fnR q.k)) [.ag [.i .i64 q.left]] [],.b (decide (q.k=.i))]:=oI rfl
theorem ZmI {Q:Type} {step:Q->Int->Option Q} {ends:Q->Bool} {s:List UInt8} {pos:Nat} {q:Q} (h:pos<s.length):runB step ends (s.drop pos) pos q=match (if (s[pos]).toNat<128 then step q (s[pos]).toNat else none) with
  | none=>some pos
  | some q'=>runB step ends (s.drop (pos+1)) (pos+1) q':=by
 rw[List.drop_eq_getElem_cons h]
 rfl
theorem XxT {Q:Type} {step:Q->Int->Option Q} (hbig:∀q c,128<=c->step q c=none) {s:List UInt8} {pos:Nat} (h:pos<s.length) (q:Q) :
  (if (s[pos]).toNat<128 then step q (s[pos]).toNat else none)=step q ((Utf8.decode ⟨s.toArray⟩ pos).1:Int)/\(∀q',step q ((Utf8.decode ⟨s.toArray⟩ pos).1:Int)=some q'->(Utf8.decode ⟨s.toArray⟩ pos).2=1):=by
 by_cases ha:(s[pos]).toNat<128
 ·rw[if_pos ha,Qc5 h ha]
  exact ⟨rfl,fun _ _=>rfl⟩
 ·rw[if_neg ha]
  have:=hbig q _ (show (128:Int)<=((Utf8.decode ⟨s.toArray⟩ pos).1:Int) by have:=Xch h ha;omega)
  exact ⟨this.symm,fun q' e=>by rw[this]at e;cases e⟩
theorem YNk (k:RK) (a:List AV) (H:List AB):(if 261=fnR k then KWt .w a H else if 304=fnR k then KWt .i a H else if 332=fnR k then KWt .s a H else if 333=fnR k then KWt .d a H else none)=KWt k a H:=by
 cases k <;> rfl
theorem zYy {q:RQ} (hl:q.left<=1000) (c:Int) (H:List AB):KWt q.k [.ag [.i .i64 q.left],.i .i32 c] H=ansR H (qe3 q c):=by
 show (if (0:Int)<=(q.left:Int)/\(q.left:Int)<=1000 then ansR H (qe3 ⟨((q.left:Int)).toNat,q.k⟩ c) else none)=_
 rw[if_pos (by omega),Int.toNat_natCast]
theorem zLp {h:List AB} (hz:h.map AB.freeze=h) {s:List UInt8} {j:Nat} {e:Int} {q0:RQ} (hj:h[j]?=some (stR q0).freeze) (hl:q0.left<=1000) (hs:s.length<=1000000) :
  FnAt Tryz.prog 180 [.s s,.p j 0,.i .i64 e] h (fltA e (runB qe3 Ybr s 0 q0)) h:=by
 refine FnAt.run (by kernel_rfl) (T:=⟨[⟨261,KWt .w,fun _=>[]⟩,⟨304,KWt .i,fun _=>[]⟩,⟨332,KWt .s,fun _=>[]⟩,⟨333,KWt .d,fun _=>[]⟩],[]⟩) ⟨⟨Xlq,KFV,z8p,Yid,trivial⟩,trivial⟩ Tryz.func180 Zfv fun ho hh=>?_
 unfold w180
 have hjl:=(List.getElem?_eq_some_iff.1 hj).1
 have hp:∀L:List AB,zZU (h++L) j=some [.f (.func (fnR q0.k)) [.ag [.i .i64 q0.left]] [],.b (decide (q0.k=.i))]:=fun L=>by
  unfold zZU
  rw[List.getElem?_append_left hjl,hj,JSx]
 have lj0:∀L:List AB,ldV (h++L) none (.p j 0)=some (.f (.func (fnR q0.k)) [.ag [.i .i64 q0.left]] []):=fun L=>by
  simp only[ldV,hp,Option.bind_some]
  rfl
 have lj1:∀L:List AB,ldV (h++L) none (.p j 1)=some (.b (decide (q0.k=.i))):=fun L=>by
  simp only[ldV,hp,Option.bind_some]
  rfl
 have en0:ZAx .np .np=some true:=rfl
 have en1:∀a b,ZAx (.p a b) .np=some false:=fun _ _=>rfl
 have oj:∀c,(AV.p j 0).ok (fun i=>decide (i<h.length+c))=true:=fun c=>by simp [AV.ok];omega
 simp only[z49,Qs3,XtK,K1H,JS3,simprocAttr,CO.tmps,Opd.tmps,optT,Jpp]
 refine JLk (S:=Nat×RQ) (fun σ=>s.length-σ.1) (fun σ=>[.s s,(if σ.1=0 then .p j 0 else .p (h.length+2) 0),.i .i64 e]++tp 3++[.p (h.length+0) 0]++tp 3++[.p (h.length+1) 0]++tp 25) (fun σ=>h++[.blk true true [.i .i64 0,.i .i64 0],itr s σ.1,(if σ.1=0 then .dead else stR σ.2)])
  (fun σ=>σ.1<=s.length/\σ.2.left<=1000/\(σ.1=0->σ.2=q0)/\runB qe3 Ybr (s.drop σ.1) σ.1 σ.2=runB qe3 Ybr s 0 q0) (0,q0) ⟨Nat.zero_le _,hl,fun _=>rfl,rfl⟩ ?_ fun σ hσ=>?_
 ·show Bt _ _ _ _ _ (h++([.blk true true [.i .i64 0,.i .i64 0],itr s 0]++List.replicate 1 .dead))
  rw[<-List.append_assoc]
  refine Bt.trans (Bt.wk ?_) (Bt.pad _ _ 1)
  simp only[XtK,JS3,simprocAttr]
 obtain ⟨pos,q⟩:=σ
 obtain ⟨h1,h2,h3,h4⟩:=hσ
 dsimp only at h1 h2 h3 h4 ⊢
 have hn:∀B:AB,nxV (h++[.blk true true [.i .i64 0,.i .i64 0],itr s pos,B]) (.p (h.length+1) 0)=if pos<s.length then some (.tu [.b true,.i .i64 (pos:Int),.i .i32 ((Utf8.decode ⟨s.toArray⟩ pos).1:Int)],h++[.blk true true [.i .i64 0,.i .i64 0],itr s (pos+(Utf8.decode ⟨s.toArray⟩ pos).2),B]) else some (.tu [.b false],h++[.blk true true [.i .i64 0,.i .i64 0],itr s pos,B]):=fun B=>zSE _ 1 s pos rfl
 by_cases g:pos<s.length
 ·have hd:=ZmI (step:=qe3) (ends:=Ybr) (q:=q) g
  rw[h4]at hd
  by_cases p0:pos=0
  ·subst p0
   rw[h3 rfl]at hd
   simp only[if_true]
   obtain ⟨e1,e2⟩:=XxT (step:=qe3) (fun _ _=>Xpp) g q0
   rw[e1]at hd
   have es:=fun H=>zYy (q:=q0) hl ((Utf8.decode ⟨s.toArray⟩ 0).1:Int) H
   cases hst:qe3 q0 ((Utf8.decode ⟨s.toArray⟩ 0).1:Int) with
   | none =>
    rw[hst]at hd
    dsimp only at hd
    simp only[z49,Qs3,XtK,K1H,JS3,simprocAttr,CO.tmps,Opd.tmps,optT,Jcy,hn,g,lj0,YNk,es,hst,ansR,en0,en1,oD,ne_eq,forall_const]
    rw[hd]
    exact Bt.drop _ hh rfl rfl
   | some q' =>
    have e3:=e2 q' hst
    rw[hst]at hd
    dsimp only at hd
    simp only[z49,Qs3,XtK,K1H,JS3,simprocAttr,CO.tmps,Opd.tmps,optT,Jcy,hn,g,lj0,YNk,es,hst,ansR,e3,en0,en1,oD,ne_eq,forall_const]
    refine ⟨(0+1,q'),⟨g,Nat.le_trans (zi2 hst) hl,(fun z=>absurd z (Nat.succ_ne_zero _)),hd.symm⟩,by dsimp only;omega,?_⟩
    dsimp only
    rw[if_neg (by decide),if_neg (by decide)]
    exact Bt.sel [0,1,3] hh (by decide) (by simp only[Ztz,FrSel,BlkSel,AV.ren,renL,AV.ok,okL,Option.some.injEq,exists_eq_left',List.length_cons,List.length_nil,Nat.reduceAdd,Nat.reduceLT,reduceCtorEq,implies_true,exists_eq',oj,itr,stR,qTF,and_self]) (by simp only[Ztz,FrSel,BlkSel,AV.ren,renL,AV.ok,okL,Option.some.injEq,exists_eq_left',List.length_cons,List.length_nil,Nat.reduceAdd,Nat.reduceLT,reduceCtorEq,implies_true,exists_eq'])
  ·simp only[p0,if_false]
   obtain ⟨e1,e2⟩:=XxT (step:=qe3) (fun _ _=>Xpp) g q
   rw[e1]at hd
   have es:=fun H=>zYy (q:=q) h2 ((Utf8.decode ⟨s.toArray⟩ pos).1:Int) H
   cases hst:qe3 q ((Utf8.decode ⟨s.toArray⟩ pos).1:Int) with
   | none =>
    rw[hst]at hd
    dsimp only at hd
    simp only[z49,Qs3,XtK,K1H,JS3,simprocAttr,CO.tmps,Opd.tmps,optT,Jcy,hn,g,stR,YNk,es,hst,ansR,en0,en1,oD,ne_eq,forall_const]
    rw[hd]
    exact Bt.drop _ hh rfl rfl
   | some q' =>
    have e3:=e2 q' hst
    rw[hst]at hd
    dsimp only at hd
    simp only[z49,Qs3,XtK,K1H,JS3,simprocAttr,CO.tmps,Opd.tmps,optT,Jcy,hn,g,stR,YNk,es,hst,ansR,e3,en0,en1,oD,ne_eq,forall_const]
    refine ⟨(pos+1,q'),⟨g,Nat.le_trans (zi2 hst) h2,(fun z=>absurd z (Nat.succ_ne_zero _)),hd.symm⟩,by dsimp only;omega,?_⟩
    dsimp only
    rw[if_neg (Nat.succ_ne_zero pos),if_neg (Nat.succ_ne_zero pos)]
    exact Bt.sel [0,1,3] hh (by decide) (by simp only[Ztz,FrSel,BlkSel,AV.ren,renL,AV.ok,okL,Option.some.injEq,exists_eq_left',List.length_cons,List.length_nil,Nat.reduceAdd,Nat.reduceLT,reduceCtorEq,implies_true,exists_eq',oj,itr,stR,qTF,and_self]) (by simp only[Ztz,FrSel,BlkSel,AV.ren,renL,AV.ok,okL,Option.some.injEq,exists_eq_left',List.length_cons,List.length_nil,Nat.reduceAdd,Nat.reduceLT,reduceCtorEq,implies_true,exists_eq'])
 ·have hpos:pos=s.length:=by omega
  have hd:runB qe3 Ybr s 0 q0=if Ybr q then none else some s.length:=by
   rw[<-h4,hpos,List.drop_length]
   rfl
  by_cases p0:pos=0
  ·have hq0:=h3 p0
   subst hq0
   subst p0
   simp only[if_true]
   have hq:runB qe3 Ybr s 0 q=if Ybr q then none else some s.length:=hd
   cases he:Ybr q with
   | true =>
    have he':decide (q.k=RK.i)=true:=he
    rw[he]at hq
    simp only[z49,Qs3,XtK,K1H,JS3,simprocAttr,CO.tmps,Opd.tmps,optT,Jcy,hn,g,lj1,he',QpH,Bool.not_true,Bool.not_false,Znx,JX8,oD,ne_eq,forall_const]
    rw[hq]
    exact Bt.drop _ hh rfl rfl
   | false =>
    have he':decide (q.k=RK.i)=false:=he
    rw[he]at hq
    simp only[z49,Qs3,XtK,K1H,JS3,simprocAttr,CO.tmps,Opd.tmps,optT,Jcy,hn,g,lj1,he',QpH,Bool.not_true,Bool.not_false,Znx,JX8,oD,ne_eq,forall_const]
    rw[hq]
    exact Bt.drop _ hh rfl rfl
  ·simp only[p0,if_false]
   have hq:runB qe3 Ybr s 0 q0=if Ybr q then none else some s.length:=hd
   cases he:Ybr q with
   | true =>
    have he':decide (q.k=RK.i)=true:=he
    rw[he]at hq
    simp only[z49,Qs3,XtK,K1H,JS3,simprocAttr,CO.tmps,Opd.tmps,optT,Jcy,hn,g,stR,he',QpH,Bool.not_true,Bool.not_false,Znx,JX8,oD,ne_eq,forall_const]
    rw[hq]
    exact Bt.drop _ hh rfl rfl
   | false =>
    have he':decide (q.k=RK.i)=false:=he
    rw[he]at hq
    simp only[z49,Qs3,XtK,K1H,JS3,simprocAttr,CO.tmps,Opd.tmps,optT,Jcy,hn,g,stR,he',QpH,Bool.not_true,Bool.not_false,Znx,JX8,oD,ne_eq,forall_const]
    rw[hq]
    exact Bt.drop _ hh rfl rfl
theorem zTo:Spec Tryz.prog 180 Kml:=by
 intro args h v h' e
 unfold Kml at e
 split at e
 ·rename_i s j e0
  obtain ⟨q,hq,e⟩:=Xyi e
  split at e
  ·rename_i hc
   cases e
   refine FnAt.c (FnAt.frz0 fun hz=>zLp hz ?_ hc.1 hc.2)
   rw[List.getElem?_map,hq]
   rfl
  ·cases e
 ·cases e
end
section
set_option maxRecDepth 100000
set_option maxHeartbeats 4000000
def XJS:List AV->List AB->Option (AV×List AB)
 | [.s s,.i .i64 m],h=>some (.tu [(if m<(s.length:Int) then .ag [.i .i64 4,.i .i64 m] else .ag [.i .i64 0,.i .i64 0]),.b (decide (m<(s.length:Int)))],h)
 | _,_=>none
theorem XKw:Spec Tryz.prog 176 XJS:=by
 intro args h v h' e
 unfold XJS at e
 split at e
 ·rename_i s m
  cases e
  refine FnAt.c (FnAt.run (by kernel_rfl) (T:=⟨[],[]⟩) ⟨trivial,trivial⟩ Tryz.func176 YR4 fun ho hh=>?_)
  unfold w176
  by_cases g:m<(s.length:Int)
  ·have g':=eq_true g
   simp only[z49,Qs3,XtK,K1H,JS3,simprocAttr,CO.tmps,Opd.tmps,optT,g',Znx,JX8,decide_true,decide_false,false_implies,forall_const,and_true,true_and,not_true_eq_false,not_false_eq_true]
   exact Bt.drop _ hh rfl rfl
  ·have g':=eq_false g
   simp only[z49,Qs3,XtK,K1H,JS3,simprocAttr,CO.tmps,Opd.tmps,optT,g',Znx,JX8,decide_true,decide_false,false_implies,forall_const,and_true,true_and,not_true_eq_false,not_false_eq_true]
   exact Bt.drop _ hh rfl rfl
 ·cases e
def Qh3 (s:List UInt8):AV:=if (128:Int)<(s.length:Int) then .ag [.i .i64 4,.i .i64 128] else fltA 7 (runB qe3 Ybr s 0 ⟨7,.w⟩)
theorem Yro (e:Int) (o:Option Nat):∃a b,fltA e o=.ag [.i .i64 a,.i .i64 b]:=by
 cases o <;> exact ⟨_,_,rfl⟩
noncomputable def QOu:List AV->List AB->Option (AV×List AB)
 | [.s s],h=>if s.length<=1000000 then some (Qh3 s,h) else none
 | _,_=>none
theorem zir {h L:List AB} {k:Nat} {q:RQ} (e:L[k]?=some (stR q)):qAt (h++L) (h.length+k)=some q:=JhU (by rw[List.getElem?_append_right (by omega),Nat.add_sub_cancel_left];exact e)
theorem Zoj:Spec Tryz.prog 85 QOu:=by
 intro args h v h' e
 unfold QOu at e
 split at e
 ·rename_i s
  split at e
  ·rename_i hs
   cases e
   refine FnAt.c (FnAt.run (by kernel_rfl) (T:=⟨[⟨176,XJS,fun _=>[]⟩,⟨181,KcO,fun _=>[]⟩,⟨180,Kml,fun _=>[]⟩],[]⟩) ⟨⟨XKw,YUi,zTo,trivial⟩,trivial⟩ Tryz.func85 sw85 fun ho hh=>?_)
   unfold w85 Qh3
   by_cases g:(128:Int)<(s.length:Int)
   ·have g':=eq_true g
    simp only[z49,Qs3,XtK,K1H,JS3,simprocAttr,CO.tmps,Opd.tmps,optT,XJS,g',decide_true,decide_false,false_implies,forall_const,and_true,true_and,not_true_eq_false,not_false_eq_true,if_true]
    exact Bt.drop _ hh rfl rfl
   ·have g':=eq_false g
    have hp:∀H:List AB,KcO [.ag [.i .i64 7]] H=some (.p H.length 0,H++[stR ⟨7,.w⟩]):=fun H=>rfl
    have hq:∀B C:AB,qAt (h++[B,C,stR ⟨7,.w⟩]) (h.length+2)=some ⟨7,.w⟩:=fun B C=>zir rfl
    have hs':=eq_true hs
    have h7:(7<=1000)=True:=eq_true (by decide)
    obtain ⟨a,b,hab⟩:=Yro 7 (runB qe3 Ybr s 0 ⟨7,.w⟩)
    rw[if_neg g]
    simp only[z49,Qs3,XtK,K1H,JS3,simprocAttr,CO.tmps,Opd.tmps,optT,XJS,g',hp,Kml,hq,h7,hs',hab,decide_true,decide_false,false_implies,forall_const,and_true,true_and,not_true_eq_false,not_false_eq_true,if_false]
    exact Bt.drop _ hh rfl rfl
  ·cases e
 ·cases e
end
section
set_option maxRecDepth 100000
set_option maxHeartbeats 4000000
def SameRd (H H':List AB):Prop:=∀i cs,zZU H i=some cs->zZU H' i=some cs
theorem SameRd.app (H L:List AB):SameRd H (H++L):=fun i cs e=>by
 unfold zZU at e ⊢
 by_cases hi:i<H.length
 ·rw[List.getElem?_append_left hi];exact e
 ·rw[List.getElem?_eq_none (by omega)]at e;cases e
theorem SameRd.it (h M:List AB) (A:AB) (s:List UInt8) (p p':Nat):SameRd (h++A::itr s p::M) (h++A::itr s p'::M):=fun i cs e=>by
 unfold zZU at e ⊢
 by_cases hi:i<h.length
 ·rw[List.getElem?_append_left hi]at e ⊢;exact e
 ·rw[List.getElem?_append_right (by omega)]at e ⊢
  generalize i-h.length=k at e ⊢
  match k with
  | 0=>exact e
  | 1=>cases e
  | k+2=>exact e
structure Aut (Tb:Tab) (Q:Type) where
 step:Q->Int->Option Q
 ends:Q->Bool
 Rep:List AB->Nat->Q->Prop
 big:∀q c,128<=c->step q c=none
 mono:∀ {H H' j q},SameRd H H'->Rep H j q->Rep H' j q
 cel:∀ {H j q},Rep H j q->∃g fst cap,zZU H j=some [.f (.func g) fst cap,.b (ends q)]/\∀c:Int,
  (step q c=none->Tb.at g (fst++[.i .i32 c]++cap) H=some (.np,H)) /\
  ∀q',step q c=some q'->∃j' L,Tb.at g (fst++[.i .i32 c]++cap) H=some (.p j' 0,H++L)/\Rep (H++L) j' q'
theorem runA {Tb:Tab} (hTb:qj2 (Spec Tryz.prog) Tb) {Q:Type} (A:Aut Tb Q) {h:List AB} {s:List UInt8} {j0:Nat} {e:Int} {q0:Q} (hj:A.Rep h j0 q0) (hs:s.length<=1000000) :
  FnAt Tryz.prog 180 [.s s,.p j0 0,.i .i64 e] h (fltA e (runB A.step A.ends s 0 q0)) h:=by
 refine FnAt.run (by kernel_rfl) (T:=⟨Tb,[]⟩) ⟨hTb,trivial⟩ Tryz.func180 Zfv fun ho hh=>?_
 unfold w180
 have en0:ZAx .np .np=some true:=rfl
 have en1:∀a b,ZAx (.p a b) .np=some false:=fun _ _=>rfl
 simp only[z49,Qs3,XtK,K1H,JS3,simprocAttr,CO.tmps,Opd.tmps,optT,Jpp]
 refine JLk (S:=Nat×Q×Nat×List AB) (fun σ=>s.length-σ.1) (fun σ=>[.s s,.p σ.2.2.1 0,.i .i64 e]++tp 3++[.p (h.length+0) 0]++tp 3++[.p (h.length+1) 0]++tp 25) (fun σ=>h++.blk true true [.i .i64 0,.i .i64 0]::itr s σ.1::σ.2.2.2)
  (fun σ=>σ.1<=s.length/\A.Rep (h++.blk true true [.i .i64 0,.i .i64 0]::itr s σ.1::σ.2.2.2) σ.2.2.1 σ.2.1/\runB A.step A.ends (s.drop σ.1) σ.1 σ.2.1=runB A.step A.ends s 0 q0) (0,q0,j0,[]) ⟨Nat.zero_le _,A.mono (SameRd.app _ _) hj,rfl⟩ ?_ fun σ hσ=>?_
 ·refine Bt.wk ?_
  simp only[XtK,JS3,simprocAttr]
 obtain ⟨pos,q,j,M⟩:=σ
 obtain ⟨h1,h2,h4⟩:=hσ
 dsimp only at h1 h2 h4 ⊢
 have hn:nxV (h++.blk true true [.i .i64 0,.i .i64 0]::itr s pos::M) (.p (h.length+1) 0)=if pos<s.length then some (.tu [.b true,.i .i64 (pos:Int),.i .i32 ((Utf8.decode ⟨s.toArray⟩ pos).1:Int)],h++.blk true true [.i .i64 0,.i .i64 0]::itr s (pos+(Utf8.decode ⟨s.toArray⟩ pos).2)::M) else some (.tu [.b false],h++.blk true true [.i .i64 0,.i .i64 0]::itr s pos::M):=zSE _ 1 s pos rfl
 by_cases g:pos<s.length
 ·have hd:=ZmI (step:=A.step) (ends:=A.ends) (q:=q) g
  rw[h4]at hd
  obtain ⟨e1,e2⟩:=XxT (step:=A.step) A.big g q
  rw[e1]at hd
  have h2':=A.mono (SameRd.it h M (.blk true true [.i .i64 0,.i .i64 0]) s pos (pos+(Utf8.decode ⟨s.toArray⟩ pos).2)) h2
  obtain ⟨gf,fst,cap,r1,r2⟩:=A.cel h2'
  obtain ⟨r3,r4⟩:=r2 ((Utf8.decode ⟨s.toArray⟩ pos).1:Int)
  have lj0:ldV (h++.blk true true [.i .i64 0,.i .i64 0]::itr s (pos+(Utf8.decode ⟨s.toArray⟩ pos).2)::M) none (.p j 0)=some (.f (.func gf) fst cap):=by
   simp only[ldV,r1,Option.bind_some]
   rfl
  cases hst:A.step q ((Utf8.decode ⟨s.toArray⟩ pos).1:Int) with
  | none =>
   rw[hst]at hd
   dsimp only at hd
   have r5:=r3 hst
   simp only[z49,Qs3,XtK,K1H,JS3,simprocAttr,CO.tmps,Opd.tmps,optT,Jcy,hn,g,lj0,r5,en0,en1,oD,ne_eq,forall_const]
   rw[hd]
   exact Bt.drop _ hh rfl rfl
  | some q' =>
   have e3:=e2 q' hst
   rw[hst]at hd
   dsimp only at hd
   obtain ⟨j',L,r5,r6⟩:=r4 q' hst
   rw[e3]at hn lj0 r5 r6
   simp only[z49,Qs3,XtK,K1H,JS3,simprocAttr,CO.tmps,Opd.tmps,optT,Jcy,hn,g,lj0,r5,en0,en1,oD,ne_eq,forall_const]
   refine ⟨(pos+1,q',j',M++L),⟨g,?_,hd.symm⟩,by dsimp only;omega,?_⟩
   ·dsimp only
    rw[List.append_assoc,List.cons_append,List.cons_append]at r6
    exact r6
   ·dsimp only
    refine Bt.wk ?_
    simp only[XtK,JS3,simprocAttr]
 ·have hpos:pos=s.length:=by omega
  have hd:runB A.step A.ends s 0 q0=if A.ends q then none else some s.length:=by
   rw[<-h4,hpos,List.drop_length]
   rfl
  obtain ⟨gf,fst,cap,r1,_⟩:=A.cel h2
  have lj1:ldV (h++.blk true true [.i .i64 0,.i .i64 0]::itr s pos::M) none (.p j 1)=some (.b (A.ends q)):=by
   simp only[ldV,r1,Option.bind_some]
   rfl
  cases he:A.ends q with
  | true =>
   rw[he]at hd lj1
   simp only[z49,Qs3,XtK,K1H,JS3,simprocAttr,CO.tmps,Opd.tmps,optT,Jcy,hn,g,lj1,QpH,Bool.not_true,Bool.not_false,Znx,JX8,oD,ne_eq,forall_const]
   rw[hd]
   exact Bt.drop _ hh rfl rfl
  | false =>
   rw[he]at hd lj1
   simp only[z49,Qs3,XtK,K1H,JS3,simprocAttr,CO.tmps,Opd.tmps,optT,Jcy,hn,g,lj1,QpH,Bool.not_true,Bool.not_false,Znx,JX8,oD,ne_eq,forall_const]
   rw[hd]
   exact Bt.drop _ hh rfl rfl
end
section
set_option maxRecDepth 100000
set_option maxHeartbeats 4000000
def tagP (c:Int):Prop:=lowP c\/(65<=c/\c<=90)\/c=95\/c=46\/c=45
instance (c:Int):Decidable (tagP c):=inferInstanceAs (Decidable (_\/_))
def Y4x (c:Int):Prop:=lowP c\/(65<=c/\c<=90)\/c=95
instance (c:Int):Decidable (Y4x c):=inferInstanceAs (Decidable (_\/_))
theorem emE (p:Prop):p=True\/p=False:=Classical.propComplete p
theorem ZAV (c:Int):(Y4x c/\lowP c=True)\/(Y4x c/\lowP c=False/\(65<=c)=True/\(c<=90)=True) \/
  ((¬Y4x c/\tagP c)/\lowP c=False/\(65<=c)=False/\(c=95)=False/\(c=46)=True) \/
  ((¬Y4x c/\tagP c)/\lowP c=False/\(65<=c)=False/\(c=95)=False/\(c=46)=False/\(c=45)=True) \/
  (¬tagP c/\lowP c=False/\(65<=c)=False/\(c=95)=False/\(c=46)=False/\(c=45)=False) \/
  (Y4x c/\lowP c=False/\(65<=c)=True/\(c<=90)=False/\(c=95)=True) \/
  (¬tagP c/\lowP c=False/\(65<=c)=True/\(c<=90)=False/\(c=95)=False/\(c=46)=False/\(c=45)=False):=by
 by_cases h1:lowP c
 ·exact .inl ⟨.inl h1,eq_true h1⟩
 by_cases h2:65<=c
 ·by_cases h3:c<=90
  ·exact .inr (.inl ⟨.inr (.inl ⟨h2,h3⟩),eq_false h1,eq_true h2,eq_true h3⟩)
  by_cases h4:c=95
  ·exact .inr (.inr (.inr (.inr (.inr (.inl ⟨.inr (.inr h4),eq_false h1,eq_true h2,eq_false h3,eq_true h4⟩)))))
  ·exact .inr (.inr (.inr (.inr (.inr (.inr ⟨(fun z=>by rcases z with z|z|z|z|z <;> first|exact h1 z|omega),eq_false h1,eq_true h2,eq_false h3,eq_false h4,eq_false (by omega),eq_false (by omega)⟩)))))
 ·have h4:¬c=95:=by omega
  have hh:¬Y4x c:=fun z=>by rcases z with z|z|z <;> first|exact h1 z|omega
  by_cases h5:c=46
  ·exact .inr (.inr (.inl ⟨⟨hh,.inr (.inr (.inr (.inl h5)))⟩,eq_false h1,eq_false h2,eq_false h4,eq_true h5⟩))
  by_cases h6:c=45
  ·exact .inr (.inr (.inr (.inl ⟨⟨hh,.inr (.inr (.inr (.inr h6)))⟩,eq_false h1,eq_false h2,eq_false h4,eq_false h5,eq_true h6⟩)))
  ·exact .inr (.inr (.inr (.inr (.inl ⟨(fun z=>by rcases z with z|z|z|z|z <;> first|exact h1 z|omega),eq_false h1,eq_false h2,eq_false h4,eq_false h5,eq_false h6⟩))))
theorem qlL {c:Int} (h:Y4x c):tagP c:=by
 rcases h with h|h|h
 ·exact .inl h
 ·exact .inr (.inl h)
 ·exact .inr (.inr (.inl h))
def KJn:List AV->List AB->Option (AV×List AB)
 | [.i .i32 c],h=>some (.b (decide (tagP c)),h)
 | _,_=>none
theorem K3a:Spec Tryz.prog 178 KJn:=by
 intro args h v h' e
 unfold KJn at e
 split at e
 ·rename_i c
  cases e
  refine FnAt.c (FnAt.run (by kernel_rfl) (T:=⟨[⟨259,Jc0,fun _=>[]⟩],[]⟩) ⟨⟨Zv0,trivial⟩,trivial⟩ Tryz.func178 qqL fun ho hh=>?_)
  unfold w178
  rcases ZAV c with ⟨d,a1⟩|⟨d,a1,a2,a3⟩|⟨d,a1,a2,a4,a5⟩|⟨d,a1,a2,a4,a5,a6⟩|⟨d,a1,a2,a4,a5,a6⟩|⟨d,a1,a2,a3,a4⟩|⟨d,a1,a2,a3,a4,a5,a6⟩
  ·simp only[z49,Qs3,XtK,K1H,JS3,simprocAttr,CO.tmps,Opd.tmps,optT,Jc0,a1,oD,ne_eq,forall_const]
   exact Bt.dropB _ hh (decide_eq_true (qlL d)).symm
  ·simp only[z49,Qs3,XtK,K1H,JS3,simprocAttr,CO.tmps,Opd.tmps,optT,Jc0,a1,a2,a3,oD,ne_eq,forall_const]
   exact Bt.dropB _ hh (decide_eq_true (qlL d)).symm
  ·simp only[z49,Qs3,XtK,K1H,JS3,simprocAttr,CO.tmps,Opd.tmps,optT,Jc0,a1,a2,a4,a5,oD,ne_eq,forall_const]
   exact Bt.dropB _ hh (decide_eq_true d.2).symm
  ·simp only[z49,Qs3,XtK,K1H,JS3,simprocAttr,CO.tmps,Opd.tmps,optT,Jc0,a1,a2,a4,a5,a6,oD,ne_eq,forall_const]
   exact Bt.dropB _ hh (decide_eq_true d.2).symm
  ·simp only[z49,Qs3,XtK,K1H,JS3,simprocAttr,CO.tmps,Opd.tmps,optT,Jc0,a1,a2,a4,a5,a6,oD,ne_eq,forall_const]
   exact Bt.dropB _ hh (decide_eq_false d).symm
  ·simp only[z49,Qs3,XtK,K1H,JS3,simprocAttr,CO.tmps,Opd.tmps,optT,Jc0,a1,a2,a3,a4,oD,ne_eq,forall_const]
   exact Bt.dropB _ hh (decide_eq_true (qlL d)).symm
  ·simp only[z49,Qs3,XtK,K1H,JS3,simprocAttr,CO.tmps,Opd.tmps,optT,Jc0,a1,a2,a3,a4,a5,a6,oD,ne_eq,forall_const]
   exact Bt.dropB _ hh (decide_eq_false d).symm
 ·cases e
inductive QT where
 | first
 | rest
deriving DecidableEq
def QXp:QT->Int->Option QT
 | .first,c=>if Y4x c then some .rest else none
 | .rest,c=>if tagP c then some .rest else none
def QfH (q:QT):Bool:=decide (q=.rest)
theorem YQx (q:QT) (c:Int) (h:128<=c):QXp q c=none:=by
 have h1:¬tagP c:=by unfold tagP lowP;omega
 have h2:¬Y4x c:=by unfold Y4x lowP;omega
 cases q
 ·exact if_neg h2
 ·exact if_neg h1
def allB (n:Nat):List AB:=[.blk false true [.f (.func 178) [] []],.blk false true [.p (n+2) 0],.blk false true [.f (.func 260) [] [.p (n+0) 0,.p (n+1) 0],.b true]]
theorem KdP {P:Program} {p:Nat} {a:AV} {h:List AB}:Bt P p [a] (h++[]) [a] h:=by
 rw[List.append_nil]
 exact Bt.wk1 (Wk.refl _)
def XfE:List AV->List AB->Option (AV×List AB)
 | [.f (.func g) [] []],h=>if g=178 then some (.p (h.length+2) 0,h++allB h.length) else none
 | _,_=>none
theorem QJL:Spec Tryz.prog 179 XfE:=by
 intro args h v h' e
 unfold XfE at e
 split at e
 ·rename_i g
  split at e
  ·rename_i hg
   subst hg
   cases e
   refine FnAt.c (FnAt.run (by kernel_rfl) (T:=⟨[],[]⟩) ⟨trivial,trivial⟩ Tryz.func179 Zy5 fun ho hh=>?_)
   unfold w179 allB
   simp only[z49,Qs3,XtK,K1H,JS3,simprocAttr,CO.tmps,Opd.tmps,optT]
   exact ⟨rfl,Bt.wk1 (Wk.refl _)⟩
  ·cases e
 ·cases e
def qVL:List AV->List AB->Option (AV×List AB)
 | [.i .i32 c,.p b1 0,.p b2 0],h=>match ldV h none (.p b1 0),ldV h none (.p b2 0) with
  | some (.f (.func g) [] []),some (.p j 0)=>if g=178 then some (if tagP c then .p j 0 else .np,h) else none
  | _,_=>none
 | _,_=>none
theorem XV3:Spec Tryz.prog 260 qVL:=by
 intro args h v h' e
 unfold qVL at e
 split at e
 ·rename_i c b1 b2
  split at e
  ·rename_i g j l1 l2
   split at e
   ·rename_i hg
    subst hg
    cases e
    refine FnAt.c (FnAt.run (by kernel_rfl) (T:=⟨[⟨178,KJn,fun _=>[]⟩],[]⟩) ⟨⟨K3a,trivial⟩,trivial⟩ Tryz.func260 qIW fun ho hh=>?_)
    unfold w260
    have m1:ldV (h++[]) none (.p b1 0)=some (.f (.func 178) [] []):=by rw[List.append_nil];exact l1
    have m2:ldV (h++[]) none (.p b2 0)=some (.p j 0):=by rw[List.append_nil];exact l2
    by_cases hc:tagP c
    ·rw[if_pos hc]
     simp only[z49,Qs3,XtK,K1H,JS3,simprocAttr,CO.tmps,Opd.tmps,optT,KJn,m1,m2,eq_true hc,oD,ne_eq,forall_const]
     exact KdP
    ·rw[if_neg hc]
     simp only[z49,Qs3,XtK,K1H,JS3,simprocAttr,CO.tmps,Opd.tmps,optT,KJn,m1,m2,eq_false hc,oD,ne_eq,forall_const]
     exact KdP
   ·cases e
  ·cases e
 ·cases e
def q00:List AV->List AB->Option (AV×List AB)
 | [.i .i32 c],h=>if Y4x c then some (.p (h.length+2) 0,h++allB h.length) else some (.np,h)
 | _,_=>none
theorem qTH:Spec Tryz.prog 177 q00:=by
 intro args h v h' e
 unfold q00 at e
 split at e
 ·rename_i c
  refine FnAt.c (FnAt.run (by kernel_rfl) (T:=⟨[⟨178,KJn,fun _=>[]⟩,⟨179,XfE,fun _=>[]⟩],[]⟩) ⟨⟨K3a,QJL,trivial⟩,trivial⟩ Tryz.func177 YNl fun ho hh=>?_)
  unfold w177
  by_cases h1:Y4x c
  ·rw[if_pos h1]at e
   cases e
   have c1:(c=46)=False:=eq_false (by unfold Y4x lowP at h1;omega)
   have c2:(c=45)=False:=eq_false (by unfold Y4x lowP at h1;omega)
   simp only[z49,Qs3,XtK,K1H,JS3,simprocAttr,CO.tmps,Opd.tmps,optT,KJn,XfE,c1,c2,eq_true (qlL h1),oD,ne_eq,forall_const]
   exact Bt.wk1 (Wk.refl _)
  ·rw[if_neg h1]at e
   cases e
   rcases emE (c=46) with c1|c1
   ·simp only[z49,Qs3,XtK,K1H,JS3,simprocAttr,CO.tmps,Opd.tmps,optT,KJn,XfE,c1,oD,ne_eq,forall_const]
    exact KdP
   rcases emE (c=45) with c2|c2
   ·simp only[z49,Qs3,XtK,K1H,JS3,simprocAttr,CO.tmps,Opd.tmps,optT,KJn,XfE,c1,c2,oD,ne_eq,forall_const]
    exact KdP
   have c3:tagP c=False:=eq_false fun z=>by
    rcases z with z|z|z|z|z
    ·exact h1 (.inl z)
    ·exact h1 (.inr (.inl z))
    ·exact h1 (.inr (.inr z))
    ·exact of_eq_false c1 z
    ·exact of_eq_false c2 z
   simp only[z49,Qs3,XtK,K1H,JS3,simprocAttr,CO.tmps,Opd.tmps,optT,KJn,XfE,c1,c2,c3,oD,ne_eq,forall_const]
   exact KdP
 ·cases e
def Z66:Tab:=[⟨177,q00,fun _=>[]⟩,⟨260,qVL,fun _=>[]⟩]
def repT (h:List AB) (j:Nat):QT->Prop
 | .first=>zZU h j=some [.f (.func 177) [] [],.b false]
 | .rest=>∃b1 b2,zZU h j=some [.f (.func 260) [] [.p b1 0,.p b2 0],.b true]/\zZU h b1=some [.f (.func 178) [] []]/\zZU h b2=some [.p j 0]
theorem Jhi (h L:List AB) (k:Nat) (fl m:Bool) (xs:List AV) (e:L[k]?=some (.blk fl m xs)):zZU (h++L) (h.length+k)=some xs:=by
 unfold zZU
 rw[List.getElem?_append_right (by omega),Nat.add_sub_cancel_left,e]
def autT:Aut Z66 QT where
 step:=QXp
 ends:=QfH
 Rep:=repT
 big:=YQx
 mono {H H' j q} hs h:=by
  cases q
  ·exact hs _ _ h
  ·obtain ⟨b1,b2,q1,q2,q3⟩:=h
   exact ⟨b1,b2,hs _ _ q1,hs _ _ q2,hs _ _ q3⟩
 cel {H j q} h:=by
  cases q
  ·refine ⟨_,_,_,h,fun c=>⟨fun e=>?_,fun q' e=>?_⟩⟩
   ·show q00 [.i .i32 c] H=_
    unfold q00
    by_cases hc:Y4x c
    ·rw[show QXp .first c=some .rest from if_pos hc]at e;cases e
    ·exact if_neg hc
   ·by_cases hc:Y4x c
    ·rw[show QXp .first c=some .rest from if_pos hc]at e
     cases e
     refine ⟨H.length+2,allB H.length,?_,H.length+0,H.length+1,Jhi _ _ 2 _ _ _ rfl,Jhi _ _ 0 _ _ _ rfl,Jhi _ _ 1 _ _ _ rfl⟩
     show q00 [.i .i32 c] H=_
     exact if_pos hc
    ·rw[show QXp .first c=none from if_neg hc]at e;cases e
  ·obtain ⟨b1,b2,q1,q2,q3⟩:=h
   have l1:ldV H none (.p b1 0)=some (.f (.func 178) [] []):=by simp only[ldV,q2,Option.bind_some];rfl
   have l2:ldV H none (.p b2 0)=some (.p j 0):=by simp only[ldV,q3,Option.bind_some];rfl
   have hT:∀c,qVL [.i .i32 c,.p b1 0,.p b2 0] H=some (if tagP c then .p j 0 else .np,H):=fun c=>by
    unfold qVL
    simp only[l1,l2,if_true]
   refine ⟨_,_,_,q1,fun c=>⟨fun e=>?_,fun q' e=>?_⟩⟩
   ·by_cases hc:tagP c
    ·rw[show QXp .rest c=some .rest from if_pos hc]at e;cases e
    ·have:=hT c
     rw[if_neg hc]at this
     exact this
   ·by_cases hc:tagP c
    ·rw[show QXp .rest c=some .rest from if_pos hc]at e
     cases e
     have:=hT c
     rw[if_pos hc]at this
     exact ⟨j,[],by rw[List.append_nil];exact this,b1,b2,by rw[List.append_nil];exact q1,by rw[List.append_nil];exact q2,by rw[List.append_nil];exact q3⟩
    ·rw[show QXp .rest c=none from if_neg hc]at e;cases e
theorem Z5Y:qj2 (Spec Tryz.prog) Z66:=⟨qTH,XV3,trivial⟩
def tagV (s:List UInt8):AV:=if (64:Int)<(s.length:Int) then .ag [.i .i64 4,.i .i64 64] else fltA 7 (runB QXp QfH s 0 .first)
noncomputable def Q2q:List AV->List AB->Option (AV×List AB)
 | [.s s],h=>if s.length<=1000000 then some (tagV s,h) else none
 | _,_=>none
open Classical in
noncomputable def QNA:List AV->List AB->Option (AV×List AB)
 | [.s s,.p j 0,.i .i64 e],h=>if repT h j .first/\s.length<=1000000 then some (fltA e (runB QXp QfH s 0 .first),h) else none
 | _,_=>none
theorem Y6a:Spec Tryz.prog 180 QNA:=by
 intro args h v h' e
 unfold QNA at e
 split at e
 ·split at e
  ·rename_i hc
   cases e
   exact FnAt.c (runA Z5Y autT (q0:=.first) hc.1 hc.2)
  ·cases e
 ·cases e
theorem XM1:Spec Tryz.prog 84 Q2q:=by
 intro args h v h' e
 unfold Q2q at e
 split at e
 ·rename_i s
  split at e
  ·rename_i hs
   cases e
   refine FnAt.c (FnAt.run (by kernel_rfl) (T:=⟨[⟨176,XJS,fun _=>[]⟩,⟨180,QNA,fun _=>[]⟩],[]⟩) ⟨⟨XKw,Y6a,trivial⟩,trivial⟩ Tryz.func84 sw84 fun ho hh=>?_)
   unfold w84 tagV
   by_cases g:(64:Int)<(s.length:Int)
   ·have g':=eq_true g
    simp only[z49,Qs3,XtK,K1H,JS3,simprocAttr,CO.tmps,Opd.tmps,optT,XJS,g',decide_true,decide_false,ne_eq,not_false_eq_true,not_true_eq_false,false_implies,forall_const,and_true,true_and,if_true]
    exact Bt.drop _ hh rfl rfl
   ·have g':=eq_false g
    have hq:∀B C:AB,repT (h++[B,C,.blk false true [.f (.func 177) [] [],.b false]]) (h.length+2) .first=True:=fun B C=>eq_true (Jhi _ _ 2 _ _ _ rfl)
    have hs':=eq_true hs
    obtain ⟨a,b,hab⟩:=Yro 7 (runB QXp QfH s 0 .first)
    rw[if_neg g]
    simp only[z49,Qs3,XtK,K1H,JS3,simprocAttr,CO.tmps,Opd.tmps,optT,XJS,g',QNA,hq,hs',hab,decide_true,decide_false,ne_eq,not_false_eq_true,not_true_eq_false,false_implies,forall_const,and_true,true_and,if_false,if_true]
    exact Bt.drop _ hh rfl rfl
  ·cases e
 ·cases e
end
section
set_option maxRecDepth 100000
set_option maxHeartbeats 4000000
def ZwV (s:List UInt8):Prop:=¬(128:Int)<(s.length:Int)/\runB qe3 Ybr s 0 ⟨7,.w⟩=none
def Y7J (s:List UInt8):Prop:=¬(64:Int)<(s.length:Int)/\runB QXp QfH s 0 .first=none
instance (s:List UInt8):Decidable (ZwV s):=inferInstanceAs (Decidable (_/\_))
instance (s:List UInt8):Decidable (Y7J s):=inferInstanceAs (Decidable (_/\_))
theorem Kvk (s:List UInt8):∃e p:Int,Qh3 s=.ag [.i .i64 e,.i .i64 p]/\JTs [.i,.i] [.i .i64 e,.i .i64 p] [.i .i64 0,.i .i64 0]=some (decide (ZwV s)):=by
 by_cases hk:ZwV s
 ·have:Qh3 s=.ag [.i .i64 0,.i .i64 0]:=by
   unfold Qh3
   rw[if_neg hk.1,hk.2]
   rfl
  exact ⟨0,0,this,by rw[decide_eq_true hk];rfl⟩
 ·have:∃e p:Int,e≠0/\Qh3 s=.ag [.i .i64 e,.i .i64 p]:=by
   unfold Qh3
   by_cases g:(128:Int)<(s.length:Int)
   ·rw[if_pos g]
    exact ⟨4,128,by decide,rfl⟩
   ·rw[if_neg g]
    cases hr:runB qe3 Ybr s 0 ⟨7,.w⟩ with
    | none=>exact absurd ⟨g,hr⟩ hk
    | some n=>exact ⟨7,n,by decide,rfl⟩
  obtain ⟨e,p,h1,h2⟩:=this
  exact ⟨e,p,h2,by rw[decide_eq_false hk];simp [JTs,QsB,h1]⟩
theorem XJN (s:List UInt8):∃e p:Int,tagV s=.ag [.i .i64 e,.i .i64 p]/\JTs [.i,.i] [.i .i64 e,.i .i64 p] [.i .i64 0,.i .i64 0]=some (decide (Y7J s)):=by
 by_cases hk:Y7J s
 ·have:tagV s=.ag [.i .i64 0,.i .i64 0]:=by
   unfold tagV
   rw[if_neg hk.1,hk.2]
   rfl
  exact ⟨0,0,this,by rw[decide_eq_true hk];rfl⟩
 ·have:∃e p:Int,e≠0/\tagV s=.ag [.i .i64 e,.i .i64 p]:=by
   unfold tagV
   by_cases g:(64:Int)<(s.length:Int)
   ·rw[if_pos g]
    exact ⟨4,64,by decide,rfl⟩
   ·rw[if_neg g]
    cases hr:runB QXp QfH s 0 .first with
    | none=>exact absurd ⟨g,hr⟩ hk
    | some n=>exact ⟨7,n,by decide,rfl⟩
  obtain ⟨e,p,h1,h2⟩:=this
  exact ⟨e,p,h2,by rw[decide_eq_false hk];simp [JTs,QsB,h1]⟩
end
section
set_option maxRecDepth 100000
set_option maxHeartbeats 8000000
open Classical in
noncomputable def getA {α:Type} (r:Row α) (a:AV):Option α:=if e:∃y,a=.ag (r.f y) then some e.choose else none
theorem q2g {α:Type} (r:Row α) (y:α):getA r (.ag (r.f y))=some y:=by
 have e:∃z,AV.ag (r.f y)=.ag (r.f z):=⟨y,rfl⟩
 unfold getA
 rw[dif_pos e]
 have h:=e.choose_spec
 rw[AV.ag.injEq]at h
 rw[<-r.inj _ _ h]
theorem XOV {α β:Type} {r:Row α} {a:AV} {f:α->Option β} {b:β} (e:(getA r a).bind f=some b):∃y,a=.ag (r.f y)/\f y=some b:=by
 unfold getA at e
 split at e
 ·rename_i h
  exact ⟨h.choose,h.choose_spec,e⟩
 ·cases e
def Qs4 {α:Type} (lt:α->α->Prop) (d:α) (l:List α):Prop:=∀j,j+1<l.length->lt (l.getD j d) (l.getD (j+1) d)
theorem Yde {α:Type} {lt:α->α->Prop} {d:α} {l:List α} {i:Nat} (h1:0<i) (h2:i<l.length) (h3:¬lt (l.getD (i-1) d) (l.getD i d)):¬Qs4 lt d l:=fun r=>h3 (by
 have:=r (i-1) (by omega)
 rwa [show i-1+1=i by omega]at this)
theorem QEn {α β:Type} {lt:β->β->Prop} (o:Strict lt) (key:α->β) (d:α) (l:List α):Qs4 (fun a b=>lt (key a) (key b)) d l↔(l.map key).Pairwise lt:=by
 rw[XlC o]
 constructor
 ·intro h i hi
  rw[List.length_map]at hi
  have:=h i hi
  rw[List.getD_eq_getElem?_getD,List.getD_eq_getElem?_getD,List.getElem?_eq_getElem (by omega),List.getElem?_eq_getElem hi]at this
  simpa using this
 ·intro h i hi
  have:=h i (by rw[List.length_map];exact hi)
  rw[List.getD_eq_getElem?_getD,List.getD_eq_getElem?_getD,List.getElem?_eq_getElem (by omega),List.getElem?_eq_getElem hi]
  simpa using this
noncomputable def qlp:List AV->List AB->Option (AV×List AB)
 | [a,b],h=>(getA repR a).bind fun x=>(getA repR b).bind fun y=>some (.i .i64 (cmpB x.name y.name),h)
 | _,_=>none
theorem Zn8:Spec Tryz.prog 183 qlp:=by
 intro args h v h' e
 unfold qlp at e
 split at e
 ·obtain ⟨x,hx,e2⟩:=XOV e
  obtain ⟨y,hy,e3⟩:=XOV e2
  clear e e2
  subst hx hy
  cases e3
  refine FnAt.c (FnAt.run (by kernel_rfl) (T:=⟨[⟨155,zYb,fun _=>[]⟩],[]⟩) ⟨⟨qac,trivial⟩,trivial⟩ Tryz.func183 KmW fun ho hh=>?_)
  have wx:=zUA x
  have wy:=zUA y
  rw[X6g]at wx wy
  unfold w183
  simp only[z49,Qs3,XtK,K1H,JS3,simprocAttr,CO.tmps,Opd.tmps,optT,X6g,wx,wy,zYb]
  exact Bt.dropI _ hh rfl
 ·cases e
noncomputable def Yjk:List AV->List AB->Option (AV×List AB)
 | [a,b],h=>(getA tagR a).bind fun x=>(getA tagR b).bind fun y=>some (.i .i64 (cmpB x.name y.name),h)
 | _,_=>none
theorem Jwe:Spec Tryz.prog 184 Yjk:=by
 intro args h v h' e
 unfold Yjk at e
 split at e
 ·obtain ⟨x,hx,e2⟩:=XOV e
  obtain ⟨y,hy,e3⟩:=XOV e2
  clear e e2
  subst hx hy
  cases e3
  refine FnAt.c (FnAt.run (by kernel_rfl) (T:=⟨[⟨155,zYb,fun _=>[]⟩],[]⟩) ⟨⟨qac,trivial⟩,trivial⟩ Tryz.func184 QP1 fun ho hh=>?_)
  have wx:=Z4X x
  have wy:=Z4X y
  rw[q2E]at wx wy
  unfold w184
  simp only[z49,Qs3,XtK,K1H,JS3,simprocAttr,CO.tmps,Opd.tmps,optT,q2E,wx,wy,zYb]
  exact Bt.dropI _ hh rfl
 ·cases e
noncomputable def qRZ:List AV->List AB->Option (AV×List AB)
 | [a,b],h=>(getA zEN a).bind fun x=>(getA zEN b).bind fun y=>some (.i .i64 (cmpD x.1 y.1),h)
 | _,_=>none
theorem Xkb:Spec Tryz.prog 158 qRZ:=by
 intro args h v h' e
 unfold qRZ at e
 split at e
 ·rename_i a b
  obtain ⟨x,hx,e2⟩:=XOV e
  obtain ⟨y,hy,e3⟩:=XOV e2
  clear e e2
  subst hx hy
  cases e3
  refine FnAt.c (FnAt.frz0 fun hz=>?_)
  generalize h.map AB.freeze=h at *
  refine FnAt.run (by kernel_rfl) (T:=⟨[⟨225,Yf7,fun _=>[]⟩,⟨224,T_Or,fun _=>[]⟩],[]⟩) ⟨⟨YQV,XED,trivial⟩,trivial⟩ Tryz.func158 YAr fun ho hh=>?_
  unfold w158
  have k0:∀z:Hd,(zEN.f z)[0]?=some (.i .i64 z.1.1):=fun _=>rfl
  have k1:∀z:Hd,(zEN.f z)[1]?=some (.i .i64 z.1.2):=fun _=>rfl
  have k2:∀z:Hd,(zEN.f z).length=34:=fun z=>zEN.len z
  simp only[z49,Qs3,XtK,K1H,JS3,simprocAttr,CO.tmps,Opd.tmps,optT,Yf7,T_Or,k0,k1,Yi0,k2,oW hh hz]
  exact Bt.dropI _ hh (by simp only[orI,cmpD];by_cases h1:cmpI x.1.1 y.1.1=0 <;> by_cases h2:cmpI x.1.2 y.1.2=0 <;> simp [h1,h2])
 ·cases e
theorem XkU {a b:List UInt8}:ltS a b↔cmpB a b<0:=Iff.rfl
open Classical in
noncomputable def Ygk:List AV->List AB->Option (AV×List AB)
 | [s,.f (.func g) [] []],h=>if g=183 then (getP repD h s).bind fun l=>some (.b (decide (Qs4 (fun a b:RepA=>ltS a.name b.name) repR.d (l.map (·.1)))),h) else none
 | _,_=>none
open Classical in
theorem JcQ:Spec Tryz.prog 185 Ygk:=by
 intro args h v h' e
 unfold Ygk at e
 split at e
 ·rename_i s g
  split at e
  ·rename_i hg
   subst hg
   obtain ⟨m,hm,e2⟩:=ZN7 e
   clear e
   cases e2
   refine FnAt.c (FnAt.frz0 fun hz=>?_)
   replace hm:=hm.frz
   generalize h.map AB.freeze=h at *
   have hs:=hm.s
   have oke:∀j,j<(m.map (·.1)).length->okL (fun i=>decide (i<h.length)) (repR.f ((m.map (·.1)).getD j repR.d))=true:=fun j hj=>by
    rw[List.length_map]at hj
    obtain ⟨q1,_,q2⟩:=hm.at hj
    have q3:(m.map (·.1)).getD j repR.d=m[j].1:=q1
    rw[q3]
    exact q2
   obtain ⟨l,hl0⟩:∃l,m.map (·.1)=l:=⟨_,rfl⟩
   rw[hl0]at hs oke ⊢
   have hs:Rd repR h s l:=hs
   clear hl0
   refine FnAt.run (by kernel_rfl) (T:=⟨[⟨183,qlp,fun _=>[]⟩],[]⟩) ⟨⟨Zn8,trivial⟩,trivial⟩ Tryz.func185 Zzg fun ho hh=>?_
   simp only[ZiP,Bool.and_eq_true]at ho
   have f1:=hs.fx ho.1 (sz:=3) rfl
   have hl:=hs.2
   unfold maxLen at hl
   unfold w185
   simp only[z49,Qs3,XtK,K1H,JS3,simprocAttr,CO.tmps,Opd.tmps,optT,f1]
   refine ZDF (S:=Nat) (fun i=>l.length-i) (fun i=>[s,.f (.func 183) [] []]++tp 3++[.i .i64 (i:Int)]++tp 18) (fun i=>1<=i/\∀j,j+1<i->j+1<l.length->ltS (l.getD j repR.d).name (l.getD (j+1) repR.d).name) 1 ⟨Nat.le_refl _,fun j hj=>by omega⟩ (by simp only[XtK,JS3,simprocAttr]) fun i hi=>?_
   obtain ⟨i1,i2⟩:=hi
   by_cases g3:i<l.length
   rotate_left
   ·have g3':((i:Int)<(l.length:Int))=False:=eq_false (by omega)
    have hr:Qs4 (fun a b:RepA=>ltS a.name b.name) repR.d l:=fun j hj=>i2 j (by omega) hj
    simp only[z49,Qs3,XtK,K1H,JS3,simprocAttr,CO.tmps,Opd.tmps,optT,f1,g3',oW hh hz,oD,ne_eq,forall_const]
    exact Bt.eq (by rw[decide_eq_true hr]) (List.append_nil h)
   have g3':((i:Int)<(l.length:Int))=True:=eq_true (by omega)
   have e1:IntKind.i64.wrap ((i:Int)+1)=((i+1:Nat):Int):=Q7p (by unfold In64;omega)
   have e2:IntKind.i64.wrap ((i:Int)-1)=((i-1:Nat):Int):=by rw[Q7p (by unfold In64;omega)];omega
   have g5:i-1<l.length:=by omega
   have z1:((0:Int)<=((i-1:Nat):Int)/\((i-1:Nat):Int)<(l.length:Int))=True:=eq_true (by omega)
   have z2:((0:Int)<=(i:Int)/\(i:Int)<(l.length:Int))=True:=eq_true (by omega)
   have ox1:∀c j,j<l.length->okL (fun i=>decide (i<h.length+c)) (repR.f (l.getD j repR.d))=true:=fun c j hj=>Yit (fun i q=>by simp only[decide_eq_true_eq]at q ⊢;omega) _ (oke j hj)
   have ox2:∀c lo hi anc past j,j<l.length->okL (qOk (h.length+c) lo hi anc past) (repR.f (l.getD j repR.d))=true:=fun c lo hi anc past j hj=>Yit (fun i q=>ZX5 (by have:=of_decide_eq_true q;omega)) _ (oke j hj)
   by_cases g6:ltS (l.getD (i-1) repR.d).name (l.getD i repR.d).name
   ·have g6':(0<=cmpB (l.getD (i-1) repR.d).name (l.getD i repR.d).name)=False:=eq_false (by have:=(XkU (a:=(l.getD (i-1) repR.d).name) (b:=(l.getD i repR.d).name)).1 g6;omega)
    simp only[z49,Qs3,XtK,K1H,JS3,simprocAttr,CO.tmps,Opd.tmps,optT,f1,g3,g3',g5,z1,z2,e1,e2,g6',ox1,ox2,qlp,q2g,oW hh hz,Option.bind_some,oD,ne_eq,forall_const]
    refine ⟨i+1,⟨by omega,fun j hj hj2=>?_⟩,by omega,Wk.refl _⟩
    by_cases hji:j+1=i
    ·obtain rfl:j=i-1:=by omega
     rwa [show i-1+1=i by omega]
    ·exact i2 j (by omega) hj2
   ·have g6':(0<=cmpB (l.getD (i-1) repR.d).name (l.getD i repR.d).name)=True:=eq_true (Int.not_lt.1 fun z=>g6 ((XkU (a:=(l.getD (i-1) repR.d).name) (b:=(l.getD i repR.d).name)).2 z))
    simp only[z49,Qs3,XtK,K1H,JS3,simprocAttr,CO.tmps,Opd.tmps,optT,f1,g3,g3',g5,z1,z2,e1,e2,g6',ox1,ox2,qlp,q2g,oW hh hz,Option.bind_some,oD,ne_eq,forall_const]
    exact Bt.eq (by rw[decide_eq_false (Yde (by omega) g3 g6)]) (List.append_nil h)
  ·cases e
 ·cases e
open Classical in
noncomputable def q1b:List AV->List AB->Option (AV×List AB)
 | [s,.f (.func g) [] []],h=>if g=184 then (getP tagD h s).bind fun l=>some (.b (decide (Qs4 (fun a b:TagA=>ltS a.name b.name) tagR.d (l.map (·.1)))),h) else none
 | _,_=>none
open Classical in
theorem JbL:Spec Tryz.prog 186 q1b:=by
 intro args h v h' e
 unfold q1b at e
 split at e
 ·rename_i s g
  split at e
  ·rename_i hg
   subst hg
   obtain ⟨m,hm,e2⟩:=ZN7 e
   clear e
   cases e2
   refine FnAt.c (FnAt.frz0 fun hz=>?_)
   replace hm:=hm.frz
   generalize h.map AB.freeze=h at *
   have hs:=hm.s
   have oke:∀j,j<(m.map (·.1)).length->okL (fun i=>decide (i<h.length)) (tagR.f ((m.map (·.1)).getD j tagR.d))=true:=fun j hj=>by
    rw[List.length_map]at hj
    obtain ⟨q1,_,q2⟩:=hm.at hj
    have q3:(m.map (·.1)).getD j tagR.d=m[j].1:=q1
    rw[q3]
    exact q2
   obtain ⟨l,hl0⟩:∃l,m.map (·.1)=l:=⟨_,rfl⟩
   rw[hl0]at hs oke ⊢
   have hs:Rd tagR h s l:=hs
   clear hl0
   refine FnAt.run (by kernel_rfl) (T:=⟨[⟨184,Yjk,fun _=>[]⟩],[]⟩) ⟨⟨Jwe,trivial⟩,trivial⟩ Tryz.func186 qGV fun ho hh=>?_
   simp only[ZiP,Bool.and_eq_true]at ho
   have f1:=hs.fx ho.1 (sz:=2) rfl
   have hl:=hs.2
   unfold maxLen at hl
   unfold w186
   simp only[z49,Qs3,XtK,K1H,JS3,simprocAttr,CO.tmps,Opd.tmps,optT,f1]
   refine ZDF (S:=Nat) (fun i=>l.length-i) (fun i=>[s,.f (.func 184) [] []]++tp 3++[.i .i64 (i:Int)]++tp 18) (fun i=>1<=i/\∀j,j+1<i->j+1<l.length->ltS (l.getD j tagR.d).name (l.getD (j+1) tagR.d).name) 1 ⟨Nat.le_refl _,fun j hj=>by omega⟩ (by simp only[XtK,JS3,simprocAttr]) fun i hi=>?_
   obtain ⟨i1,i2⟩:=hi
   by_cases g3:i<l.length
   rotate_left
   ·have g3':((i:Int)<(l.length:Int))=False:=eq_false (by omega)
    have hr:Qs4 (fun a b:TagA=>ltS a.name b.name) tagR.d l:=fun j hj=>i2 j (by omega) hj
    simp only[z49,Qs3,XtK,K1H,JS3,simprocAttr,CO.tmps,Opd.tmps,optT,f1,g3',oW hh hz,oD,ne_eq,forall_const]
    exact Bt.eq (by rw[decide_eq_true hr]) (List.append_nil h)
   have g3':((i:Int)<(l.length:Int))=True:=eq_true (by omega)
   have e1:IntKind.i64.wrap ((i:Int)+1)=((i+1:Nat):Int):=Q7p (by unfold In64;omega)
   have e2:IntKind.i64.wrap ((i:Int)-1)=((i-1:Nat):Int):=by rw[Q7p (by unfold In64;omega)];omega
   have g5:i-1<l.length:=by omega
   have z1:((0:Int)<=((i-1:Nat):Int)/\((i-1:Nat):Int)<(l.length:Int))=True:=eq_true (by omega)
   have z2:((0:Int)<=(i:Int)/\(i:Int)<(l.length:Int))=True:=eq_true (by omega)
   have ox1:∀c j,j<l.length->okL (fun i=>decide (i<h.length+c)) (tagR.f (l.getD j tagR.d))=true:=fun c j hj=>Yit (fun i q=>by simp only[decide_eq_true_eq]at q ⊢;omega) _ (oke j hj)
   have ox2:∀c lo hi anc past j,j<l.length->okL (qOk (h.length+c) lo hi anc past) (tagR.f (l.getD j tagR.d))=true:=fun c lo hi anc past j hj=>Yit (fun i q=>ZX5 (by have:=of_decide_eq_true q;omega)) _ (oke j hj)
   by_cases g6:ltS (l.getD (i-1) tagR.d).name (l.getD i tagR.d).name
   ·have g6':(0<=cmpB (l.getD (i-1) tagR.d).name (l.getD i tagR.d).name)=False:=eq_false (by have:=(XkU (a:=(l.getD (i-1) tagR.d).name) (b:=(l.getD i tagR.d).name)).1 g6;omega)
    simp only[z49,Qs3,XtK,K1H,JS3,simprocAttr,CO.tmps,Opd.tmps,optT,f1,g3,g3',g5,z1,z2,e1,e2,g6',ox1,ox2,Yjk,q2g,oW hh hz,Option.bind_some,oD,ne_eq,forall_const]
    refine ⟨i+1,⟨by omega,fun j hj hj2=>?_⟩,by omega,Wk.refl _⟩
    by_cases hji:j+1=i
    ·obtain rfl:j=i-1:=by omega
     rwa [show i-1+1=i by omega]
    ·exact i2 j (by omega) hj2
   ·have g6':(0<=cmpB (l.getD (i-1) tagR.d).name (l.getD i tagR.d).name)=True:=eq_true (Int.not_lt.1 fun z=>g6 ((XkU (a:=(l.getD (i-1) tagR.d).name) (b:=(l.getD i tagR.d).name)).2 z))
    simp only[z49,Qs3,XtK,K1H,JS3,simprocAttr,CO.tmps,Opd.tmps,optT,f1,g3,g3',g5,z1,z2,e1,e2,g6',ox1,ox2,Yjk,q2g,oW hh hz,Option.bind_some,oD,ne_eq,forall_const]
    exact Bt.eq (by rw[decide_eq_false (Yde (by omega) g3 g6)]) (List.append_nil h)
  ·cases e
 ·cases e
open Classical in
noncomputable def q4a:List AV->List AB->Option (AV×List AB)
 | [s,.f (.func g) [] []],h=>if g=158 then (getS zEN h s).bind fun l=>some (.b (decide (Qs4 (fun a b:Hd=>JTv a.1 b.1) zEN.d l)),h) else none
 | _,_=>none
open Classical in
theorem zkv:Spec Tryz.prog 189 q4a:=by
 intro args h v h' e
 unfold q4a at e
 split at e
 ·rename_i s g
  split at e
  ·rename_i hg
   subst hg
   obtain ⟨l,hm,e2⟩:=Qk0 e
   clear e
   cases e2
   refine FnAt.c (FnAt.frz0 fun hz=>?_)
   replace hm:=hm.frz
   generalize h.map AB.freeze=h at *
   have hs:=hm
   have oke:∀j,j<l.length->okL (fun i=>decide (i<h.length)) (zEN.f (l.getD j zEN.d))=true:=fun j _=>YhJ _ _
   refine FnAt.run (by kernel_rfl) (T:=⟨[⟨158,qRZ,fun _=>[]⟩],[]⟩) ⟨⟨Xkb,trivial⟩,trivial⟩ Tryz.func189 YEh fun ho hh=>?_
   simp only[ZiP,Bool.and_eq_true]at ho
   have f1:=hs.fx ho.1 (sz:=34) rfl
   have hl:=hs.2
   unfold maxLen at hl
   unfold w189
   simp only[z49,Qs3,XtK,K1H,JS3,simprocAttr,CO.tmps,Opd.tmps,optT,f1]
   refine ZDF (S:=Nat) (fun i=>l.length-i) (fun i=>[s,.f (.func 158) [] []]++tp 3++[.i .i64 (i:Int)]++tp 18) (fun i=>1<=i/\∀j,j+1<i->j+1<l.length->JTv (l.getD j zEN.d).1 (l.getD (j+1) zEN.d).1) 1 ⟨Nat.le_refl _,fun j hj=>by omega⟩ (by simp only[XtK,JS3,simprocAttr]) fun i hi=>?_
   obtain ⟨i1,i2⟩:=hi
   by_cases g3:i<l.length
   rotate_left
   ·have g3':((i:Int)<(l.length:Int))=False:=eq_false (by omega)
    have hr:Qs4 (fun a b:Hd=>JTv a.1 b.1) zEN.d l:=fun j hj=>i2 j (by omega) hj
    simp only[z49,Qs3,XtK,K1H,JS3,simprocAttr,CO.tmps,Opd.tmps,optT,f1,g3',oW hh hz,oD,ne_eq,forall_const]
    exact Bt.eq (by rw[decide_eq_true hr]) (List.append_nil h)
   have g3':((i:Int)<(l.length:Int))=True:=eq_true (by omega)
   have e1:IntKind.i64.wrap ((i:Int)+1)=((i+1:Nat):Int):=Q7p (by unfold In64;omega)
   have e2:IntKind.i64.wrap ((i:Int)-1)=((i-1:Nat):Int):=by rw[Q7p (by unfold In64;omega)];omega
   have g5:i-1<l.length:=by omega
   have z1:((0:Int)<=((i-1:Nat):Int)/\((i-1:Nat):Int)<(l.length:Int))=True:=eq_true (by omega)
   have z2:((0:Int)<=(i:Int)/\(i:Int)<(l.length:Int))=True:=eq_true (by omega)
   have ox1:∀c j,j<l.length->okL (fun i=>decide (i<h.length+c)) (zEN.f (l.getD j zEN.d))=true:=fun c j hj=>Yit (fun i q=>by simp only[decide_eq_true_eq]at q ⊢;omega) _ (oke j hj)
   have ox2:∀c lo hi anc past j,j<l.length->okL (qOk (h.length+c) lo hi anc past) (zEN.f (l.getD j zEN.d))=true:=fun c lo hi anc past j hj=>Yit (fun i q=>ZX5 (by have:=of_decide_eq_true q;omega)) _ (oke j hj)
   by_cases g6:JTv (l.getD (i-1) zEN.d).1 (l.getD i zEN.d).1
   ·have g6':(0<=cmpD (l.getD (i-1) zEN.d).1 (l.getD i zEN.d).1)=False:=eq_false (by have:=(QyC (l.getD (i-1) zEN.d).1 (l.getD i zEN.d).1).symm.1 g6;omega)
    simp only[z49,Qs3,XtK,K1H,JS3,simprocAttr,CO.tmps,Opd.tmps,optT,f1,g3,g3',g5,z1,z2,e1,e2,g6',ox1,ox2,qRZ,q2g,oW hh hz,Option.bind_some,oD,ne_eq,forall_const]
    refine ⟨i+1,⟨by omega,fun j hj hj2=>?_⟩,by omega,Wk.refl _⟩
    by_cases hji:j+1=i
    ·obtain rfl:j=i-1:=by omega
     rwa [show i-1+1=i by omega]
    ·exact i2 j (by omega) hj2
   ·have g6':(0<=cmpD (l.getD (i-1) zEN.d).1 (l.getD i zEN.d).1)=True:=eq_true (Int.not_lt.1 fun z=>g6 ((QyC (l.getD (i-1) zEN.d).1 (l.getD i zEN.d).1).symm.2 z))
    simp only[z49,Qs3,XtK,K1H,JS3,simprocAttr,CO.tmps,Opd.tmps,optT,f1,g3,g3',g5,z1,z2,e1,e2,g6',ox1,ox2,qRZ,q2g,oW hh hz,Option.bind_some,oD,ne_eq,forall_const]
    exact Bt.eq (by rw[decide_eq_false (Yde (by omega) g3 g6)]) (List.append_nil h)
  ·cases e
 ·cases e
end
end Go.Proofs.YtekeoichmdiiiaaGreat
