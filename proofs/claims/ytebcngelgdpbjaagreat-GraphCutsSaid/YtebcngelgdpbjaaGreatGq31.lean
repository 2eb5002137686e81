/- Part 31 of what the laws' proofs rest on. No condition. -/
import Derived.Test.YtebcngelgdpbjaaGreatGq30
set_option linter.all false
namespace Go.Proofs.YtebcngelgdpbjaaGreat
section
set_option maxRecDepth 100000
set_option maxHeartbeats 4000000
theorem QSw {n many:Int}:∀ {l:List EvtA} {i:Nat} {refs:Int},(i:Int)+l.length=n->lgs n many l i refs=false->n<=many/\∀x∈l,¬Jri x
 | [],i,refs,_,h=>by
  rw[lgs,decide_eq_false_iff_not]at h
  exact ⟨by omega,fun x hx=>by simp at hx⟩
 | x::l,i,refs,hn,h=>by
  rw[lgs]at h
  simp only[List.length_cons]at hn
  split at h
  ·split at h
   ·cases h
   ·rename_i hx
    obtain ⟨h1,h2⟩:=QSw (l:=l) (i:=i+1) (by omega) h
    refine ⟨h1,fun y hy=>?_⟩
    rcases List.mem_cons.1 hy with rfl|hy
    ·exact hx
    ·exact h2 y hy
  ·rw[decide_eq_false_iff_not]at h
   omega
theorem ZRI {α:Type} {r:Row α} {h:List AB} {s:AV} {l:List α} (e:Rd r h s l) {sz:Nat} (hz:r.sz=sz) (n j m:Nat) (hn:n<l.length) (hm:j+m<=sz):ldV h (some m) (elP sz s n j)=some (.ag (((r.f (l.getD n r.d)).drop j).take m)):=by
 subst hz
 obtain ⟨id,off,cap,k,xs,rfl,h1,h2,h3⟩:=e.blk n hn
 simp only[elP,ldV,h1,Option.bind_some]
 have hlt:n*r.sz+r.sz<=l.length*r.sz:=by
  have:=Nat.mul_le_mul_right r.sz (show n+1<=l.length from hn)
  rw[Nat.add_mul]at this
  omega
 rw[if_pos (by omega)]
 congr 2
 refine List.ext_getElem? fun i=>?_
 rw[List.getElem?_take,List.getElem?_take]
 split
 ·rename_i hi
  rw[List.getElem?_drop,List.getElem?_drop,<-r.cells_get l n (j+i) hn (by omega),<-h3,List.getElem?_take,if_pos (by omega),List.getElem?_drop]
  congr 1
  omega
 ·rfl
theorem Jeg {α:Type} {r:Row α} {h L:List AB} {k:Nat} {b:Bool} {l:List α} (hk:L[k]?=some (resB r b l)) (hl:l.length<=maxLen):Rd r (h++L) (apS r (h.length+k) l) l:=by
 by_cases h0:l.length=0
 ·obtain rfl:=List.eq_nil_of_length_eq_zero h0
  exact ⟨rfl,Nat.zero_le _⟩
 ·rw[YM0 _ h0]
  exact K0d (by rw[qu4];exact hk) hl
end
section
set_option maxRecDepth 100000
set_option maxHeartbeats 8000000
theorem K69 (xs:List Int) (M:List EvF) (e:EvF):undE xs (M++[e])=undE xs M++if vhas xs e.1.dot then [e] else []:=by
 unfold undE
 rw[List.filter_append]
 congr 1
 rw[List.filter_cons]
 by_cases q:vhas xs e.1.dot
 ·rw[if_pos (decide_eq_true q),if_pos q];rfl
 ·rw[if_neg (by simpa using q),if_neg q];rfl
theorem ZwS {k:Nat} {M:List EvF} (h:bdE M):bdE (ZDg k M):=by
 refine ⟨by rw[YfC];exact h.1,fun y hy=>?_⟩
 have key:∀(k:Nat) (M:List EvF),∀p∈(XvB k M).zip M,p.1.repo=p.2.1.repo/\p.1.tag=p.2.1.tag:=fun k M=>by
  induction M generalizing k with
  | nil=>intro p hp;cases hp
  | cons e M ih =>
   intro p hp
   rcases List.mem_cons.1 hp with rfl|hp
   ·exact ⟨rfl,rfl⟩
   ·exact ih (k+2) p hp
 obtain ⟨p,hp,rfl⟩:=List.mem_map.1 hy
 obtain ⟨q1,q2⟩:=key k M p hp
 have hm:p.2∈M:=(List.of_mem_zip (show (p.1,p.2)∈(XvB k M).zip M from hp)).2
 have:=h.2 p.2 hm
 dsimp only
 rw[q1,q2]
 exact this
theorem ZsJ (xs:List Int) (M:List EvF):(undE xs M).length<=M.length:=List.length_filter_le _ _
theorem qsn {xs:List Int} {M:List EvF} (h:bdE M):bdE (undE xs M):=⟨Nat.le_trans (ZsJ xs M) h.1,fun e he=>h.2 e (List.mem_filter.1 he).1⟩
noncomputable def Zcz (k:Nat) (M:List EvF):List EvF:=srtI XAO (ZDg (k+2*M.length+1) (ZDg k M))
noncomputable def Xn7 (k:Nat) (M:List EvF):List AB:=zWI M++resN evR true (XvB k M)::(zWI (ZDg k M)++[resN evR true ((Zcz k M).map (·.1))])
open Classical in
noncomputable def q6T:List AV->List AB->Option (AV×List AB)
 | [l,v],h=>(z47 h l).bind fun M=>(getS intR h v).bind fun xs=>if M.length<=20/\bdE M then some (apS evR (h.length+2*(undE xs M).length+1+2*(undE xs M).length) ((Zcz h.length (undE xs M)).map (·.1)),h++Xn7 h.length (undE xs M)) else none
 | _,_=>none
theorem qME:Spec Tryz.prog 31 q6T:=by
 intro args h v h' e
 unfold q6T at e
 split at e
 ·rename_i s v
  obtain ⟨M,hs,e2⟩:=KiG e
  obtain ⟨xs,hx,e3⟩:=zZy e2
  clear e e2
  split at e3
  ·rename_i hcc
   obtain ⟨h20,hb⟩:=hcc
   rw[Option.some.injEq,Prod.mk.injEq]at e3
   obtain ⟨rfl,rfl⟩:=e3
   refine FnAt.c (FnAt.run (by kernel_rfl) (T:=⟨[⟨84,qY8,fun _=>[]⟩,⟨52,Zgx,fun _=>[]⟩,⟨85,KyZ,fun _=>[]⟩],[]⟩) ⟨⟨ZyN,QwQ,Jxp,trivial⟩,trivial⟩ Tryz.func31 sw31 fun ho hh=>?_)
   simp only[XDA,Bool.and_eq_true]at ho
   have f1:=hs.fst.fx ho.1 (sz:=39) rfl
   rw[List.length_map]at f1
   have f2:=hx.fx ho.2.1 (sz:=1) rfl
   unfold w31
   simp only[QhU,YqB,z16,Xq6,simprocAttr,f1,f2]
   refine q2X (S:=Nat) (fun i=>M.length-i) (fun i=>[s,v]++tp 3++[apS evR (h.length+2*(undE xs (M.take i)).length) (XvB h.length (undE xs (M.take i))),.i .i64 (i:Int)]++tp 23) (fun i=>h++zWI (undE xs (M.take i))++[resN evR true (XvB h.length (undE xs (M.take i)))]) (fun i=>i<=M.length) 0 (Nat.zero_le _) ?_ fun i hi=>?_
   ·refine (Bt.pad _ _ 1).trans ?_
    refine Bt.wk ?_
    simp only[z16,Xq6,simprocAttr]
    all_goals exact Wk.refl _
   by_cases g:i<M.length
   ·have g':((i:Int)<(M.length:Int))=True:=eq_true (by omega)
    have e1:IntKind.i64.wrap ((i:Int)+1)=((i+1:Nat):Int):=ZWm (by have:=hb.1;unfold In64;omega)
    have hgd:(M.map (·.1)).getD i evR.d=(M[i]).1:=by rw[List.getD_eq_getElem?_getD,List.getElem?_map,List.getElem?_eq_getElem g];rfl
    have hin:M[i]∈M:=List.getElem_mem g
    have hbe:=hb.2 _ hin
    have hd:=hs.ev.d _ (List.mem_map.2 ⟨_,hin,rfl⟩)
    have hf:=hs.f _ hin
    have hns:undE xs (M.take (i+1))=undE xs (M.take i)++if vhas xs (M[i]).1.dot then [M[i]] else []:=by rw[List.take_succ_eq_append_getElem g,K69]
    have hul:(undE xs (M.take i)).length<=i:=by have:=ZsJ xs (M.take i);rw[List.length_take]at this;omega
    obtain ⟨e,he⟩:∃e,M[i]=e:=⟨_,rfl⟩
    rw[he]at hgd hin hbe hd hf hns
    obtain ⟨U,hU⟩:∃U,undE xs (M.take i)=U:=⟨_,rfl⟩
    rw[hU]at hns hul
    obtain ⟨H,hH⟩:∃H,h++zWI U=H:=⟨_,rfl⟩
    have hHl:H.length=h.length+2*U.length:=by rw[<-hH,List.length_append,JmL]
    have hHB:HOk H:=by
     rw[<-hH,XUr hh]
     exact List.all_eq_true.2 fun B hB=>K0m _ _ B hB
    obtain ⟨out,hout⟩:∃out,XvB h.length U=out:=⟨_,rfl⟩
    have hol:out.length=U.length:=by rw[<-hout,YjL]
    have hook:∀x∈out,okL (fun i=>decide (i<H.length)) (evtF x)=true:=by
     rw[<-hout]
     refine Yuj _ _ _ fun j h1 h2=>decide_eq_true ?_
     omega
    have gd:∀L,getS intR (H++L) e.1.deps.a=some e.2.1:=fun L=>by rw[<-hH,List.append_assoc];exact (hd.app _).get
    have gf:∀L,getS idR (H++L) e.1.refs.a=some e.2.2:=fun L=>by rw[<-hH,List.append_assoc];exact (hf.app _).get
    have gv:∀L,getS intR (H++L) v=some xs:=fun L=>by rw[<-hH,List.append_assoc];exact (hx.app _).get
    have b1:=eq_true (p:=e.2.1.length<=1000000/\e.2.2.length<=1000000) ⟨by omega,by omega⟩
    have ldp:∀L,ldV (H++L) (some 2) (elP 39 s i 0)=some (.ag [.i .i64 e.1.dot.1,.i .i64 e.1.dot.2]):=fun L=>by
     rw[<-hH,List.append_assoc,ZRI (hs.fst.app _) (sz:=39) rfl i 0 2 (by rw[List.length_map];exact g) (by decide),hgd]
     rfl
    obtain ⟨f1a,f1b,f1c,f1d,f1e,f1f,f1g,f1h,f1i,f1j,f1k⟩:=f1
    obtain ⟨f2a,f2b,f2c,f2d,f2e,f2f,f2g,f2h,f2i,f2j,f2k⟩:=f2
    have lda:∀L,ldV (H++L) (some 39) (elP 39 s i 0)=some (.ag (evtF e.1)):=fun L=>by
     rw[<-hH,List.append_assoc,f1h _ i g,hgd]
     rfl
    have gz:((0:Int)<=(i:Int)/\(i:Int)<(M.length:Int))=True:=eq_true (by omega)
    have soH:∀c,s.ok (fun j=>decide (j<H.length+c))=true:=fun c=>AV.ok_mono (fun i q=>by simp only[decide_eq_true_eq]at q ⊢;omega) s ho.1
    have srH:∀sel,Wk (s.ren (selN H.length sel)) s:=fun sel=>Wk.ren (fun i hi=>ZiE hi) (AV.ok_mono (fun i q=>by simp only[decide_eq_true_eq]at q ⊢;omega) s ho.1)
    have voH:∀c,v.ok (fun j=>decide (j<H.length+c))=true:=fun c=>AV.ok_mono (fun i q=>by simp only[decide_eq_true_eq]at q ⊢;omega) v ho.2.1
    have vrH:∀sel,Wk (v.ren (selN H.length sel)) v:=fun sel=>Wk.ren (fun i hi=>ZiE hi) (AV.ok_mono (fun i q=>by simp only[decide_eq_true_eq]at q ⊢;omega) v ho.2.1)
    have lt:∀y:EvtA,(evtF y).take 39=evtF y:=fun y=>List.take_of_length_le (by rw[YXj];exact Nat.le_refl _)
    have c1:∀l:List AV,(AV.ag l).cells=l:=fun _=>rfl
    have fa:=fun (A B C:AB) ys=>K35 (h:=H) (r:=evR) (sz:=39) rfl [resN evR true out,A,B,C] 0 out 136 1 ys rfl (by decide) (by rw[hol];omega) (by rw[hol];unfold maxLen;omega)
    have e0:h.length+2*U.length=H.length+0:=by omega
    rw[hU,hH,hout,e0]
    rcases emG (vhas xs (e.1.dot.1,e.1.dot.2)) with q|q
    ·have hns2:undE xs (M.take (i+1))=U++[e]:=by rw[hns,if_pos (of_eq_true q)]
     have n1:XvB h.length (undE xs (M.take (i+1)))=out++[QAO H.length e]:=by
      rw[hns2,QRI,hout,hHl]
     have n2:∀X,h++(zWI (undE xs (M.take (i+1)))++X)=H++(ZGX e++X):=fun X=>by
      rw[hns2,JcI,<-hH]
      simp only[List.append_assoc]
     have n3:h.length+2*(undE xs (M.take (i+1))).length=H.length+2:=by rw[hns2,List.length_append,List.length_singleton];omega
     simp only[QhU,YqB,z16,Xq6,simprocAttr,f1a,f1b,f1c,f1d,f1e,f1f,f1j,f2a,f2b,f2c,f2d,lda,ldp,g,g',gz,e1,qY8,q,Zgx,Zz9,gd,gf,gv,b1,ovE,Q7m,YXj,lt,c1,fa,ZGX,Option.bind_some,Option.map_some,if_true,ZkX,oD,ne_eq,forall_const]
     refine ⟨i+1,g,by dsimp only;omega,?_⟩
     dsimp only
     rw[n1,n2,n3]
     refine Bt.low (p':=H.length) (Bt.sel [1,2,4] hHB (by decide) ⟨⟨_,rfl,?_⟩,⟨_,rfl,?_⟩,⟨_,rfl,?_⟩,trivial⟩ ?_) (by omega) (by rw[List.length_append];omega)
     ·rw[YhS];trivial
     ·rw[YhS];trivial
     ·refine q1q hook (Qet _ _ _ (decide_eq_true (by simp only[List.length_cons,List.length_nil];omega)) (decide_eq_true (by simp only[List.length_cons,List.length_nil];omega))) ?_
      rw[ZxE,ZxE,qun,show selN H.length [1,2,4] H.length=H.length+1 from JRu 0,show selN H.length [1,2,4] (H.length+1)=H.length+2 from JRu 1]
      exact Qs6 _
     ·have hap:AV.sl (H.length+4) 0 (out.length+1) (out.length+1) (some 39)=apS evR (H.length+4) (out++[QAO H.length e]):=(ZTK (r:=evR) (H.length+4) out (QAO H.length e)).symm
      rw[hap]
      have ao:(apS evR (H.length+2) (out++[QAO H.length e])).ok (fun i=>decide (i<H.length+3))=true:=Yv9 _ _ _ (by simp)
      simp only[tp_0,tp_s,List.cons_append,List.nil_append,KlC,FrSel,BlkSel,AV.ren,renL,AV.ok,okL,Option.some.injEq,exists_eq_left',List.length_cons,List.length_nil,Nat.reduceAdd,Nat.reduceLT,reduceCtorEq,implies_true,exists_eq',soH,srH,voH,vrH,ao]
    ·have hns2:undE xs (M.take (i+1))=U:=by rw[hns,if_neg (of_eq_false q),List.append_nil]
     simp only[QhU,YqB,z16,Xq6,simprocAttr,f1a,f1b,f1c,f1d,f1e,f1f,f1j,f2a,f2b,f2c,f2d,lda,ldp,g,g',gz,e1,qY8,q,gv,Option.bind_some,Option.map_some,if_true,ZkX,oD,ne_eq,forall_const]
     refine ⟨i+1,g,by dsimp only;omega,?_⟩
     dsimp only
     rw[hns2,hout,<-List.append_assoc,hH,e0]
     refine Bt.wk ?_
     simp only[z16,Xq6,simprocAttr]
   ·have g':((i:Int)<(M.length:Int))=False:=eq_false (by omega)
    have hiM:i=M.length:=by omega
    subst hiM
    rw[List.take_length]
    have hul:=ZsJ xs M
    have hub:=qsn (xs:=xs) hb
    generalize undE xs M=U at *
    obtain ⟨G,hG⟩:∃G,h++(zWI U++[resN evR true (XvB h.length U)])=G:=⟨_,rfl⟩
    have hGl:G.length=h.length+2*U.length+1:=by rw[<-hG,List.length_append,List.length_append,JmL];rfl
    have rd:=XcZ (h:=h) (L:=[]) hub (b:=true)
    have srt:KyZ [apS evR (h.length+2*U.length) (XvB h.length U)] G=some (apS evR (G.length+2*U.length) ((Zcz h.length U).map (·.1)),G++(zWI (ZDg h.length U)++[resN evR true ((Zcz h.length U).map (·.1))])):=by
     rw[hG]at rd
     show (z47 _ _).bind _=_
     rw[rd.get,Option.bind_some]
     have hl:=YfC h.length U
     have hr:Zcz h.length U=srtI XAO (ZDg G.length (ZDg h.length U)):=by unfold Zcz;rw[hGl]
     rw[hr]
     refine (if_pos ⟨by omega,ZwS hub⟩).trans ?_
     rw[hl]
    have hG2:h++zWI U++[resN evR true (XvB h.length U)]=G:=by rw[List.append_assoc];exact hG
    rw[hG2]
    simp only[QhU,YqB,z16,Xq6,simprocAttr,f1,g',srt,oD,ne_eq,forall_const]
    refine Bt.eq (by rw[hGl];congr 1;omega) ?_
    rw[<-hG]
    unfold Xn7
    simp only[List.append_assoc,List.cons_append,List.nil_append]
  ·cases e3
 ·cases e
end
section
set_option maxRecDepth 100000
set_option maxHeartbeats 8000000
noncomputable def KYm:List AV->List AB->Option (AV×List AB)
 | [a,b],h=>(getS idR h a).bind fun xs=>(getS idR h b).bind fun ys=>some (.b (decide (xs=ys)),h)
 | _,_=>none
theorem QEc:Spec Tryz.prog 142 KYm:=by
 intro args h v h' e
 unfold KYm at e
 split at e
 ·rename_i a b
  obtain ⟨xs,ha,e⟩:=zZy e
  obtain ⟨ys,hb,e⟩:=zZy e
  cases e
  refine FnAt.c (FnAt.frz0 fun hz=>?_)
  replace ha:=ha.frz
  replace hb:=hb.frz
  generalize h.map AB.freeze=h at *
  refine FnAt.run (by kernel_rfl) (T:=⟨[],[]⟩) ⟨trivial,trivial⟩ Tryz.func142 KBy fun ho hh=>?_
  simp only[XDA,Bool.and_eq_true]at ho
  have fa:=ha.fx ho.1 (sz:=32) rfl
  have fb:=hb.fx ho.2.1 (sz:=32) rfl
  unfold w142
  simp only[QhU,YqB,z16,Xq6,simprocAttr,fa,fb]
  refine zXM (S:=Nat) (fun i=>xs.length-i) (fun i=>[a,b]++tp 3++[.b (decide (xs.length=ys.length/\xs.take i=ys.take i)),.i .i64 i]++tp 24) (fun i=>xs.length=ys.length->i<=xs.length) 0 (fun _=>Nat.zero_le _) (by simp only[z16,Xq6,simprocAttr,List.take_zero]) fun i hi=>?_
  simp only[z16,Xq6,simprocAttr,fa,fb]
  refine ⟨fun h1=>⟨fun h2=>?_,fun h2=>?_⟩,fun h1=>?_⟩
  ·have h3:i<ys.length:=by omega
   have e1:IntKind.i64.wrap ((i:Int)+1)=((i+1:Nat):Int):=ZWm (by have:=ha.2;unfold maxLen at this;unfold In64;omega)
   simp only[z16,KHD,Xq6,simprocAttr,CO.tmps,Opd.tmps,optT,fa,fb,h2,h3,Qk1,YlI,Nat.zero_lt_one,e1]
   refine ⟨i+1,fun _=>h2,by omega,?_,Wk.refl _⟩
   have e2:(xs.length=ys.length/\xs.take (i+1)=ys.take (i+1))=(xs.getD i idR.d=ys.getD i idR.d):=propext (by rw[and_iff_right h1.1];exact qV8 _ h2 h3 h1.2)
   simp only[e2,Jje]
  ·exact Bt.eq (by simp only[AV.b.injEq,decide_eq_decide];exact JeQ (by omega)) (List.append_nil h)
  ·exact Bt.eq (by simp only[AV.b.injEq,decide_eq_decide];exact iff_of_false h1 (Qhu h1)) (List.append_nil h)
 ·cases e
def YF9 (x y:EvF):Prop:=x.1.dot=y.1.dot/\x.2.1=y.2.1/\x.1.kind=y.1.kind/\x.1.repo=y.1.repo/\x.1.tag=y.1.tag/\x.1.id=y.1.id/\x.2.2=y.2.2
instance (x y:EvF):Decidable (YF9 x y):=inferInstanceAs (Decidable (_/\_/\_/\_/\_/\_/\_))
noncomputable def JOq:List AV->List AB->Option (AV×List AB)
 | [a,b],h=>(getE a).bind fun x=>(getE b).bind fun y=>(getS intR h x.deps.a).bind fun d=>(getS intR h y.deps.a).bind fun d'=>(getS idR h x.refs.a).bind fun f=>(getS idR h y.refs.a).bind fun f'=>some (.b (decide (YF9 (x,(d,f)) (y,(d',f')))),h)
 | _,_=>none
theorem KnC:Spec Tryz.prog 80 JOq:=by
 intro args h v h' e
 unfold JOq at e
 split at e
 ·obtain ⟨x,hx,e2⟩:=Kc6 e
  obtain ⟨y,hy,e3⟩:=Kc6 e2
  clear e e2
  subst hx hy
  obtain ⟨d,hd,e4⟩:=zZy e3
  obtain ⟨d',hd',e5⟩:=zZy e4
  obtain ⟨f,hf,e6⟩:=zZy e5
  obtain ⟨f',hf',e7⟩:=zZy e6
  clear e3 e4 e5 e6
  rw[Option.some.injEq,Prod.mk.injEq]at e7
  obtain ⟨rfl,rfl⟩:=e7
  refine FnAt.c (FnAt.run (by kernel_rfl) (T:=⟨[⟨18,XvL,fun _=>[]⟩,⟨142,KYm,fun _=>[]⟩],[]⟩) ⟨⟨X5R,QEc,trivial⟩,trivial⟩ Tryz.func80 sw80 fun ho hh=>?_)
  obtain ⟨a0,a1,a2,a3,a4,a5,a6⟩:=Zxc x
  obtain ⟨b0,b1,b2,b3,b4,b5,b6⟩:=Zxc y
  have w1:=Q7m x
  have w2:=Q7m y
  have l1:=YXj x
  have l2:=YXj y
  have c1:∀l:List AV,(AV.ag l).cells=l:=fun _=>rfl
  have t1:(evtF x).take 2=[.i .i64 x.dot.1,.i .i64 x.dot.2]:=rfl
  have t2:(evtF y).take 2=[.i .i64 y.dot.1,.i .i64 y.dot.2]:=rfl
  have i1:∀z:EvtA,((evtF z).drop 6).take 32=idR.f z.id:=fun z=>List.take_left' (idR.len z.id)
  have eqd:qN8 [.i,.i] [.i .i64 x.dot.1,.i .i64 x.dot.2] [.i .i64 y.dot.1,.i .i64 y.dot.2]=some (decide (x.dot=y.dot)):=zlA x.dot y.dot
  have g1:∀z,getS intR (h++z) x.deps.a=some d:=fun z=>(hd.app z).get
  have g2:∀z,getS intR (h++z) y.deps.a=some d':=fun z=>(hd'.app z).get
  have g3:∀z,getS idR (h++z) x.refs.a=some f:=fun z=>(hf.app z).get
  have g4:∀z,getS idR (h++z) y.refs.a=some f':=fun z=>(hf'.app z).get
  unfold w80
  rcases emG (x.dot=y.dot) with q1|q1
  case inr =>
   simp only[QhU,YqB,z16,KHD,Xq6,simprocAttr,CO.tmps,Opd.tmps,optT,XvL,KYm,QAQ,a0,a1,a2,a3,a4,a5,a6,b0,b1,b2,b3,b4,b5,b6,w1,w2,l1,l2,c1,t1,t2,i1,eqd,Qk1,g1,g2,g3,g4,q1,QQN,List.drop_zero,Option.bind_some,Option.map_some,if_true,if_false,oD,ne_eq,forall_const]
   exact Bt.dropB _ hh (by simp [YF9,q1])
  rcases emG (d=d') with q2|q2
  case inr =>
   simp only[QhU,YqB,z16,KHD,Xq6,simprocAttr,CO.tmps,Opd.tmps,optT,XvL,KYm,QAQ,a0,a1,a2,a3,a4,a5,a6,b0,b1,b2,b3,b4,b5,b6,w1,w2,l1,l2,c1,t1,t2,i1,eqd,Qk1,g1,g2,g3,g4,q1,q2,QQN,List.drop_zero,Option.bind_some,Option.map_some,if_true,if_false,oD,ne_eq,forall_const]
   exact Bt.dropB _ hh (by simp [YF9,q1,q2])
  rcases emG (x.kind=y.kind) with q3|q3
  case inr =>
   simp only[QhU,YqB,z16,KHD,Xq6,simprocAttr,CO.tmps,Opd.tmps,optT,XvL,KYm,QAQ,a0,a1,a2,a3,a4,a5,a6,b0,b1,b2,b3,b4,b5,b6,w1,w2,l1,l2,c1,t1,t2,i1,eqd,Qk1,g1,g2,g3,g4,q1,q2,q3,QQN,List.drop_zero,Option.bind_some,Option.map_some,if_true,if_false,oD,ne_eq,forall_const]
   exact Bt.dropB _ hh (by simp [YF9,q1,q2,q3])
  rcases emG (x.repo=y.repo) with q4|q4
  case inr =>
   simp only[QhU,YqB,z16,KHD,Xq6,simprocAttr,CO.tmps,Opd.tmps,optT,XvL,KYm,QAQ,a0,a1,a2,a3,a4,a5,a6,b0,b1,b2,b3,b4,b5,b6,w1,w2,l1,l2,c1,t1,t2,i1,eqd,Qk1,g1,g2,g3,g4,q1,q2,q3,q4,QQN,List.drop_zero,Option.bind_some,Option.map_some,if_true,if_false,oD,ne_eq,forall_const]
   exact Bt.dropB _ hh (by simp [YF9,q1,q2,q3,q4])
  rcases emG (x.tag=y.tag) with q5|q5
  case inr =>
   simp only[QhU,YqB,z16,KHD,Xq6,simprocAttr,CO.tmps,Opd.tmps,optT,XvL,KYm,QAQ,a0,a1,a2,a3,a4,a5,a6,b0,b1,b2,b3,b4,b5,b6,w1,w2,l1,l2,c1,t1,t2,i1,eqd,Qk1,g1,g2,g3,g4,q1,q2,q3,q4,q5,QQN,List.drop_zero,Option.bind_some,Option.map_some,if_true,if_false,oD,ne_eq,forall_const]
   exact Bt.dropB _ hh (by simp [YF9,q1,q2,q3,q4,q5])
  rcases emG (x.id=y.id) with q6|q6
  case inr =>
   simp only[QhU,YqB,z16,KHD,Xq6,simprocAttr,CO.tmps,Opd.tmps,optT,XvL,KYm,QAQ,a0,a1,a2,a3,a4,a5,a6,b0,b1,b2,b3,b4,b5,b6,w1,w2,l1,l2,c1,t1,t2,i1,eqd,Qk1,g1,g2,g3,g4,q1,q2,q3,q4,q5,q6,QQN,List.drop_zero,Option.bind_some,Option.map_some,if_true,if_false,oD,ne_eq,forall_const]
   exact Bt.dropB _ hh (by simp [YF9,q1,q2,q3,q4,q5,q6])
  simp only[QhU,YqB,z16,KHD,Xq6,simprocAttr,CO.tmps,Opd.tmps,optT,XvL,KYm,QAQ,a0,a1,a2,a3,a4,a5,a6,b0,b1,b2,b3,b4,b5,b6,w1,w2,l1,l2,c1,t1,t2,i1,eqd,Qk1,g1,g2,g3,g4,q1,q2,q3,q4,q5,q6,QQN,List.drop_zero,Option.bind_some,Option.map_some,if_true,if_false,oD,ne_eq,forall_const]
  exact Bt.dropB _ hh (by simp [YF9,q1,q2,q3,q4,q5,q6])
 ·cases e
end
section
set_option maxRecDepth 100000
set_option maxHeartbeats 8000000
abbrev Z8a:=(Int×Int)×List Int×Int×List UInt8×List UInt8×Dg×List Dg
noncomputable instance:DecidableEq Z8a:=fun _ _=>Classical.propDecidable _
def XYh (x:EvF):Z8a:=(x.1.dot,x.2.1,x.1.kind,x.1.repo,x.1.tag,x.1.id,x.2.2)
theorem J7V (x y:EvF):YF9 x y↔XYh x=XYh y:=by
 unfold YF9 XYh
 simp only[Prod.mk.injEq]
noncomputable def Q66:List AV->List AB->Option (AV×List AB)
 | [a,b],h=>(z47 h a).bind fun M=>(z47 h b).bind fun N=>if M.length<=1000000 then some (.b (decide (M.map XYh=N.map XYh)),h) else none
 | _,_=>none
theorem qgH:Spec Tryz.prog 28 Q66:=by
 intro args h v h' e
 unfold Q66 at e
 split at e
 ·rename_i a b
  obtain ⟨M,ha,e2⟩:=KiG e
  obtain ⟨N,hb,e3⟩:=KiG e2
  clear e e2
  split at e3
  case isFalse=>cases e3
  rename_i hl
  rw[Option.some.injEq,Prod.mk.injEq]at e3
  obtain ⟨rfl,rfl⟩:=e3
  refine FnAt.c (FnAt.frz0 fun hz=>?_)
  replace ha:=ha.frz
  replace hb:=hb.frz
  generalize h.map AB.freeze=h at *
  refine FnAt.run (by kernel_rfl) (T:=⟨[⟨80,JOq,fun _=>[]⟩],[]⟩) ⟨⟨KnC,trivial⟩,trivial⟩ Tryz.func28 sw28 fun ho hh=>?_
  simp only[XDA,Bool.and_eq_true]at ho
  have fa:=ha.fst.fx ho.1 (sz:=39) rfl
  have fb:=hb.fst.fx ho.2.1 (sz:=39) rfl
  rw[List.length_map]at fa fb
  have kx:(M.map XYh).length=M.length:=List.length_map _
  have ky:(N.map XYh).length=N.length:=List.length_map _
  unfold w28
  simp only[QhU,YqB,z16,Xq6,simprocAttr,fa,fb]
  refine zXM (S:=Nat) (fun i=>M.length-i) (fun i=>[a,b]++tp 3++[.b (decide (M.length=N.length/\(M.map XYh).take i=(N.map XYh).take i)),.i .i64 i]++tp 24) (fun i=>M.length=N.length->i<=M.length) 0 (fun _=>Nat.zero_le _) (by simp only[z16,Xq6,simprocAttr,List.take_zero]) fun i hi=>?_
  rcases emG (M.length=N.length/\(M.map XYh).take i=(N.map XYh).take i) with h1|h1
  ·obtain ⟨h1a,h1b⟩:=of_eq_true h1
   have hi':=hi h1a
   by_cases h2:i<M.length
   ·have h3:i<N.length:=by omega
    have e1:IntKind.i64.wrap ((i:Int)+1)=((i+1:Nat):Int):=ZWm (by unfold In64;omega)
    obtain ⟨x,hx⟩:∃x,M[i]=x:=⟨_,rfl⟩
    obtain ⟨y,hy⟩:∃y,N[i]=y:=⟨_,rfl⟩
    have xM:x∈M:=by rw[<-hx];exact List.getElem_mem h2
    have yN:y∈N:=by rw[<-hy];exact List.getElem_mem h3
    have gx:(M.map (·.1)).getD i evR.d=x.1:=by rw[List.getD_eq_getElem?_getD,List.getElem?_map,List.getElem?_eq_getElem h2,hx];rfl
    have gy:(N.map (·.1)).getD i evR.d=y.1:=by rw[List.getD_eq_getElem?_getD,List.getElem?_map,List.getElem?_eq_getElem h3,hy];rfl
    have dx:=ha.ev.d (x.1,x.2.1) (List.mem_map.2 ⟨x,xM,rfl⟩)
    have dy:=hb.ev.d (y.1,y.2.1) (List.mem_map.2 ⟨y,yN,rfl⟩)
    have rx:=ha.f x xM
    have ry:=hb.f y yN
    have ox:=ha.okf _ (List.mem_map.2 ⟨x,xM,rfl⟩)
    have oy:=hb.okf _ (List.mem_map.2 ⟨y,yN,rfl⟩)
    have ox2:∀c lo hi anc past,okL (qOk (h.length+c) lo hi anc past) (evtF x.1)=true:=fun c lo hi anc past=>KAd (fun i q=>YO3 (by have:=of_decide_eq_true q;omega)) _ ox
    have oy2:∀c lo hi anc past,okL (qOk (h.length+c) lo hi anc past) (evtF y.1)=true:=fun c lo hi anc past=>KAd (fun i q=>YO3 (by have:=of_decide_eq_true q;omega)) _ oy
    have ox1:∀c,okL (fun i=>decide (i<h.length+c)) (evtF x.1)=true:=fun c=>KAd (fun i q=>by simp only[decide_eq_true_eq]at q ⊢;omega) _ ox
    have oy1:∀c,okL (fun i=>decide (i<h.length+c)) (evtF y.1)=true:=fun c=>KAd (fun i q=>by simp only[decide_eq_true_eq]at q ⊢;omega) _ oy
    have gdx:∀L,getS intR (h++L) x.1.deps.a=some x.2.1:=fun L=>(dx.app L).get
    have gdy:∀L,getS intR (h++L) y.1.deps.a=some y.2.1:=fun L=>(dy.app L).get
    have grx:∀L,getS idR (h++L) x.1.refs.a=some x.2.2:=fun L=>(rx.app L).get
    have gry:∀L,getS idR (h++L) y.1.refs.a=some y.2.2:=fun L=>(ry.app L).get
    have g1:((i:Int)<(M.length:Int))=True:=eq_true (by omega)
    have h2':=eq_true h2
    have h3':=eq_true h3
    have c1:∀l:List AV,(AV.ag l).cells=l:=fun _=>rfl
    have e2:(M.length=N.length/\(M.map XYh).take (i+1)=(N.map XYh).take (i+1))=YF9 (x.1,x.2.1,x.2.2) (y.1,y.2.1,y.2.2):=propext (by
     rw[and_iff_right h1a,qV8 ((0,0),[],0,[],[],KDO,[]) (by rw[kx];exact h2) (by rw[ky];exact h3) h1b,J7V]
     rw[List.getD_eq_getElem?_getD,List.getD_eq_getElem?_getD,List.getElem?_map,List.getElem?_map,List.getElem?_eq_getElem h2,List.getElem?_eq_getElem h3,hx,hy]
     rfl)
    simp only[QhU,YqB,z16,KHD,Xq6,simprocAttr,CO.tmps,Opd.tmps,optT,fa,fb,h1,g1,h2',h3',e1,gx,gy,ZxE,JOq,Zz9,gdx,gdy,grx,gry,ox1,oy1,ox2,oy2,c1,oW hh hz,Option.bind_some,Option.map_some,oD,ne_eq,forall_const]
    refine ⟨i+1,fun _=>h2,by omega,?_⟩
    simp only[e2,Jje,tp_0,tp_s,List.cons_append,List.nil_append,K2n,JRI,QoW,and_true,true_and]
   ·have g1:((i:Int)<(M.length:Int))=False:=eq_false (by omega)
    simp only[QhU,YqB,z16,KHD,Xq6,simprocAttr,CO.tmps,Opd.tmps,optT,fa,fb,h1,g1,oD,ne_eq,forall_const]
    refine Bt.eq ?_ (List.append_nil h)
    have:M.map XYh=N.map XYh:=by
     have q1:(M.map XYh).take i=M.map XYh:=List.take_of_length_le (by rw[kx];omega)
     have q2:(N.map XYh).take i=N.map XYh:=List.take_of_length_le (by rw[ky];omega)
     rw[<-q1,<-q2]
     exact h1b
    rw[decide_eq_true this]
  ·have h1':=of_eq_false h1
   simp only[QhU,YqB,z16,KHD,Xq6,simprocAttr,CO.tmps,Opd.tmps,optT,fa,fb,h1,oD,ne_eq,forall_const]
   refine Bt.eq ?_ (List.append_nil h)
   have:¬M.map XYh=N.map XYh:=fun q=>h1' ⟨by rw[<-kx,q,ky],by rw[q]⟩
   rw[decide_eq_false this]
 ·cases e
end
section
set_option maxRecDepth 100000
set_option maxHeartbeats 8000000
theorem Bt.kill {P:Program} {p:Nat} {fr:List AV} {h:List AB} {i:Nat} {B:AB} (hi:h[i]?=some B):Bt P p fr h fr (h.set i .dead):=Bt.less hi (fun _ _ _ _ _ _=>trivial) (fun q=>by cases q) (fun q=>by cases q)
open Classical in
noncomputable def X6a {α:Type} (r:Row α):List AV->List AB->Option (AV×List AB)
 | [s],h=>match idOf s with
   | [id]=>if ∃l:List α,s=exS r id l/\h[id]?=some (exB r l)/\l.length<=1000000 then some (.tu [],h.set id .dead) else none
   | _=>none
 | _,_=>none
open Classical in
theorem XIr {α:Type} {r:Row α} {id:Nat} {l:List α} {h:List AB} (e:h[id]?=some (exB r l)) (hl:l.length<=1000000):X6a r [exS r id l] h=some (.tu [],h.set id .dead):=if_pos ⟨l,rfl,e,hl⟩
theorem Q3u:Spec Tryz.prog 21 (X6a intR):=by
 intro args h v h' e
 unfold X6a at e
 split at e
 ·rename_i s
  split at e
  ·rename_i id hid
   split at e
   ·rename_i hc
    cases e
    obtain ⟨l,rfl,h2,h3⟩:=hc
    have hlt:=(List.getElem?_eq_some_iff.1 h2).1
    by_cases h0:l.length=0
    ·have e0:exS intR id l=.sl id 0 0 0 none:=by unfold exS exK;rw[if_pos h0,h0]
     rw[e0]
     refine FnAt.c (FnAt.run (by kernel_rfl) (T:=⟨[],[]⟩) ⟨trivial,trivial⟩ Tryz.func21 sw21 fun ho hh=>?_)
     unfold w21
     simp only[QhU,YqB,z16,Xq6,simprocAttr]
     refine zXM (S:=Unit) (fun _=>0) (fun _=>[.sl id 0 0 0 none]++tp 1++[.i .i64 0]++tp 9) (fun _=>True) () trivial (by simp only[z16,Xq6,simprocAttr]) fun _ _=>?_
     simp only[z16,Xq6,simprocAttr,Int.natCast_zero,Int.lt_irrefl,false_implies,lenV]
     rw[List.append_nil]
     exact Bt.kill h2
    ·have e0:exS intR id l=.sl id 0 l.length l.length (some intR.sz):=by unfold exS exK;rw[if_neg h0]
     rw[e0]
     have hb:h[id]?=some (.blk true true (intR.cells l)):=h2
     refine FnAt.c (FnAt.run (by kernel_rfl) (T:=⟨[],[]⟩) ⟨trivial,trivial⟩ Tryz.func21 sw21 fun ho hh=>?_)
     unfold w21
     simp only[QhU,YqB,z16,Xq6,simprocAttr]
     refine q2X (S:=Nat) (fun k=>l.length-k) (fun k=>[.sl id 0 l.length l.length (some intR.sz)]++tp 1++[.i .i64 k]++tp 9) (fun _=>h.set id (topB l.length)++[]) (fun k=>k<=l.length) 0 (Nat.zero_le _) (Yeb hb (by simp [Row.cells_len,K39]) (by simp only[z16,Xq6,simprocAttr])) fun k hk=>?_
     by_cases hlk:k<l.length
     ·have g1:((k:Int)<(l.length:Int))=True:=eq_true (by omega)
      have e1:IntKind.i64.wrap ((k:Int)+1)=((k+1:Nat):Int):=ZWm (by unfold In64;omega)
      have e3:=JI7 (n:=l.length) hlt [] (0+k*1) (.i .i64 (-77)) rfl rfl (by omega)
      simp only[z16,Xq6,simprocAttr,lenV,g1,e1,iadV,hlk,e3,false_implies]
      exact ⟨k+1,by omega,by dsimp only;omega,YJ6 hlt _ _ (by simp;omega) (by simp only[z16,Xq6,simprocAttr])⟩
     ·have g1:((k:Int)<(l.length:Int))=False:=eq_false (by omega)
      simp only[z16,Xq6,simprocAttr,lenV,g1,false_implies]
      exact J11 hlt
   ·cases e
  ·cases e
 ·cases e
def KnI:List AV:=.i .u8 1::.i .u8 2::.i .u8 3::List.replicate 29 (.i .u8 0)
theorem Xuw:Spec Tryz.prog 86 (X6a idR):=by
 intro args h v h' e
 unfold X6a at e
 split at e
 ·rename_i s
  split at e
  ·rename_i id hid
   split at e
   ·rename_i hc
    cases e
    obtain ⟨l,rfl,h2,h3⟩:=hc
    have hlt:=(List.getElem?_eq_some_iff.1 h2).1
    by_cases h0:l.length=0
    ·have e0:exS idR id l=.sl id 0 0 0 none:=by unfold exS exK;rw[if_pos h0,h0]
     rw[e0]
     refine FnAt.c (FnAt.run (by kernel_rfl) (T:=⟨[],[]⟩) ⟨trivial,trivial⟩ Tryz.func86 sw86 fun ho hh=>?_)
     unfold w86
     simp only[QhU,YqB,z16,Xq6,simprocAttr]
     refine zXM (S:=Unit) (fun _=>0) (fun _=>[.sl id 0 0 0 none]++tp 1++[.i .i64 0]++tp 10) (fun _=>True) () trivial (by simp only[z16,Xq6,simprocAttr]) fun _ _=>?_
     simp only[z16,Xq6,simprocAttr,Int.natCast_zero,Int.lt_irrefl,false_implies,lenV]
     rw[List.append_nil]
     exact Bt.kill h2
    ·have e0:exS idR id l=.sl id 0 l.length l.length (some idR.sz):=by unfold exS exK;rw[if_neg h0]
     rw[e0]
     have hb:h[id]?=some (.blk true true (idR.cells l)):=h2
     refine FnAt.c (FnAt.run (by kernel_rfl) (T:=⟨[],[]⟩) ⟨trivial,trivial⟩ Tryz.func86 sw86 fun ho hh=>?_)
     unfold w86
     simp only[QhU,YqB,z16,Xq6,simprocAttr]
     refine q2X (S:=Nat) (fun k=>l.length-k) (fun k=>[.sl id 0 l.length l.length (some idR.sz)]++tp 1++[.i .i64 k]++tp 10) (fun _=>h.set id (topB (l.length*32))++[]) (fun k=>k<=l.length) 0 (Nat.zero_le _) (Yeb hb (idR.cells_len l) (by simp only[z16,Xq6,simprocAttr])) fun k hk=>?_
     by_cases hlk:k<l.length
     ·have g1:((k:Int)<(l.length:Int))=True:=eq_true (by omega)
      have e1:IntKind.i64.wrap ((k:Int)+1)=((k+1:Nat):Int):=ZWm (by have:l.length<=1000000:=h3;unfold In64;omega)
      have e3:=ZwE (n:=l.length*32) hlt [] (0+k*32) 32 KnI rfl rfl (by omega)
      simp only[KnI,QhU,YqB]at e3
      simp only[QhU,YqB,z16,Xq6,simprocAttr,lenV,g1,e1,iadV,hlk,e3,false_implies]
      exact ⟨k+1,by omega,by dsimp only;omega,YJ6 hlt _ _ (by simp only[List.length_cons,List.length_nil];omega) (by simp only[z16,Xq6,simprocAttr])⟩
     ·have g1:((k:Int)<(l.length:Int))=False:=eq_false (by omega)
      simp only[z16,Xq6,simprocAttr,lenV,g1,false_implies]
      exact J11 hlt
   ·cases e
  ·cases e
 ·cases e
def Z52 (h:List AB) (ids:List Nat):List AB:=ids.foldl (fun h i=>h.set i .dead) h
theorem QPw (h:List AB):∀ids,(Z52 h ids).length=h.length:=fun ids=>by
 unfold Z52
 induction ids generalizing h with
 | nil=>rfl
 | cons i ids ih=>rw[List.foldl_cons,ih,List.length_set]
theorem JwF (h:List AB) (a b:List Nat):Z52 h (a++b)=Z52 (Z52 h a) b:=List.foldl_append ..
theorem Xeh {h:List AB} {i:Nat}:∀ {ids:List Nat},i∉ids->(Z52 h ids)[i]?=h[i]?:=fun {ids}=>by
 unfold Z52
 induction ids generalizing h with
 | nil=>intro _;rfl
 | cons k ids ih =>
  intro hi
  rw[List.mem_cons,not_or]at hi
  rw[List.foldl_cons,ih hi.2,List.getElem?_set_ne (Ne.symm hi.1)]
theorem JiM {A B:List AB}:∀ {ids:List Nat},(∀i∈ids,A.length<=i)->∃C,Z52 (A++B) ids=A++C/\C.length=B.length:=fun {ids}=>by
 unfold Z52
 induction ids generalizing B with
 | nil=>intro _;exact ⟨B,rfl,rfl⟩
 | cons k ids ih =>
  intro h
  rw[List.foldl_cons,List.set_append_right _ _ (h k (List.mem_cons_self ..))]
  obtain ⟨C,h1,h2⟩:=ih (B:=B.set (k-A.length) .dead) fun i hi=>h i (List.mem_cons_of_mem _ hi)
  exact ⟨C,h1,by rw[h2,List.length_set]⟩
def eIds (es:List EvtA):List Nat:=es.flatMap fun e=>idOf e.deps.a++idOf e.refs.a
def ownE (h:List AB) (id:Nat) (es:List EvtA):Prop:=(id::eIds es).Nodup/\∀e∈es,(∃k d,e.deps.a=exS intR k d/\h[k]?=some (exB intR d)/\d.length<=1000000)/\∃k f,e.refs.a=exS idR k f/\h[k]?=some (exB idR f)/\f.length<=1000000
def seE:EvtA:=⟨(0,0),⟨.ns,rfl⟩,-7,[],[],KDO,⟨.ns,rfl⟩⟩
open Classical in
noncomputable def XCj:List AV->List AB->Option (AV×List AB)
 | [s],h=>(getS evR h s).bind fun es=>match idOf s with
   | []=>if s=.ns then some (.tu [],h) else none
   | [id]=>if s=apS evR id es/\es.length≠0/\es.length<=1000/\h[id]?=some (resN evR true es)/\ownE h id es then some (.tu [],(Z52 h (eIds es)).set id .dead) else none
   | _=>none
 | _,_=>none
theorem KCV:Spec Tryz.prog 32 XCj:=by
 intro args h v' h' e
 unfold XCj at e
 split at e
 ·rename_i s
  obtain ⟨es,hs,e2⟩:=zZy e
  clear e
  split at e2
  ·split at e2
   ·rename_i h0
    subst h0
    cases e2
    refine FnAt.c (FnAt.run (by kernel_rfl) (T:=⟨[],[]⟩) ⟨trivial,trivial⟩ Tryz.func32 sw32 fun ho hh=>?_)
    unfold w32
    simp only[QhU,YqB,z16,Xq6,simprocAttr]
    refine zXM (S:=Unit) (fun _=>0) (fun _=>[.ns]++tp 1++[.i .i64 0]++tp 22) (fun _=>True) () trivial (by simp only[z16,Xq6,simprocAttr]) fun _ _=>?_
    simp only[z16,Xq6,simprocAttr,Int.lt_irrefl,false_implies]
    exact Bt.eq rfl (List.append_nil h)
   ·cases e2
  ·rename_i id hid
   split at e2
   ·rename_i hcc
    obtain ⟨h1,h0,hlen,h2,hnd,hown⟩:=hcc
    have hlt:=(List.getElem?_eq_some_iff.1 h2).1
    have hS:apS evR id es=.sl id 0 es.length es.length (some 39):=by unfold apS;rw[if_neg h0];rfl
    rw[hS]at h1
    subst h1
    rw[Option.some.injEq,Prod.mk.injEq]at e2
    obtain ⟨rfl,rfl⟩:=e2
    refine FnAt.c (FnAt.run (by kernel_rfl) (T:=⟨[⟨21,X6a intR,fun _=>[]⟩,⟨86,X6a idR,fun _=>[]⟩],[]⟩) ⟨⟨Q3u,Xuw,trivial⟩,trivial⟩ Tryz.func32 sw32 fun ho hh=>?_)
    rw[List.nodup_cons]at hnd
    obtain ⟨hni,hnd⟩:=hnd
    unfold w32
    simp only[QhU,YqB,z16,Xq6,simprocAttr]
    refine q2X (S:=Nat) (fun i=>es.length-i) (fun i=>[.sl id 0 es.length es.length (some 39)]++tp 1++[.i .i64 i]++tp 22) (fun i=>(Z52 h (eIds (es.take i))).set id (resN evR true (List.replicate i seE++es.drop i))++[]) (fun i=>i<=es.length) 0 (Nat.zero_le _) ?_ fun i hi=>?_
    ·have:(Z52 h (eIds (es.take 0))).set id (resN evR true (List.replicate 0 seE++es.drop 0))=h:=Yy1 h2
     rw[this]
     refine Bt.wk ?_
     simp only[z16,Xq6,simprocAttr]
    by_cases g:i<es.length
    ·have g1:((i:Int)<(es.length:Int))=True:=eq_true (by omega)
     have g2:((0:Int)<=(i:Int)/\(i:Int)<(es.length:Int))=True:=eq_true (by omega)
     have e1:IntKind.i64.wrap ((i:Int)+1)=((i+1:Nat):Int):=ZWm (by unfold In64;omega)
     obtain ⟨x,hx⟩:∃x,es[i]=x:=⟨_,rfl⟩
     have hxe:x∈es:=by rw[<-hx];exact List.getElem_mem g
     obtain ⟨⟨kd,d,d1,d2,d3⟩,kf,f,f1,f2,f3⟩:=hown x hxe
     have htk:es.take (i+1)=es.take i++[x]:=by rw[List.take_succ_eq_append_getElem g,hx]
     have hsp:es=es.take i++x::es.drop (i+1):=by
      have:=List.take_append_drop i es
      rw[List.drop_eq_getElem_cons g,hx]at this
      exact this.symm
     have hids:eIds es=eIds (es.take i)++(kd::kf::eIds (es.drop (i+1))):=by
      conv=>lhs;rw[hsp]
      unfold eIds
      rw[List.flatMap_append,List.flatMap_cons,d1,f1]
      rfl
     have hid1:eIds (es.take (i+1))=eIds (es.take i)++[kd,kf]:=by
      rw[htk]
      unfold eIds
      rw[List.flatMap_append,List.flatMap_cons,d1,f1]
      rfl
     rw[hids]at hni hnd
     rw[List.nodup_append]at hnd
     obtain ⟨_,hn2,hn3⟩:=hnd
     rw[List.nodup_cons]at hn2
     have n1:kd∉eIds (es.take i):=fun q=>hn3 kd q kd (List.mem_cons_self ..) rfl
     have n2:kf∉eIds (es.take i):=fun q=>hn3 kf q kf (List.mem_cons_of_mem _ (List.mem_cons_self ..)) rfl
     have n3:kd≠kf:=fun q=>hn2.1 (by rw[q];exact List.mem_cons_self ..)
     have n4:id≠kd:=fun q=>hni (by rw[q];exact List.mem_append_right _ (List.mem_cons_self ..))
     have n5:id≠kf:=fun q=>hni (by rw[q];exact List.mem_append_right _ (List.mem_cons_of_mem _ (List.mem_cons_self ..)))
     have n6:id∉eIds (es.take i):=fun q=>hni (List.mem_append_left _ q)
     obtain ⟨L,hL⟩:∃L,List.replicate i seE++es.drop i=L:=⟨_,rfl⟩
     have hLl:L.length=es.length:=by rw[<-hL,List.length_append,List.length_replicate,List.length_drop];omega
     have hLi:L.getD i evR.d=x:=by
      rw[<-hL,List.getD_eq_getElem?_getD,List.getElem?_append_right (by simp),List.length_replicate,Nat.sub_self,List.drop_eq_getElem_cons g,hx]
      rfl
     have hLs:L.set i seE=List.replicate (i+1) seE++es.drop (i+1):=by
      rw[<-hL,List.drop_eq_getElem_cons g,List.set_append_right _ _ (by simp),List.length_replicate,Nat.sub_self,List.set_cons_zero,List.replicate_succ',List.append_assoc]
      rfl
     obtain ⟨K,hK⟩:∃K,Z52 h (eIds (es.take i))=K:=⟨_,rfl⟩
     have hKl:K.length=h.length:=by rw[<-hK,QPw]
     have kd2:K[kd]?=some (exB intR d):=by rw[<-hK,Xeh n1,d2]
     have kf2:K[kf]?=some (exB idR f):=by rw[<-hK,Xeh n2,f2]
     have iA:∀(t:Int) ,iadV 39 (.sl id 0 es.length es.length (some 39)) (.i .i64 t)=if 0<=t/\t<(es.length:Int) then some (elP 39 (.sl id 0 es.length es.length (some 39)) t.toNat 0) else none:=fun t=>XCX ..
     have hlK:id<K.length:=by omega
     have r0:Rd evR (K.set id (resN evR true L)) (.sl id 0 es.length es.length (some 39)) L:=by
      have:=qFX (r:=evR) (H:=K.set id (resN evR true L)) (id:=id) (m:=true) (l:=L) (List.getElem?_set_self hlK) (by unfold maxLen;omega)
      have e3:apS evR id L=.sl id 0 es.length es.length (some 39):=by unfold apS;rw[hLl,if_neg h0];rfl
      rwa [e3]at this
     have r1:Rd evR ((K.set id (resN evR true L)).set kd .dead) (.sl id 0 es.length es.length (some 39)) L:=JkI r0 (fun k hk=>by rw[show k=id from List.mem_singleton.1 hk];exact n4) .dead
     have fA:∀o,fadV o (elP 39 (.sl id 0 es.length es.length (some 39)) i 0)=some (elP 39 (.sl id 0 es.length es.length (some 39)) i (0+o)):=fun o=>r0.fad o _ i 0 (by omega)
     have l0:ldV (K.set id (resN evR true L)++[]) none (elP 39 (.sl id 0 es.length es.length (some 39)) i 2)=some (exS intR kd d):=by
      rw[List.append_nil]
      have:=r0.ld i 2 (by omega) (by decide)
      rw[hLi]at this
      exact this.trans (by rw[<-d1];rfl)
     have l1:ldV ((K.set id (resN evR true L)).set kd .dead) none (elP 39 (.sl id 0 es.length es.length (some 39)) i 38)=some (exS idR kf f):=by
      have:=r1.ld i 38 (by omega) (by decide)
      rw[hLi]at this
      exact this.trans (by rw[<-f1];exact (Zxc x).2.2.2.2.2.2)
     have o0:X6a intR [exS intR kd d] (K.set id (resN evR true L)++[])=some (.tu [],(K.set id (resN evR true L)).set kd .dead):=by
      rw[List.append_nil]
      exact XIr (by rw[List.getElem?_set_ne n4,kd2]) d3
     have o1:X6a idR [exS idR kf f] ((K.set id (resN evR true L)).set kd .dead)=some (.tu [],((K.set id (resN evR true L)).set kd .dead).set kf .dead):=XIr (by rw[List.getElem?_set_ne n3,List.getElem?_set_ne n5,kf2]) f3
     have st:stV (((K.set id (resN evR true L)).set kd .dead).set kf .dead) (some 39) (elP 39 (.sl id 0 es.length es.length (some 39)) i 0) (.ag [.i .i64 0,.i .i64 0,.ns,.i .i64 (-7),.s [],.s [],oZ,oZ,oZ,oZ,oZ,oZ,oZ,oZ,oZ,oZ,oZ,oZ,oZ,oZ,oZ,oZ,oZ,oZ,oZ,oZ,oZ,oZ,oZ,oZ,oZ,oZ,oZ,oZ,oZ,oZ,oZ,oZ,.ns])=some (((K.set kd .dead).set kf .dead).set id (resN evR true (L.set i seE))):=by
      have hcm:((K.set id (resN evR true L)).set kd .dead).set kf .dead=oB ((K.set kd .dead).set kf .dead) id (resN evR true L)++[]:=by
       rw[List.append_nil]
       unfold oB
       rw[List.set_comm _ _ n4,List.set_comm _ _ n5]
      have:=Zaz (h:=(K.set kd .dead).set kf .dead) (r:=evR) (sz:=39) (id:=id) (n:=es.length) (j:=i) (L:=L) (by rw[List.length_set,List.length_set];exact hlK) hLl g rfl (y:=seE) (Q7m _) []
      rw[hcm]
      rw[List.append_nil]at this ⊢
      exact this.trans (by rw[List.append_nil];rfl)
     rw[hK,hL]
     simp only[QhU,YqB,z16,Xq6,simprocAttr,lenV,st,e1,g1,g2,iA,fA,l0,l1,o0,o1,Int.toNat_natCast,Option.bind_some,Option.map_some,if_true,oD,ne_eq,forall_const]
     refine ⟨i+1,g,by dsimp only;omega,?_⟩
     dsimp only
     rw[hid1,JwF,hK,<-hLs]
     show Bt _ _ _ _ _ (((K.set kd .dead).set kf .dead).set id (resN evR true (L.set i seE))++[])
     rw[List.append_nil]
     refine Bt.wk ?_
     simp only[z16,Xq6,simprocAttr]
    ·have g1:((i:Int)<(es.length:Int))=False:=eq_false (by omega)
     have hiM:i=es.length:=by omega
     subst hiM
     rw[List.take_length,List.drop_length]
     simp only[QhU,YqB,z16,Xq6,simprocAttr,lenV,g1,oD,ne_eq,forall_const]
     rw[List.append_nil]
     have:=Bt.kill (P:=Tryz.prog) (p:=h.length) (fr:=[.tu []]) (h:=(Z52 h (eIds es)).set id (resN evR true (List.replicate es.length seE++[]))) (i:=id) (List.getElem?_set_self (by rw[QPw];exact hlt))
     rw[List.set_set]at this
     exact this
   ·cases e2
  ·cases e2
 ·cases e
end
section
set_option maxRecDepth 100000
set_option maxHeartbeats 8000000
theorem Rd.pre {α:Type} {r:Row α} {h:List AB} {s:AV} {l:List α} (e:Rd r h s l) (hc:s.capOk=true) {i:Nat} (hi:i<=l.length):∃t,(∀sz,slL sz s none (some (.i .i64 (i:Int))) none=some t)/\Rd r h t (l.take i)/\∀q,s.ok q=true->t.ok q=true:=by
 have hlen:=e.len
 have h1:=e.1
 have h2:=e.2
 cases s with
 | ns =>
  simp only[lenV,Option.some.injEq]at hlen
  have l0:l=[]:=List.eq_nil_of_length_eq_zero (by omega)
  subst l0
  have i0:i=0:=by simpa using hi
  subst i0
  exact ⟨.ns,fun sz=>by simp [slL,bnd],⟨rfl,Nat.zero_le _⟩,fun q hq=>hq⟩
 | se =>
  simp only[lenV,Option.some.injEq]at hlen
  have l0:l=[]:=List.eq_nil_of_length_eq_zero (by omega)
  subst l0
  have i0:i=0:=by simpa using hi
  subst i0
  exact ⟨.se,fun sz=>by simp [slL,bnd],⟨rfl,Nat.zero_le _⟩,fun q hq=>hq⟩
 | sl id off n cap k =>
  have hn:n=l.length:=by
   simp only[lenV,Option.some.injEq]at hlen
   omega
  subst hn
  have hcap:l.length<=cap:=by simpa [AV.capOk] using hc
  refine ⟨.sl id off i cap k,fun sz=>?_,⟨?_,by rw[List.length_take];omega⟩,fun q hq=>?_⟩
  ·simp only[slL,bnd,Option.map_some,if_true]
   rw[if_pos (by omega)]
   simp
  ·by_cases i0:i=0
   ·subst i0
    rfl
   ·have l0:¬l.length=0:=by omega
    simp only[rdS,if_neg l0]at h1
    simp only[rdS,if_neg i0]
    obtain ⟨xs,hxs,h1⟩:=oQ.1 h1
    split at h1
    ·rename_i hle
     rw[Option.some.injEq,Prod.mk.injEq]at h1
     have hx:=h1.2
     have hle2:i*r.sz<=l.length*r.sz:=Nat.mul_le_mul_right _ hi
     rw[hxs,Option.bind_some,if_pos (by omega)]
     have hx2:(xs.drop off).take (l.length*r.sz)=r.cells l:=hx
     have:=r.cells_take l i
     rw[<-hx2,List.take_take,Nat.min_eq_left hle2]at this
     rw[this,List.length_take,Nat.min_eq_left hi]
    ·cases h1
  ·simp only[AV.ok,Bool.or_eq_true,Bool.and_eq_true,Nat.beq_eq]at hq ⊢
   rcases hq with ⟨⟨q1,q2⟩,q3⟩|q
   ·exact .inl ⟨⟨by omega,q2⟩,q3⟩
   ·exact .inr q
 | _=>simp [rdS]at h1
noncomputable def zQi:List AV->List AB->Option (AV×List AB)
 | [s,.ag [.i .i64 a,.i .i64 b]],h=>(getS evR h s).bind fun es=>some (.b (decide ((a,b)∈es.map (·.dot))),h)
 | _,_=>none
theorem Xbe:Spec Tryz.prog 69 zQi:=by
 intro args h v h' e
 unfold zQi at e
 split at e
 ·rename_i s a b
  obtain ⟨es,hs,e⟩:=zZy e
  cases e
  refine FnAt.c (FnAt.frz0 fun hz=>?_)
  replace hs:=hs.frz
  generalize h.map AB.freeze=h at *
  refine FnAt.run (by kernel_rfl) (T:=⟨[],[]⟩) ⟨trivial,trivial⟩ Tryz.func69 sw69 fun ho hh=>?_
  simp only[XDA,Bool.and_eq_true]at ho
  have f1:=hs.fx ho.1 (sz:=39) rfl
  have so:∀c,s.ok (fun i=>decide (i<h.length+c))=true:=fun c=>AV.ok_mono (fun i q=>by simp only[decide_eq_true_eq]at q ⊢;omega) s ho.1
  have sr:∀sel,Wk (s.ren (selN h.length sel)) s:=fun sel=>Wk.ren (fun i hi=>ZiE hi) ho.1
  unfold w69
  simp only[QhU,YqB,z16,KHD,Xq6,simprocAttr,CO.tmps,Opd.tmps,optT,f1]
  refine q2X (S:=Nat) (fun i=>es.length-i) (fun i=>[s]++tp 2++[.p (h.length+0) 0]++tp 1++[.i .i64 (i:Int)]++tp 13) (fun _=>h++[.blk true true [.i .i64 a,.i .i64 b]]) (fun i=>i<=es.length/\(a,b)∉(es.take i).map (·.dot)) 0 ⟨Nat.zero_le _,by simp⟩ ?_ fun i hi=>?_
  ·refine Bt.wk ?_
   simp only[z16,Xq6,simprocAttr]
  obtain ⟨hi,hni⟩:=hi
  by_cases g:i<es.length
  ·have g':((i:Int)<(es.length:Int))=True:=eq_true (by omega)
   have e1:IntKind.i64.wrap ((i:Int)+1)=((i+1:Nat):Int):=ZWm (by have:=hs.2;unfold maxLen at this;unfold In64;omega)
   have htk:es.take (i+1)=es.take i++[es[i]]:=List.take_succ_eq_append_getElem g
   have hgd:es.getD i evR.d=es[i]:=by rw[List.getD_eq_getElem?_getD,List.getElem?_eq_getElem g];rfl
   have hin:es[i]∈es:=List.getElem_mem g
   obtain ⟨x,hx⟩:∃x,es[i]=x:=⟨_,rfl⟩
   rw[hx]at htk hgd hin
   have ldp:∀L,ldV (h++L) (some 2) (elP 39 s i 0)=some (.ag [.i .i64 x.dot.1,.i .i64 x.dot.2]):=fun L=>by
    rw[ZRI (hs.app L) (sz:=39) rfl i 0 2 g (by decide),hgd]
    rfl
   have g2:=eq_true g
   have eqd:qN8 [.i,.i] [.i .i64 x.dot.1,.i .i64 x.dot.2] [.i .i64 a,.i .i64 b]=some (decide (x.dot=(a,b))):=zlA x.dot (a,b)
   rcases emG (x.dot=(a,b)) with q|q
   ·have hv:(a,b)∈es.map (·.dot):=List.mem_map.2 ⟨x,hin,of_eq_true q⟩
    rw[decide_eq_true hv]
    simp only[QhU,YqB,z16,KHD,Xq6,simprocAttr,CO.tmps,Opd.tmps,optT,f1,g',g2,e1,ldp,eqd,q,QQN,oW hh hz,Option.bind_some,Option.map_some,oD,ne_eq,forall_const]
    exact Bt.dropB _ hh rfl
   ·simp only[QhU,YqB,z16,KHD,Xq6,simprocAttr,CO.tmps,Opd.tmps,optT,f1,g',g2,e1,ldp,eqd,q,QQN,oW hh hz,Option.bind_some,Option.map_some,oD,ne_eq,forall_const]
    refine ⟨i+1,⟨g,?_⟩,by dsimp only;omega,?_⟩
    ·rw[htk,List.map_append,List.mem_append,not_or]
     exact ⟨hni,fun z=>of_eq_false q (List.mem_singleton.1 z).symm⟩
    ·refine Bt.wk ?_
     simp only[z16,Xq6,simprocAttr]
  ·have g':((i:Int)<(es.length:Int))=False:=eq_false (by omega)
   have hv:¬(a,b)∈es.map (·.dot):=by rw[List.take_of_length_le (by omega)]at hni;exact hni
   rw[decide_eq_false hv]
   simp only[QhU,YqB,z16,KHD,Xq6,simprocAttr,CO.tmps,Opd.tmps,optT,f1,g',oD,ne_eq,forall_const]
   exact Bt.dropB _ hh rfl
 ·cases e
theorem qPY:Spec Tryz.prog 68 QeF:=by
  intro args h v h' e
  unfold QeF at e
  split at e
  · obtain ⟨x,hx,e2⟩:=Kc6 e
    clear e
    subst hx
    cases e2
    refine FnAt.c (FnAt.run (by kernel_rfl) (T:=⟨[],[]⟩) ⟨trivial,trivial⟩ Tryz.func68 sw68 fun ho hh=>?_)
    obtain ⟨a0,a1,a2,a3,a4,a5,a6⟩:=Zxc x
    have w1:=Q7m x
    have l1:=YXj x
    have c1:∀l:List AV,(AV.ag l).cells=l:=fun _=>rfl
    unfold w68
    rcases emG (x.kind=3) with q1|q1 <;> rcases emG (x.kind=4) with q2|q2 <;>
      (simp only[QhU,YqB,z16,KHD,Xq6,simprocAttr,CO.tmps,Opd.tmps,optT,a3,w1,l1,c1,q1,q2,if_true,oD,ne_eq,forall_const]
       exact Bt.dropB _ hh (by simp [zXI,q1,q2]))
  · cases e
def KH4 (a b:Int×Int):Prop:=a.1<b.1\/a.1=b.1/\a.2<b.2
instance (a b:Int×Int):Decidable (KH4 a b):=inferInstanceAs (Decidable (_\/_))
def YHJ:List AV->List AB->Option (AV×List AB)
 | [.ag [.i .i64 a,.i .i64 b],.ag [.i .i64 c,.i .i64 d]],h=>some (.b (decide (KH4 (a,b) (c,d))),h)
 | _,_=>none
theorem QVa:Spec Tryz.prog 91 YHJ:=by
  intro args h v h' e
  unfold YHJ at e
  split at e
  · rename_i a b c d
    cases e
    refine FnAt.c (FnAt.run (by kernel_rfl) (T:=⟨[],[]⟩) ⟨trivial,trivial⟩ Tryz.func91 sw91 fun ho hh=>?_)
    unfold w91
    rcases emG (a<c) with q1|q1 <;> rcases emG (a=c) with q2|q2 <;> rcases emG (b<d) with q3|q3 <;>
      (simp only[QhU,YqB,z16,KHD,Xq6,simprocAttr,CO.tmps,Opd.tmps,optT,q1,q2,q3,if_true,oD,ne_eq,forall_const]
       exact Bt.dropB _ hh (by simp [KH4,q1,q2,q3]))
  · cases e
noncomputable def YB2 (m:List EvD) (d:Int×Int) (l:List Int):Bool:=match m.find? fun e=>decide (e.1.dot=d) with
 | none=>false
 | some e=>leqN e.2 l e.2.length
noncomputable def QSt:List AV->List AB->Option (AV×List AB)
 | [s,.ag [.i .i64 a,.i .i64 b],t],h=>(YgZ h s).bind fun m=>(getS intR h t).bind fun l=>if ∀e∈m,e.2.length<=1000000 then some (.b (YB2 m (a,b) l),h) else none
 | _,_=>none
theorem XJX:Spec Tryz.prog 70 QSt:=by
 intro args h v h' e
 unfold QSt at e
 split at e
 ·rename_i s a b t
  obtain ⟨m,hs,e⟩:=KdM e
  obtain ⟨l,ht,e⟩:=zZy e
  split at e
  case isFalse=>cases e
  rename_i hl
  cases e
  refine FnAt.c (FnAt.frz0 fun hz=>?_)
  replace hs:=hs.frz
  replace ht:=ht.frz
  generalize h.map AB.freeze=h at *
  refine FnAt.run (by kernel_rfl) (T:=⟨[⟨135,qlX,fun _=>[]⟩],[]⟩) ⟨⟨Zli,trivial⟩,trivial⟩ Tryz.func70 sw70 fun ho hh=>?_
  simp only[XDA,Bool.and_eq_true]at ho
  have f1:=hs.s.fx ho.1 (sz:=39) rfl
  have f2:=ht.fx ho.2.2.1 (sz:=1) rfl
  rw[List.length_map]at f1
  have gt:∀L,getS intR (h++L) t=some l:=fun L=>(ht.app L).get
  unfold w70
  simp only[QhU,YqB,z16,KHD,Xq6,simprocAttr,CO.tmps,Opd.tmps,optT,f1,f2]
  refine q2X (S:=Nat) (fun i=>m.length-i) (fun i=>[s]++tp 1++[t]++tp 1++[.p (h.length+0) 0]++tp 2++[.i .i64 (i:Int)]++tp 20) (fun _=>h++[.blk true true [.i .i64 a,.i .i64 b]]) (fun i=>i<=m.length/\YB2 m (a,b) l=YB2 (m.drop i) (a,b) l) 0 ⟨Nat.zero_le _,rfl⟩ ?_ fun i hi=>?_
  ·refine Bt.wk ?_
   simp only[z16,Xq6,simprocAttr]
  obtain ⟨hi,hni⟩:=hi
  rw[hni]
  by_cases g:i<m.length
  ·have g':((i:Int)<(m.length:Int))=True:=eq_true (by omega)
   have e1:IntKind.i64.wrap ((i:Int)+1)=((i+1:Nat):Int):=ZWm (by have:=hs.s.2;rw[List.length_map]at this;unfold maxLen at this;unfold In64;omega)
   have hgd:(m.map (·.1)).getD i evR.d=(m[i]).1:=by rw[List.getD_eq_getElem?_getD,List.getElem?_map,List.getElem?_eq_getElem g];rfl
   have hin:m[i]∈m:=List.getElem_mem g
   have hdr:m.drop i=m[i]::m.drop (i+1):=List.drop_eq_getElem_cons g
   obtain ⟨x,hx⟩:∃x,m[i]=x:=⟨_,rfl⟩
   rw[hx]at hgd hin hdr
   rw[hdr]at hni ⊢
   have hlm:i<(m.map (·.1)).length:=by rw[List.length_map];exact g
   have ldp:∀L,ldV (h++L) (some 2) (elP 39 s i 0)=some (.ag [.i .i64 x.1.dot.1,.i .i64 x.1.dot.2]):=fun L=>by
    rw[ZRI (hs.s.app L) (sz:=39) rfl i 0 2 hlm (by decide),hgd]
    rfl
   have ld2:∀L,ldV (h++L) none (elP 39 s i 2)=some x.1.deps.a:=fun L=>by
    have q:=(hs.s.app L).ld i 2 hlm (by decide)
    rw[hgd]at q
    exact q
   have gd:∀L,getS intR (h++L) x.1.deps.a=some x.2:=fun L=>((hs.d x hin).app L).get
   have hb:=eq_true (hl x hin)
   have h2e:(evR.f ((m.map (·.1)).getD i evR.d))[2]?=some x.1.deps.a:=by rw[hgd];rfl
   have os:=x.1.deps.h
   have g2:=eq_true g
   have eqd:qN8 [.i,.i] [.i .i64 x.1.dot.1,.i .i64 x.1.dot.2] [.i .i64 a,.i .i64 b]=some (decide (x.1.dot=(a,b))):=zlA x.1.dot (a,b)
   rcases emG (x.1.dot=(a,b)) with q|q
   ·have hv:YB2 (x::m.drop (i+1)) (a,b) l=leqN x.2 l x.2.length:=by
     unfold YB2
     rw[List.find?_cons_of_pos (by simpa using of_eq_true q)]
    rw[hv]
    simp only[QhU,YqB,z16,KHD,Xq6,simprocAttr,CO.tmps,Opd.tmps,optT,f1,f2,g',g2,e1,ldp,ld2,h2e,gd,gt,hb,qlX,eqd,q,QQN,oW hh hz,Option.bind_some,Option.map_some,if_true,oD,ne_eq,forall_const]
    exact Bt.dropB _ hh rfl
   ·have hv:YB2 (x::m.drop (i+1)) (a,b) l=YB2 (m.drop (i+1)) (a,b) l:=by
     unfold YB2
     rw[List.find?_cons_of_neg (by simpa using of_eq_false q)]
    rw[hv]at hni ⊢
    simp only[QhU,YqB,z16,KHD,Xq6,simprocAttr,CO.tmps,Opd.tmps,optT,f1,f2,g',g2,e1,ldp,eqd,q,QQN,oW hh hz,Option.bind_some,Option.map_some,oD,ne_eq,forall_const]
    refine ⟨i+1,⟨g,by first|rfl|exact hni⟩,by dsimp only;omega,?_⟩
    refine Bt.wk ?_
    simp only[z16,Xq6,simprocAttr]
  ·have g':((i:Int)<(m.length:Int))=False:=eq_false (by omega)
   rw[List.drop_eq_nil_of_le (by omega)]
   simp only[QhU,YqB,z16,KHD,Xq6,simprocAttr,CO.tmps,Opd.tmps,optT,f1,f2,g',oD,ne_eq,forall_const]
   exact Bt.dropB _ hh rfl
 ·cases e
def Qs7 (x:EvtA) (l:List Int) (n:Int):Prop:=1<=x.dot.1/\x.dot.1<=n/\1<=x.dot.2/\x.dot.2<=1048576/\(l.length:Int)=n/\(∀y∈l,0<=y/\y<=1048576)/\l.getD (x.dot.1-1).toNat 0=x.dot.2-1
noncomputable instance (x:EvtA) (l:List Int) (n:Int):Decidable (Qs7 x l n):=Classical.propDecidable _
noncomputable def Khb:List AV->List AB->Option (AV×List AB)
 | [a,.i .i64 n],h=>(getE a).bind fun x=>(getS intR h x.deps.a).bind fun l=>if n<=1000 then some (.b (decide (Qs7 x l n)),h) else none
 | _,_=>none
end
end Go.Proofs.YtebcngelgdpbjaaGreat
