/- Part 32 of what the laws' proofs rest on. No condition. -/
import Derived.Test.YtekeoichmdiiiaaGreatTh31
set_option linter.all false
namespace Go.Proofs.YtekeoichmdiiiaaGreat
section
set_option maxRecDepth 100000
set_option maxHeartbeats 8000000
def XEh:List AV->List AB->Option (AV×List AB)
 | [.i .i64 n],h=>some (.b (decide (n<0)),h)
 | _,_=>none
theorem K9p:Spec Tryz.prog 303 XEh:=by
 intro args h v h' e
 unfold XEh at e
 split at e
 ·cases e
  refine FnAt.c (FnAt.run (by kernel_rfl) (T:=⟨[],[]⟩) ⟨trivial,trivial⟩ Tryz.func303 X97 fun ho hh=>?_)
  unfold w303
  simp only[z49,Qs3,XtK,K1H,JS3,simprocAttr,CO.tmps,Opd.tmps,optT]
  exact Bt.dropB _ hh rfl
 ·cases e
open Classical in
noncomputable def Q17:List AV->List AB->Option (AV×List AB)
 | [s,.f (.func f) [] []],h=>if f=303 then (getS intR h s).bind fun l=>some (.b (decide (∃x∈l,x<0)),h) else none
 | _,_=>none
theorem ZEK:Spec Tryz.prog 292 Q17:=by
 intro args h v h' e
 unfold Q17 at e
 split at e
 ·rename_i s f
  split at e
  ·rename_i hf
   subst hf
   obtain ⟨l,hs,e2⟩:=Qk0 e
   cases e2
   have:=qAy (T:=⟨[⟨303,XEh,fun _=>[]⟩],[]⟩) ⟨⟨K9p,trivial⟩,trivial⟩ (f:=.f (.func 303) [] []) (p:=fun n=>n<0) (fun x H=>rfl) hs
   exact this
  ·cases e
 ·cases e
noncomputable def qjK (h:List AB) (ty:TypeId) (v:AV):Option (List UInt8×Bool):=
 if ty=40 then (match v with
  | .ag [.i .i64 a,.i .i64 b]=>if In64 a/\In64 b then some (qkv a++qkv b,decide (0<=a/\0<=b)) else none
  | _=>none)
 else if ty=22 then (getS intR h v).bind fun l=>open Classical in if l.length<=100000/\∀x∈l,In64 x then some (qkv l.length++qBw l,decide (¬ ∃x∈l,x<0)) else none
 else none
theorem Y3a {h:List AB} {ty:TypeId} {v:AV} {p:List UInt8×Bool} (L:List AB) (e:qjK h ty v=some p):qjK (h++L) ty v=some p:=by
 unfold qjK at e ⊢
 split at e
 ·rename_i q
  rw[if_pos q]
  exact e
 ·rename_i q
  rw[if_neg q]
  split at e
  ·rename_i q2
   rw[if_pos q2]
   obtain ⟨l,hl,e2⟩:=Qk0 e
   rw[(hl.app L).get,Option.bind_some]
   exact e2
  ·cases e
theorem Q3J (l:List Int):(qBw l).length<=9*l.length:=by
 induction l with
 | nil=>simp [qBw]
 | cons a l ih =>
  have:=zHu a
  have e:qBw (a::l)=qkv a++qBw l:=by simp [qBw]
  rw[e,List.length_append,List.length_cons]
  omega
theorem J1M {h:List AB} {ty:TypeId} {v:AV} {p:List UInt8×Bool} (e:qjK h ty v=some p):p.1.length≠0/\p.1.length<=1000009:=by
 unfold qjK at e
 split at e
 ·split at e
  ·rename_i a b
   split at e
   ·cases e
    have h1:=zHu a
    have h2:=zHu b
    have h3:=YHu a
    dsimp only
    rw[List.length_append]
    omega
   ·cases e
  ·cases e
 ·split at e
  ·obtain ⟨l,hl,e2⟩:=Qk0 e
   split at e2
   ·rename_i hc
    cases e2
    have h1:=zHu l.length
    have h2:=Q3J l
    have h3:=YHu l.length
    dsimp only
    rw[List.length_append]
    omega
   ·cases e2
  ·cases e
noncomputable def K4c:List AV->List AB->Option (AV×List AB)
 | [.ns,.ifc ty v],h=>(qjK h ty v).map fun p=>(.tu [apS X0d h.length p.1,.b p.2],h++[resB X0d true p.1])
 | _,_=>none
theorem JQP (h:List AB) {n:Int} (hn:In64 n):qPh [.ns,.ifc 3 (.i .i64 n)] h=some (.tu [apS X0d h.length (qkv n),.b (decide (0<=n))],h++[resB X0d true (qkv n)]):=by
 have:=JZH (h:=h) (s:=.ns) (bs:=[]) (.inl ⟨rfl,rfl⟩) (by simp) hn
 simpa [qBs] using this
theorem Kne (h L:List AB) (k:Nat) {bs:List UInt8} {n:Int} (hk:L[k]?=some (resB X0d true bs)) (h0:bs.length≠0) (hb:bs.length<=100000000) (hn:In64 n):qPh [apS X0d (h.length+k) bs,.ifc 3 (.i .i64 n)] (h++L)=some (.tu [apS X0d (h.length+L.length) (bs++qkv n),.b (decide (0<=n))],h++(L.set k .dead++[resB X0d true (bs++qkv n)])):=by
 have:=JZH (h:=h++L) (s:=apS X0d (h.length+k) bs) (bs:=bs) (.inr ⟨h.length+k,rfl,h0,by rw[JNS];exact hk⟩) hb hn
 rw[this,Keb _ h0,qBs,List.length_append,List.set_append_right _ _ (by omega),Nat.add_sub_cancel_left,List.append_assoc]
theorem Y3m:Spec Tryz.prog 257 K4c:=by
 intro args h v h' e
 unfold K4c at e
 split at e
 ·rename_i ty x
  obtain ⟨p,hp,e⟩:=Option.map_eq_some_iff.1 e
  cases e
  unfold qjK at hp
  split at hp
  ·rename_i ht
   subst ht
   split at hp
   ·rename_i a b
    split at hp
    ·rename_i hn
     cases hp
     dsimp only
     refine FnAt.c (FnAt.frz fun hz=>?_)
     rw[<-(List.length_map _:(h.map AB.freeze).length=h.length)]
     generalize h.map AB.freeze=h at *
     refine FnAt.run (by kernel_rfl) (T:=⟨[⟨257,qPh,fun _=>[]⟩],[]⟩) ⟨⟨QnI,trivial⟩,trivial⟩ Tryz.func257 YvR fun ho hh=>?_
     have h1:=zHu a
     have fa:=fun H=>JQP H (n:=a) hn.1
     have fb:=Kne h [.blk true true [.i .i64 a,.i .i64 b],resB X0d true (qkv a)] 1 (bs:=qkv a) (n:=b) rfl (YHu a) (by omega) hn.2
     have hd:(decide (0<=a/\0<=b))=(if 0<=a then decide (0<=b) else false):=by by_cases q:0<=a <;> simp [q]
     have ao:∀X,(apS X0d h.length X).ok (fun i=>decide (i<h.length+1))=true:=fun X=>JRX _ _ _ (by simp)
     unfold w257
     rcases emG (0<=a) with q|q
     ·simp only[z49,Qs3,XtK,K1H,JS3,simprocAttr,CO.tmps,Opd.tmps,optT,zg2,XHr,fa,fb,q,ZTi,oW hh hz,List.length_cons,List.length_nil,List.set_cons_succ,List.set_cons_zero,List.cons_append,List.nil_append,oD,ne_eq,forall_const]
      exact Bt.sel [2] hh (by decide) (by simp only[Ztz,FrSel,BlkSel,AV.ren,renL,AV.ok,okL,Option.some.injEq,exists_eq_left',List.length_cons,List.length_nil,Nat.reduceAdd,Nat.reduceLT,reduceCtorEq,implies_true,exists_eq']) (by simp only[Ztz,FrSel,BlkSel,AV.ren,renL,AV.ok,okL,Option.some.injEq,exists_eq_left',List.length_cons,List.length_nil,Nat.reduceAdd,Nat.reduceLT,reduceCtorEq,implies_true,exists_eq',ao])
     ·simp only[z49,Qs3,XtK,K1H,JS3,simprocAttr,CO.tmps,Opd.tmps,optT,zg2,XHr,fa,fb,q,ZTi,oW hh hz,List.length_cons,List.length_nil,List.set_cons_succ,List.set_cons_zero,List.cons_append,List.nil_append,decide_true,decide_false,ne_eq,not_false_eq_true,not_true_eq_false,false_implies,forall_const,and_true,true_and,false_and]
      exact Bt.sel [2] hh (by decide) (by simp only[Ztz,FrSel,BlkSel,AV.ren,renL,AV.ok,okL,Option.some.injEq,exists_eq_left',List.length_cons,List.length_nil,Nat.reduceAdd,Nat.reduceLT,reduceCtorEq,implies_true,exists_eq']) (by simp only[Ztz,FrSel,BlkSel,AV.ren,renL,AV.ok,okL,Option.some.injEq,exists_eq_left',List.length_cons,List.length_nil,Nat.reduceAdd,Nat.reduceLT,reduceCtorEq,implies_true,exists_eq',ao])
    ·cases hp
   ·cases hp
  split at hp
  ·rename_i ht
   subst ht
   obtain ⟨l,hl,hp2⟩:=Qk0 hp
   clear hp
   split at hp2
   ·rename_i hn
    cases hp2
    dsimp only
    refine FnAt.c (FnAt.frz fun hz=>?_)
    rw[<-(List.length_map _:(h.map AB.freeze).length=h.length)]
    replace hl:=hl.frz
    generalize h.map AB.freeze=h at *
    refine FnAt.run (by kernel_rfl) (T:=⟨[⟨257,qPh,fun _=>[]⟩,⟨292,Q17,fun _=>[]⟩],[]⟩) ⟨⟨QnI,ZEK,trivial⟩,trivial⟩ Tryz.func257 YvR fun ho hh=>?_
    simp only[ZiP,q0E,AV.ok,Bool.and_true,Bool.true_and]at ho
    have f1:=hl.fx ho (sz:=1) rfl
    have i1:In64 (l.length:Int):=by unfold In64;omega
    have fa:=fun H=>JQP H (n:=l.length) i1
    have gl:∀L,getS intR (h++L) x=some l:=fun L=>(hl.app L).get
    have sok:∀c,x.ok (fun j=>decide (j<h.length+c))=true:=fun c=>AV.ok_mono (fun i q=>by simp only[decide_eq_true_eq]at q ⊢;omega) x ho
    have sor:∀sel,Wk (x.ren (selN h.length sel)) x:=fun sel=>Wk.ren (fun i hi=>qMB hi) ho
    unfold w257
    simp only[z49,Qs3,XtK,K1H,JS3,simprocAttr,CO.tmps,Opd.tmps,optT,zg2,XHr,f1,fa,oW hh hz,List.length_cons,List.length_nil,oD,ne_eq,forall_const]
    refine JLk (S:=Nat) (fun i=>l.length-i) (fun i=>[apS X0d (h.length+0) (qkv l.length++qBw (l.take i))]++tp 12++[x]++tp 114++[x,.i .i64 (l.length:Int),.i .i64 (i:Int)]++tp 26) (fun i=>h++[resB X0d true (qkv l.length++qBw (l.take i))]) (fun i=>i<=l.length) 0 (Nat.zero_le _) ?_ fun i hi=>?_
    ·rw[show qkv (l.length:Int)++qBw (l.take 0)=qkv l.length by simp [qBw]]
     refine Bt.wk ?_
     simp only[XtK,JS3,simprocAttr,Nat.add_zero]
    by_cases g:i<l.length
    ·have g':((i:Int)<(l.length:Int))=True:=eq_true (by omega)
     have gz:((0:Int)<=(i:Int)/\(i:Int)<(l.length:Int))=True:=eq_true (by omega)
     have e1:IntKind.i64.wrap ((i:Int)+1)=((i+1:Nat):Int):=Q7p (by unfold In64;omega)
     have hx0:l.getD i intR.d=l[i]:=by rw[List.getD_eq_getElem?_getD,List.getElem?_eq_getElem g];rfl
     have hix:=hn.2 l[i] (List.getElem_mem g)
     have htk:qBw (l.take (i+1))=qBw (l.take i)++qkv l[i]:=Kft l (List.getElem?_eq_getElem g)
     generalize l[i]=y at *
     obtain ⟨B,hB⟩:∃B,qkv (l.length:Int)++qBw (l.take i)=B:=⟨_,rfl⟩
     have hB2:qkv (l.length:Int)++qBw (l.take (i+1))=B++qkv y:=by rw[htk,<-List.append_assoc,hB]
     have hB0:B.length≠0:=by
      rw[<-hB,List.length_append]
      have:=YHu l.length
      omega
     have hB1:B.length<=100000000:=by
      rw[<-hB,List.length_append]
      have h1:=zHu l.length
      have h2:=Q3J (l.take i)
      rw[List.length_take]at h2
      omega
     have fb:=Kne h [resB X0d true B] 0 (bs:=B) (n:=y) rfl hB0 hB1 hix
     have ao:∀X,(apS X0d h.length X).ok (fun i=>decide (i<h.length+1))=true:=fun X=>JRX _ _ _ (by simp)
     rw[hB]
     simp only[z49,Qs3,XtK,K1H,JS3,simprocAttr,CO.tmps,Opd.tmps,optT,zg2,XHr,f1,g,g',gz,e1,hx0,fb,KpI,oW hh hz,List.length_cons,List.length_nil,List.set_cons_zero,List.cons_append,List.nil_append,Nat.zero_lt_one,oD,ne_eq,forall_const]
     refine ⟨i+1,g,by dsimp only;omega,?_⟩
     dsimp only
     rw[hB2]
     exact Bt.sel [1] hh (by decide) (by simp only[Ztz,FrSel,BlkSel,AV.ren,renL,AV.ok,okL,Option.some.injEq,exists_eq_left',List.length_cons,List.length_nil,Nat.reduceAdd,Nat.reduceLT,reduceCtorEq,implies_true,exists_eq']) (by simp only[tp_0,tp_s,List.cons_append,List.nil_append,Ztz,FrSel,BlkSel,AV.ren,renL,AV.ok,okL,Option.some.injEq,exists_eq_left',List.length_cons,List.length_nil,Nat.reduceAdd,Nat.reduceLT,reduceCtorEq,implies_true,exists_eq',sok,sor,ho,ao,or_true])
    ·have g':((i:Int)<(l.length:Int))=False:=eq_false (by omega)
     have ht:l.take i=l:=List.take_of_length_le (by omega)
     rw[ht]
     by_cases q:∃y∈l,y<0
     ·have hd:=decide_eq_true q
      have hd2:=decide_eq_false (not_not_intro q)
      rw[hd2]
      simp only[z49,Qs3,XtK,K1H,JS3,simprocAttr,CO.tmps,Opd.tmps,optT,f1,g',gl,Q17,hd,QpH,Option.bind_some,if_true,Bool.not_true,Bool.not_false,oW hh hz,oD,ne_eq,forall_const]
      exact Bt.eq rfl rfl
     ·have hd:=decide_eq_false q
      have hd2:=decide_eq_true q
      rw[hd2]
      simp only[z49,Qs3,XtK,K1H,JS3,simprocAttr,CO.tmps,Opd.tmps,optT,f1,g',gl,Q17,hd,QpH,Option.bind_some,if_true,Bool.not_true,Bool.not_false,oW hh hz,oD,ne_eq,forall_const]
      exact Bt.eq rfl rfl
   ·cases hp2
  ·cases hp
 ·cases e
noncomputable def QSy:List AV->List AB->Option (AV×List AB)
 | [.p i 0,.ifc ty v],h=>(qjK h ty v).bind fun p=>wPut h i p.1 p.2
 | _,_=>none
theorem JZE:Spec Tryz.prog 165 QSy:=by
 intro args h v h' e
 unfold QSy at e
 split at e
 ·rename_i i ty x
  obtain ⟨⟨enc,ok⟩,hp,e⟩:=oQ.1 e
  obtain ⟨n0,n1⟩:=J1M hp
  dsimp only at e n0 n1
  unfold wPut at e
  obtain ⟨j,lim,s,bs,er,H,e⟩:=Zix e
  dsimp only at e
  cases e
  unfold wOut
  refine FnAt.c (FnAt.run (by kernel_rfl) (T:=⟨[⟨168,Zlc,fun _=>[]⟩,⟨169,zbh,fun _=>[]⟩,⟨258,qJg,wsP⟩,⟨257,K4c,fun _=>[]⟩],[]⟩) ⟨⟨KMf,ZST,Zvp,Y3m,trivial⟩,trivial⟩ Tryz.func165 Kmn fun ho hh=>?_)
  have hpL:=fun L=>Y3a L hp
  have f1:=X5u (rd_i H)
  have f2:=X5u (rd_j H)
  have hl1:=H.hlim
  have hl2:=H.hlen
  have hso:s.ok (fun k=>decide (k<h.length))=true:=by
   have:=hh i _ H.hi
   simp only[blkW,AB.ok,ZiP,Bool.and_eq_true]at this
   exact this.2.2.1
  have hsl:s.isSl=true:=by
   rcases H.hs with ⟨q1,q2⟩|⟨q,q1,q2,q3⟩
   ·rw[q1];rfl
   ·rw[q1];exact zMR _ _
  have hsv:lenV s=some (bs.length:Int):=by
   rcases H.hs with ⟨q1,q2⟩|⟨q,q1,q2,q3⟩
   ·rw[q1,q2];rfl
   ·rw[q1];exact Qsh _ _
  have s1:=QP8 hsl
  have s2:=Zcq hsl
  have s3:=Jrd hsl
  have s4:∀c lo hi anc past,s.ok (qOk (h.length+c) lo hi anc past)=true:=fun c lo hi anc past=>AV.ok_mono (fun k hk=>ZX5 (by simp only[decide_eq_true_eq]at hk;omega)) s hso
  unfold w165
  by_cases g:er=0
  case neg =>
   have g':=eq_false g
   have hw:wput lim bs er enc ok=(bs,er):=by unfold wput;rw[if_neg g]
   rw[hw,if_pos rfl,if_pos rfl]
   simp only[z49,Qs3,XtK,K1H,JS3,simprocAttr,CO.tmps,Opd.tmps,optT,f1,f2,g',Zlc,zbh,YNB,List.getElem?_cons_zero,List.getElem?_cons_succ,not_false_eq_true,decide_true]
   exact QhD (st:=(bs,er)) (k:=none) (d:=0) (L:=[]) H hh rfl _ rfl |> fun q=>by
    unfold wOut at q
    rw[if_pos rfl,if_pos rfl]at q
    have e0:wX h i j lim s (bs,er) none=h:=by
     simp only[wX]
     exact qgt H.hj
    rw[e0]at q ⊢
    exact q
  subst g
  have ff:=z18 H
  have fl:=fun st k L=>(YuF H st k L).1
  have fl2:=fun st k L=>(YuF H st k L).2
  cases ok with
  | false =>
   have hw:wput lim bs 0 enc false=(bs,3):=rfl
   rw[hw]
   simp only[z49,Qs3,XtK,K1H,JS3,simprocAttr,CO.tmps,Opd.tmps,optT,f1,f2,ff,fl,fl2,hpL,Zlc,zbh,K4c,YNB,List.getElem?_cons_zero,List.getElem?_cons_succ,not_true_eq_false,not_false_eq_true,decide_true,decide_false,ne_eq]
   refine QhD (P:=Tryz.prog) (st:=(bs,3)) (k:=none) (d:=0) (L:=[resB X0d true enc]) H hh rfl (.i .i64 3) rfl |> fun q=>?_
   unfold wOut at q
   rw[if_pos rfl,if_pos rfl]at q
   exact q
  | true =>
   have w1:IntKind.i64.wrap ((bs.length:Int)+(enc.length:Int))=(bs.length:Int)+(enc.length:Int):=Q7p (by unfold In64;omega)
   by_cases g2:lim<(bs.length:Int)+(enc.length:Int)
   ·have g2':=eq_true g2
    have hw:wput lim bs 0 enc true=(bs,4):=by unfold wput;rw[if_pos rfl,if_pos rfl,if_pos g2]
    rw[hw]
    simp only[z49,Qs3,XtK,K1H,JS3,simprocAttr,CO.tmps,Opd.tmps,optT,f1,f2,ff,fl,fl2,hpL,g2',w1,s1,s2,s3,s4,hsv,Zlc,zbh,K4c,YNB,List.getElem?_cons_zero,List.getElem?_cons_succ,not_true_eq_false,not_false_eq_true,decide_true,decide_false,ne_eq]
    refine QhD (P:=Tryz.prog) (st:=(bs,4)) (k:=none) (d:=0) (L:=[resB X0d true enc]) H hh rfl (.i .i64 4) rfl |> fun q=>?_
    unfold wOut at q
    rw[if_pos rfl,if_pos rfl]at q
    exact q
   ·have g2':=eq_false g2
    have hw:wput lim bs 0 enc true=(bs++enc,0):=by unfold wput;rw[if_pos rfl,if_pos rfl,if_neg g2]
    rw[hw]
    have gr:∀id,apS X0d id enc=rsl X0d id enc:=fun id=>JgW _ n0
    have fs:=fun L k l e=>J8W (h:=h) (r:=X0d) (sz:=1) rfl L k l e
    have fa:=Zu4 H n0 n1
    have fst:=st_w H
    simp only[z49,Qs3,XtK,K1H,JS3,simprocAttr,CO.tmps,Opd.tmps,optT,f1,f2,ff,fl,fl2,hpL,g2',w1,s1,s2,s3,s4,hsv,gr,fs,fa,fst,qrm,Zlc,zbh,K4c,YNB,List.getElem?_cons_zero,List.getElem?_cons_succ,not_true_eq_false,not_false_eq_true,decide_true,decide_false,ne_eq]
    exact QhD (st:=(bs++enc,0)) (k:=some 1) (d:=0) H hh ⟨Nat.zero_le _,by rw[List.length_append];omega,rfl⟩ (.i .i64 0) rfl
 ·cases e
noncomputable def KMh:List AV->List AB->Option (AV×List AB)
 | [.p i 0,.ag [.i .i64 a,.i .i64 b]],h=>if In64 a/\In64 b then wPut h i (qkv a++qkv b) (decide (0<=a/\0<=b)) else none
 | _,_=>none
theorem qxH:Spec Tryz.prog 166 KMh:=by
 intro args h v h' e
 unfold KMh at e
 split at e
 ·rename_i i a b
  split at e
  ·rename_i hn
   unfold wPut at e
   obtain ⟨j,lim,s,bs,er,H,e3⟩:=Zix e
   clear e
   cases e3
   dsimp only
   refine FnAt.c (FnAt.run (by kernel_rfl) (T:=⟨[⟨165,QSy,fun _=>[]⟩],[]⟩) ⟨⟨JZE,trivial⟩,trivial⟩ Tryz.func166 JpM fun ho hh=>?_)
   obtain ⟨k1,R1,q1,I1,l1⟩:=QA9 (D:=[.blk true true [.i .i64 a,.i .i64 b]]) (R:=[]) H (st:=(bs,er)) (k:=none) rfl H.hlen (qkv a++qkv b) (decide (0<=a/\0<=b))
   rw[wX_0 H]at q1
   simp only[List.append_nil]at q1
   have tp:∀H,QSy [.p i 0,.ifc 40 (.ag [.i .i64 a,.i .i64 b])] H=wPut H i (qkv a++qkv b) (decide (0<=a/\0<=b)):=fun H=>by
    unfold QSy
    have:qjK H 40 (.ag [.i .i64 a,.i .i64 b])=some (qkv a++qkv b,decide (0<=a/\0<=b)):=by
     unfold qjK
     rw[if_pos rfl]
     exact if_pos hn
    simp only[this,Option.bind_some]
   unfold w166
   simp only[z49,Qs3,XtK,K1H,JS3,simprocAttr,CO.tmps,Opd.tmps,optT,XHr,tp,q1]
   exact QhD H hh I1 _ rfl
  ·cases e
 ·cases e
open Classical in
noncomputable def Kir:List AV->List AB->Option (AV×List AB)
 | [.p i 0,s],h=>(getS intR h s).bind fun l=>if l.length<=100000/\∀x∈l,In64 x then wPut h i (qkv l.length++qBw l) (decide (¬ ∃x∈l,x<0)) else none
 | _,_=>none
theorem ZVY:Spec Tryz.prog 69 Kir:=by
 intro args h v h' e
 unfold Kir at e
 split at e
 ·rename_i i s
  obtain ⟨l,hl,e2⟩:=Qk0 e
  clear e
  split at e2
  ·rename_i hn
   refine FnAt.c (FnAt.run (by kernel_rfl) (T:=⟨[⟨165,QSy,fun _=>[]⟩],[]⟩) ⟨⟨JZE,trivial⟩,trivial⟩ Tryz.func69 sw69 fun ho hh=>?_)
   have tp:QSy [.p i 0,.ifc 22 s] (h++[])=some (v,h'):=by
    rw[List.append_nil]
    unfold QSy
    have:qjK h 22 s=some (qkv l.length++qBw l,decide (¬ ∃x∈l,x<0)):=by
     unfold qjK
     rw[if_neg (by decide),if_pos rfl,hl.get,Option.bind_some]
     exact if_pos hn
    simp only[this,Option.bind_some]
    exact e2
   unfold w69
   simp only[z49,Qs3,XtK,K1H,JS3,simprocAttr,CO.tmps,Opd.tmps,optT,XHr,tp]
   exact Bt.refl _ _ _
  ·cases e2
 ·cases e
end
section
set_option maxRecDepth 100000
set_option maxHeartbeats 8000000
section
variable {h:List AB} {i j:Nat} {lim:Int} {s:AV} {bs:List UInt8} {e:Int}
theorem Jl5 (H:WrH h i j lim s bs e) {st st':List UInt8×Int} {k:Option Nat} {R:List AB} (I:WInv 0 bs st R k) (hle:(st'.1.length:Int)<=lim) (hg:st'.1=st.1\/st.1.length<st'.1.length):∃k' R',wOut (wX h i j lim s st k++R) i j lim (wK h s st k) st.1 st'=wX h i j lim s st' k'++R'/\WInv 0 bs st' R' k'/\R.length<R'.length/\∀m B,k≠some m->R[m]?=some B->R'[m]?=some B/\k'≠some m:=by
 have hlen:(wX h i j lim s st k++R).length=h.length+R.length:=by rw[List.length_append,XqL]
 have hil:=H.il
 have hjl:=H.jl
 unfold wOut
 have g2:∀(A:List AB) (W0 W F0 F1:AB),(((A.set i W0).set j F0).set i W).set j F1=(A.set i W).set j F1:=fun A W0 W F0 F1=>by
  rw[List.set_comm _ _ (Ne.symm H.ne),List.set_set,List.set_set]
 by_cases hs:st'.1=st.1
 ·rw[if_pos hs,if_pos hs]
  have e1:wX (wX h i j lim s st k++R) i j lim (wK h s st k) st' none++[.dead]=wX h i j lim s st' k++(R++[.dead]):=by
   show (wX h i j lim s st k++R).set j (blkF st'.2)++[.dead]=_
   rw[List.set_append_left _ _ (by rw[XqL];exact hjl),show st=(st.1,st.2) from rfl,Z6V,<-hs]
   simp only[List.append_assoc]
  refine ⟨k,R++[.dead],by rw[e1],?_,by simp,fun m B hm hB=>⟨by rw[List.getElem?_append_left (List.getElem?_eq_some_iff.1 hB).1];exact hB,hm⟩⟩
  cases k with
  | none=>exact hs.trans I
  | some k =>
   obtain ⟨i0,i1,i2⟩:=I
   refine ⟨i0,by rw[hs];exact i1,?_⟩
   rw[List.getElem?_append_left (List.getElem?_eq_some_iff.1 i2).1,hs]
   exact i2
 ·rw[if_neg hs,if_neg hs]
  have hlt:=hg.resolve_left hs
  have e0:(wX h i j lim s st k++R).length+0=h.length+R.length:=by rw[hlen,Nat.add_zero]
  cases k with
  | none =>
   have hb:st.1=bs:=I
   have e1:wX (wX h i j lim s st none++R) i j lim s st' (some 0)++[resB X0d true st'.1]=wX h i j lim s st' (some R.length)++(R++[resB X0d true st'.1]):=by
    show ((qBs s (wX h i j lim s st none++R)).set i (blkW j lim (apS X0d ((wX h i j lim s st none++R).length+0) st'.1))).set j (blkF st'.2)++[resB X0d true st'.1]=_
    rw[e0]
    have k1:qBs s (wX h i j lim s st none++R)=(qBs s h).set j (blkF st.2)++R:=by
     rcases H.hs with ⟨q1,q2⟩|⟨q,q1,q2,q3⟩
     ·rw[q1];rfl
     ·obtain ⟨p1,p2,p3,p4⟩:=H.q q1 q2
      rw[q1,Keb _ q2]
      simp only[qBs,wX]
      rw[List.set_append_left _ _ (by rw[List.length_set];exact p4),List.set_comm _ _ (Ne.symm p3)]
    rw[k1,List.set_append_left _ _ (by rw[List.length_set,JA8];exact hil),List.set_append_left _ _ (by rw[List.length_set,List.length_set,JA8];exact hjl),List.set_comm _ _ (Ne.symm H.ne),List.set_set]
    simp only[wX,List.append_assoc]
   refine ⟨some R.length,R++[resB X0d true st'.1],by simp only[wK];rw[e1],⟨Nat.zero_le _,by rw[<-hb];exact hlt,?_⟩,by simp,fun m B _ hB=>?_⟩
   ·rw[List.getElem?_append_right (Nat.le_refl _),Nat.sub_self]
    rfl
   ·have:=(List.getElem?_eq_some_iff.1 hB).1
    exact ⟨by rw[List.getElem?_append_left this];exact hB,fun q=>by cases q;omega⟩
  | some k =>
   obtain ⟨i0,i1,i2⟩:=I
   have hk:=(List.getElem?_eq_some_iff.1 i2).1
   have h0:st.1.length≠0:=by omega
   have e1:wX (wX h i j lim s st (some k)++R) i j lim (wK h s st (some k)) st' (some 0)++[resB X0d true st'.1]=wX h i j lim s st' (some R.length)++(R.set k .dead++[resB X0d true st'.1]):=by
    show ((qBs (wK h s st (some k)) (wX h i j lim s st (some k)++R)).set i (blkW j lim (apS X0d ((wX h i j lim s st (some k)++R).length+0) st'.1))).set j (blkF st'.2)++[resB X0d true st'.1]=_
    rw[e0]
    have k1:qBs (wK h s st (some k)) (wX h i j lim s st (some k)++R)=wX h i j lim s st (some k)++R.set k .dead:=by
     simp only[wK]
     rw[Keb _ h0]
     show (wX h i j lim s st (some k)++R).set (h.length+k) .dead=_
     rw[List.set_append_right _ _ (by rw[XqL];omega),XqL,Nat.add_sub_cancel_left]
    rw[k1,List.set_append_left _ _ (by rw[XqL];exact hil),List.set_append_left _ _ (by rw[List.length_set,XqL];exact hjl)]
    have g3:=g2 (qBs s h) (blkW j lim (apS X0d (h.length+k) st.1)) (blkW j lim (apS X0d (h.length+R.length) st'.1)) (blkF st.2) (blkF st'.2)
    simp only[wX]
    rw[g3]
    simp only[List.append_assoc]
   refine ⟨some R.length,R.set k .dead++[resB X0d true st'.1],by rw[e1],⟨Nat.zero_le _,by omega,?_⟩,by simp,fun m B hm hB=>?_⟩
   ·rw[List.getElem?_append_right (by rw[List.length_set];exact Nat.le_refl _),List.length_set,Nat.sub_self]
    rfl
   ·have:=(List.getElem?_eq_some_iff.1 hB).1
    have hne:k≠m:=fun q=>hm (by rw[q])
    exact ⟨by rw[List.getElem?_append_left (by rw[List.length_set];exact this),List.getElem?_set_ne hne];exact hB,fun q=>by cases q;omega⟩
theorem Ynn (H:WrH h i j lim s bs e) {st:List UInt8×Int} {k:Option Nat} {R:List AB} (I:WInv 0 bs st R k) (hl:(st.1.length:Int)<=lim) (enc:List UInt8) (ok:Bool):∃k' R',wPut (wX h i j lim s st k++R) i enc ok=some (.i .i64 (wput lim st.1 st.2 enc ok).2,wX h i j lim s (wput lim st.1 st.2 enc ok) k'++R')/\WInv 0 bs (wput lim st.1 st.2 enc ok) R' k'/\((wput lim st.1 st.2 enc ok).1.length:Int)<=lim/\R.length<R'.length/\∀m B,k≠some m->R[m]?=some B->R'[m]?=some B/\k'≠some m:=by
 have hle:=zvB lim st.1 st.2 enc ok hl
 obtain ⟨k',R',q1,q2,q3,q4⟩:=Jl5 H I hle (JLo lim st enc ok)
 refine ⟨k',R',?_,q2,hle,q3,q4⟩
 unfold wPut
 have W:=KnG H (d:=0) (L:=R) (k:=k) I hl
 rw[W.get,Option.bind_some,q1]
theorem Qa9 (H:WrH h i j lim s bs e) {f:Int->List UInt8×Int->List UInt8×Int} (F:FOk f) {st:List UInt8×Int} {k:Option Nat} {R:List AB} (I:WInv 0 bs st R k) (hl:(st.1.length:Int)<=lim):∃k' R',wSeq f (wX h i j lim s st k++R) i=some (.tu [],wX h i j lim s (f lim st) k'++R')/\WInv 0 bs (f lim st) R' k'/\((f lim st).1.length:Int)<=lim/\R.length<R'.length/\∀m B,k≠some m->R[m]?=some B->R'[m]?=some B/\k'≠some m:=by
 have hle:=F.le lim st hl
 obtain ⟨k',R',q1,q2,q3,q4⟩:=Jl5 H I hle (F.grow lim st)
 refine ⟨k',R',?_,q2,hle,q3,q4⟩
 unfold wSeq
 have W:=KnG H (d:=0) (L:=R) (k:=k) I hl
 rw[W.get,Option.bind_some,q1]
theorem YLy {P:Program} (H:WrH h i j lim s bs e) (hh:HOk h) {st:List UInt8×Int} {k:Nat} {L l':List AB} (I:WInv 0 bs st L (some k)) {fr fr':List AV} (sel:List Nat) (K:Nat) (hK:sel[K]?=some k) (hnd:sel.Nodup) (hb:BlkSel h.length sel sel.length L sel l') (hfr:FrSel h.length sel sel.length fr fr') :
  Bt P h.length fr (wX h i j lim s st (some k)++L) fr' (wX h i j lim s st (some K)++l'):=by
 have hil:=H.il
 have hjl:=H.jl
 obtain ⟨i0,i1,i2⟩:=I
 have h0:st.1.length≠0:=by omega
 have hKl:=(List.getElem?_eq_some_iff.1 hK).1
 have:=Bt.selMd (P:=P) (h:=wX h i j lim s st (some k)) (g:=wX h i j lim s st (some K)) (l:=L) (l':=l') (fr:=fr) (fr':=fr') sel (by rw[XqL,XqL]) (fun m B hB=>?_) hnd (by rw[XqL];exact hb) (by rw[XqL];exact hfr)
 ·rw[XqL]at this
  exact this
 ·by_cases hm:m=i
  ·subst hm
   rw[wX_i H]at hB
   cases hB
   refine .inr ⟨_,wX_i H st (some k),?_⟩
   simp only[wK,blkW]
   rw[Keb _ h0,Keb _ h0]
   refine ⟨id,?_,?_⟩
   ·simp only[ZiP,q0E,ok_p,ok_i,XqL,Bool.and_true,Bool.and_eq_true]
    refine ⟨decide_eq_true (by omega),?_⟩
    refine ⟨trivial,?_⟩
    exact YJG (fun i=>decide (i<h.length+sel.length)) _ _ _ _ _ (decide_eq_true (by omega))
   ·simp only[renL,AV.ren,XqL]
    rw[qMB hjl,show selN h.length sel (h.length+K)=h.length+k by rw[qtm,List.getD_eq_getElem?_getD,hK];rfl]
    exact WkL.refl _
  ·by_cases hj:m=j
   ·subst hj
    rw[wX_j H]at hB
    cases hB
    exact .inl ⟨wX_j H st (some k),rfl⟩
   ·left
    have e1:(wX h i j lim s st (some K))[m]?=(qBs s h)[m]?:=by
     simp only[wX]
     rw[List.getElem?_set_ne (Ne.symm hj),List.getElem?_set_ne (Ne.symm hm)]
    have e2:(wX h i j lim s st (some k))[m]?=(qBs s h)[m]?:=by
     simp only[wX]
     rw[List.getElem?_set_ne (Ne.symm hj),List.getElem?_set_ne (Ne.symm hm)]
    rw[e1]at hB
    rw[e2]
    refine ⟨hB,?_⟩
    rw[XqL]
    unfold qBs at hB
    split at hB
    ·rw[List.getElem?_set]at hB
     split at hB
     ·split at hB
      ·cases hB;rfl
      ·cases hB
     ·exact hh m B hB
    ·exact hh m B hB
theorem zRn {P:Program} (H:WrH h i j lim s bs e) (hh:HOk h) {st:List UInt8×Int} {L l':List AB} {fr fr':List AV} (sel:List Nat) (hnd:sel.Nodup) (hb:BlkSel h.length sel sel.length L sel l') (hfr:FrSel h.length sel sel.length fr fr') :
  Bt P h.length fr (wX h i j lim s st none++L) fr' (wX h i j lim s st none++l'):=by
 have hjl:=H.jl
 have hok:HOk (wX h i j lim s st none):=fun m B hB=>by
  rw[XqL]
  simp only[wX]at hB
  by_cases hm:m=j
  ·subst hm
   rw[List.getElem?_set_self hjl]at hB
   cases hB
   rfl
  ·rw[List.getElem?_set_ne (Ne.symm hm)]at hB
   exact hh m B hB
 have:=Bt.sel (P:=P) (h:=wX h i j lim s st none) (l:=L) (l':=l') (fr:=fr) (fr':=fr') sel hok hnd (by rw[XqL];exact hb) (by rw[XqL];exact hfr)
 rwa [XqL]at this
noncomputable def wOuD (h:List AB) (i j:Nat) (lim:Int) (s:AV) (bs:List UInt8) (D:List AB) (st:List UInt8×Int):List AB:=wX h i j lim s st (if st.1=bs then none else some D.length)++(D++[if st.1=bs then .dead else resB X0d true st.1])
theorem WInv.app {st:List UInt8×Int} {k:Option Nat} {L:List AB} (I:WInv 0 bs st L k) (X:List AB):WInv 0 bs st (L++X) k:=by
 cases k with
 | none=>exact I
 | some k =>
  obtain ⟨a,b,c⟩:=I
  exact ⟨a,b,by rw[List.getElem?_append_left (List.getElem?_eq_some_iff.1 c).1];exact c⟩
theorem KKc (D:List AB) (st:List UInt8×Int) (hg:st.1=bs\/bs.length<st.1.length):∃k b0,wOuD h i j lim s bs D st=wX h i j lim s st k++(D++[b0])/\WInv 0 bs st (D++[b0]) k/\(∀m,k=some m->m=D.length)/\∀q,b0.ok q=true:=by
 unfold wOuD
 refine ⟨_,_,rfl,?_,?_,fun q=>?_⟩
 ·by_cases q:st.1=bs
  ·rw[if_pos q,if_pos q]
   exact q
  ·rw[if_neg q,if_neg q]
   exact ⟨Nat.zero_le _,hg.resolve_left q,by rw[List.getElem?_append_right (Nat.le_refl _),Nat.sub_self];rfl⟩
 ·intro m hm
  split at hm
  ·cases hm
  ·cases hm;rfl
 ·split
  ·rfl
  ·unfold resB
   split <;> rfl
theorem Zhe {P:Program} (H:WrH h i j lim s bs e) (hh:HOk h) {st:List UInt8×Int} {k:Option Nat} {L D:List AB} (I:WInv 0 bs st L k) {fr fr':List AV} (ks:List Nat) (hlen:ks.length=D.length) (hnk:∀m∈ks,k≠some m) (hnd:ks.Nodup) (hb:∀x,BlkSel h.length (ks++x) (ks++x).length L ks D) (hfr:∀x,FrSel h.length (ks++x) (ks++x).length fr fr') :
  Bt P h.length fr (wX h i j lim s st k++L) fr' (wOuD h i j lim s bs D st):=by
 unfold wOuD
 cases k with
 | none =>
  have hb0:st.1=bs:=I
  rw[if_pos hb0,if_pos hb0]
  have h1:=zRn (P:=P) H hh (st:=st) (L:=L) (l':=D) (fr:=fr) (fr':=fr') ks hnd (by have:=hb [];rwa [List.append_nil]at this) (by have:=hfr [];rwa [List.append_nil]at this)
  have h2:=Bt.pad (P:=P) (p:=h.length) fr' (wX h i j lim s st none++D) 1
  rw[List.append_assoc]at h2
  exact h1.trans h2
 | some k =>
  have hne:st.1≠bs:=fun q=>by have:=I.2.1;rw[q]at this;omega
  rw[if_neg hne,if_neg hne]
  have hsel:∀(x ks':List Nat) (n:Nat) (D':List AB),BlkSel h.length x n L ks' D'->BlkSel h.length x n L (ks'++[k]) (D'++[resB X0d true st.1]):=fun x ks'=>by
   induction ks' with
   | nil =>
    intro n D' hD
    cases D' with
    | nil=>exact ⟨⟨_,I.2.2,of_eq_true (ZHy _ _ _ _)⟩,trivial⟩
    | cons a D'=>exact hD.elim
   | cons a ks' ih =>
    intro n D' hD
    cases D' with
    | nil=>exact hD.elim
    | cons b D'=>exact ⟨hD.1,ih n D' hD.2⟩
  exact YLy H hh I (ks++[k]) D.length (by rw[List.getElem?_append_right (by omega),hlen,Nat.sub_self];rfl) (by
   rw[List.nodup_append]
   exact ⟨hnd,by simp,fun a ha b hb2 q=>by
    rw[List.mem_singleton]at hb2
    subst hb2 q
    exact hnk a ha rfl⟩) (hsel _ _ _ _ (hb [k])) (hfr [k])
theorem ZLz (H:WrH h i j lim s bs e) {m:Nat} {xs:List AV} (h1:zZU h m=some xs) (h4:∃(k:Nat) (t:List UInt8),xs[k]?=some (.s t)):m≠i/\m≠j/\m∉idOf s:=by
 obtain ⟨k,t,hk⟩:=h4
 have hsl:s.isSl=true:=by
  rcases H.hs with ⟨q1,q2⟩|⟨q,q1,q2,q3⟩
  ·rw[q1];rfl
  ·rw[q1];exact zMR _ _
 refine ⟨?_,?_,?_⟩
 ·rintro rfl
  rw[rd_i H]at h1
  cases h1
  match k,hk with
  | 0,hk=>cases hk
  | 1,hk=>cases hk
  | 2,hk=>cases hk;cases hsl
  | k+3,hk=>simp at hk
 ·rintro rfl
  rw[rd_j H]at h1
  cases h1
  match k,hk with
  | 0,hk=>cases hk
  | 1,hk=>cases hk
  | k+2,hk=>simp at hk
 ·intro hm
  rcases H.hs with ⟨q1,q2⟩|⟨q,q1,q2,q3⟩
  ·rw[q1]at hm
   simp [idOf]at hm
  ·obtain ⟨p1,p2,p3,p4⟩:=H.q q1 q2
   rw[q1,Keb _ q2]at hm
   simp only[idOf,List.mem_singleton]at hm
   subst hm
   unfold zZU at h1
   rw[p1]at h1
   cases h1
   rw[YG4,List.getElem?_map]at hk
   cases hb:bs[k]? with
   | none=>rw[hb]at hk;cases hk
   | some b =>
    rw[hb]at hk
    cases hk
theorem Xxf (H:WrH h i j lim s bs e) {α:Type} {r:Row α} {t:AV} {l:List α} (h1:Rd r h t l) (hr:∀x,∃z,(r.f x)[0]?=some (.s z)):∀m∈idOf t,l.length≠0->m≠i/\m≠j/\m∉idOf s:=fun m hm h0=>by
 obtain ⟨id,off,cap,k',xs,rfl,e1,e2,e3⟩:=h1.blk 0 (by omega)
 simp only[idOf,List.mem_singleton]at hm
 subst hm
 refine ZLz H e1 ?_
 cases l with
 | nil=>exact absurd rfl h0
 | cons x l =>
  obtain ⟨z,hz⟩:=hr x
  refine ⟨off,z,?_⟩
  have h3:((xs.drop off).take ((x::l).length*r.sz))[0]?=(r.cells (x::l))[0]?:=by rw[e3]
  have hp:=r.pos
  rw[List.getElem?_take,if_pos (by rw[List.length_cons,Nat.succ_mul];omega),List.getElem?_drop,Nat.add_zero]at h3
  rw[h3]
  show (r.f x++r.cells l)[0]?=_
  rw[List.getElem?_append_left (by rw[r.len];exact hp)]
  exact hz
theorem qxR (H:WrH h i j lim s bs e) {t:AV} {l:List Hd} (h1:Rd zEN h t l):∀m∈idOf t,l.length≠0->m≠i/\m≠j/\m∉idOf s:=fun m hm h0=>by
 obtain ⟨id,off,cap,k',xs,rfl,e1,e2,e3⟩:=h1.blk 0 (by omega)
 simp only[idOf,List.mem_singleton]at hm
 subst hm
 have hl:34<=xs.length:=by
  have:1*zEN.sz<=l.length*zEN.sz:=Nat.mul_le_mul_right _ (by omega)
  have h34:zEN.sz=34:=rfl
  omega
 refine ZPS H e1 (by omega) (by omega) ?_
 cases l with
 | nil=>exact absurd rfl h0
 | cons x l =>
  refine ⟨off,.i .i64 x.1.1,?_,fun b=>by unfold u8A;simp⟩
  have h3:((xs.drop off).take ((x::l).length*zEN.sz))[0]?=(zEN.cells (x::l))[0]?:=by rw[e3]
  have hp:=zEN.pos
  rw[List.getElem?_take,if_pos (by rw[List.length_cons,Nat.succ_mul];omega),List.getElem?_drop,Nat.add_zero]at h3
  rw[h3]
  rfl
end
def wDt (lim:Int) (st:List UInt8×Int) (d:Int×Int):List UInt8×Int:=wput lim st.1 st.2 (qkv d.1++qkv d.2) (decide (0<=d.1/\0<=d.2))
def wHd (lim:Int) (st:List UInt8×Int) (x:Hd):List UInt8×Int:=wId lim (wDt lim st x.1) x.2.l
def wHs (lim:Int) (st:List UInt8×Int) (L:List Hd):List UInt8×Int:=L.foldl (wHd lim) st
def wHn (lim:Int) (st:List UInt8×Int) (L:List Hd):List UInt8×Int:=wHs lim (wN lim st L.length) L
theorem Zsa (d:Int×Int):FOk fun lim st=>wDt lim st d:=⟨fun lim st h=>zvB _ _ _ _ _ h,fun lim st=>JLo _ _ _ _⟩
theorem Jlq (x:Hd):FOk fun lim st=>wHd lim st x:=(Zsa x.1).seq (X7T x.2.l)
theorem YHn:∀L:List Hd,FOk fun lim st=>wHs lim st L
 | []=>Zon
 | x::L=>(Jlq x).seq (YHn L)
theorem Xgc (L:List Hd):FOk fun lim st=>wHn lim st L:=(zX3 _).seq (YHn L)
theorem YU4 (lim:Int) (st:List UInt8×Int) (L:List Hd) {k:Nat} (hk:k<L.length):wHs lim st (L.take (k+1))=wHd lim (wHs lim st (L.take k)) L[k]:=by
 unfold wHs
 rw[List.take_succ_eq_append_getElem hk,List.foldl_append]
 rfl
open Classical in
noncomputable def zCa:List AV->List AB->Option (AV×List AB)
 | [.p i 0,l],h=>(getS zEN h l).bind fun L=>if L.length<=1000000/\∀x∈L,In64 x.1.1/\In64 x.1.2 then wSeq (fun lim st=>wHn lim st L) h i else none
 | _,_=>none
open Classical in
theorem Zbk:Spec Tryz.prog 72 zCa:=by
 intro args h v h' e0
 unfold zCa at e0
 split at e0
 ·rename_i i l
  obtain ⟨L,hl,e2⟩:=Qk0 e0
  clear e0
  split at e2
  case isFalse=>cases e2
  rename_i hb
  unfold wSeq at e2
  obtain ⟨j,lim,s,bs,er,H,e3⟩:=Zix e2
  clear e2
  cases e3
  dsimp only
  refine FnAt.c (FnAt.run (by kernel_rfl) (T:=⟨[⟨70,XoS,fun _=>[]⟩,⟨167,YuM,fun _=>[]⟩,⟨166,KMh,fun _=>[]⟩],[]⟩) ⟨⟨Yy2,qIy,qxH,trivial⟩,trivial⟩ Tryz.func72 sw72 fun ho hh=>?_)
  simp only[ZiP,q0E,Bool.and_eq_true,and_true]at ho
  have hol:=ho.2
  have hkp:=qxR H hl
  have srd:=fun st k R=>ZVz (lim:=lim) (i:=i) (j:=j) (s:=s) st k R hl hkp
  have sstr:=QP8 hl.isSl
  have slen:=hl.len
  have siad:∀k m,iadV 34 l (.i k m)=if 0<=m/\m<(L.length:Int) then some (elP 34 l m.toNat 0) else none:=hl.iad
  have sld:∀st k R n,n<L.length->ldV (wX h i j lim s st k++R) (some 34) (elP 34 l n 0)=some (.ag (zEN.f (L.getD n zEN.d))):=fun st k R n hn=>(srd st k R).lda n hn
  have kd:∀z:Hd,(zEN.f z).take 2=[.i .i64 z.1.1,.i .i64 z.1.2]:=fun _=>rfl
  have kid:∀z:Hd,((zEN.f z).drop 2).take 32=idR.f z.2:=QbO
  have ovH:∀(zs:List AV) (z:Hd),zs.length=34->over zs 0 (zEN.f z)=zEN.f z:=fun zs z hz=>XA7 zs _ (by rw[zEN.len,hz];rfl)
  have hlen:∀z:Hd,(zEN.f z).length=34:=fun z=>zEN.len z
  have l64:(In64 (L.length:Int))=True:=eq_true (by unfold In64;omega)
  have hF:=YHn
  obtain ⟨k0,R0,q0,I0,b0,n0,z0⟩:=Ynn H (st:=(bs,er)) (k:=none) (R:=[]) rfl H.hlen (qkv L.length) true
  rw[wX_0 H]at q0
  have hX:=fun st k=>XqL (h:=h) (i:=i) (j:=j) (lim:=lim) (s:=s) st k
  have hil:i<h.length:=H.il
  have hir:∀sel,selN h.length sel i=i:=fun sel=>qMB hil
  have hic:∀c,(i<h.length+c)=True:=fun c=>eq_true (by omega)
  have sor:∀sel,Wk (l.ren (selN h.length sel)) l:=fun sel=>Wk.ren (fun i hi=>qMB hi) hol
  have sok:∀c,l.ok (fun i=>decide (i<h.length+c))=true:=fun c=>AV.ok_mono (fun i q=>by simp only[decide_eq_true_eq]at q ⊢;omega) l hol
  unfold w72
  simp only[z49,Qs3,XtK,K1H,JS3,simprocAttr,CO.tmps,Opd.tmps,optT,sstr,slen,l64,XoS,q0,if_true]
  have hf:∀n,FOk fun lim st=>wHs lim (wN lim st L.length) (L.take n):=fun n=>(zX3 _).seq (YHn (L.take n))
  obtain ⟨f,hfd⟩:∃f:Nat->List UInt8×Int,f=fun n=>wHs lim (wN lim (bs,er) L.length) (L.take n):=⟨_,rfl⟩
  have hfl:∀n,((f n).1.length:Int)<=lim:=fun n=>by rw[hfd];exact (hf n).le lim (bs,er) H.hlen
  have hfg:∀n,(f n).1=bs\/bs.length<(f n).1.length:=fun n=>by rw[hfd];exact (hf n).grow lim (bs,er)
  have hf0:f 0=wput lim bs er (qkv L.length) true:=by
   rw[hfd]
   show wput lim bs er (qkv L.length) (decide ((0:Int)<=L.length))=_
   rw[decide_eq_true (by omega)]
  rw[<-hf0]at I0 b0 ⊢
  refine JLk (S:=Nat) (fun n=>L.length-n) (fun n=>[.p i 0]++tp 9++[l,.i .i64 (L.length:Int),.i .i64 (n:Int)]++tp 12) (fun n=>wOuD h i j lim s bs [] (f n)) (fun n=>n<=L.length) 0 (Nat.zero_le _) ?_ fun n hn=>?_
  ·exact Zhe H hh I0 [] rfl (fun m hm=>by cases hm) (by simp) (fun x=>trivial) (fun x=>by simp only[tp_0,tp_s,List.cons_append,List.nil_append,Ztz,FrSel,BlkSel,AV.ren,renL,AV.ok,okL,Option.some.injEq,exists_eq_left',List.length_cons,List.length_nil,Nat.reduceAdd,Nat.reduceLT,reduceCtorEq,implies_true,exists_eq',sok,sor,hol,hir,hic,hil,Int.natCast_zero])
  by_cases g:n<L.length
  rotate_left
  ·have g':((n:Int)<(L.length:Int))=False:=eq_false (by omega)
   have hfn:f n=wHn lim (bs,er) L:=by
    rw[hfd]
    show wHs lim (wN lim (bs,er) L.length) (L.take n)=_
    rw[List.take_of_length_le (by omega)]
    rfl
   simp only[z49,Qs3,XtK,K1H,JS3,simprocAttr,CO.tmps,Opd.tmps,optT,g',oD,ne_eq,forall_const]
   rw[hfn]
   exact Bt.refl _ _ _
  have g':((n:Int)<(L.length:Int))=True:=eq_true (by omega)
  have gz:((0:Int)<=(n:Int)/\(n:Int)<(L.length:Int))=True:=eq_true (by omega)
  have e1:IntKind.i64.wrap ((n:Int)+1)=((n+1:Nat):Int):=Q7p (by unfold In64;omega)
  have hx0:L.getD n zEN.d=L[n]:=by rw[List.getD_eq_getElem?_getD,List.getElem?_eq_getElem g];rfl
  have hfs:f (n+1)=wHd lim (f n) L[n]:=by rw[hfd];exact YU4 lim _ L g
  have hxb:=hb.2 L[n] (List.getElem_mem g)
  generalize L[n]=x at *
  obtain ⟨k,c0,hR,I,hkz,_⟩:=KKc (h:=h) (i:=i) (j:=j) (lim:=lim) (s:=s) (bs:=bs) [] (f n) (hfg n)
  rw[hR]
  simp only[List.nil_append]at I ⊢
  have I1:=I.app [.blk true true (zEN.f x)]
  obtain ⟨k1,R1,p1,J1,d1,n1,z1⟩:=Ynn H I1 (hfl n) (qkv x.1.1++qkv x.1.2) (decide (0<=x.1.1/\0<=x.1.2))
  obtain ⟨t1,t2⟩:=z1 1 (.blk true true (zEN.f x)) (fun q=>by have:=hkz 1 q;cases this) rfl
  obtain ⟨k2,R2,p2,J2,d2,n2,z2⟩:=Ynn H J1 d1 x.2.l true
  simp only[List.cons_append,List.nil_append]at p1
  have l5:∀st,ldV (wX h i j lim s st k1++R1) (some 32) (.p (h.length+1) 2)=some (.ag (idR.f x.2)):=fun st=>by
   have:zZU (wX h i j lim s st k1++R1) (h.length+1)=some (zEN.f x):=by
    unfold zZU
    rw[List.getElem?_append_right (by rw[hX];omega),hX,Nat.add_sub_cancel_left,t1]
   simp only[ldV,this,Option.bind_some]
   rw[if_pos (by rw[hlen];decide),kid]
  have hxd:=eq_true hxb
  have gi:=KVT x.2
  simp only[z49,Qs3,XtK,K1H,JS3,simprocAttr,CO.tmps,Opd.tmps,optT,qRn,qSM,YNH,KMT,zGW,hX,sstr,slen,siad,g,g',gz,e1,sld,hx0,kd,ovH,hlen,Yi0,KMh,YuM,hxd,p1,l5,gi,p2,Option.bind_some,if_true,List.length_cons,List.length_nil,List.drop_zero,oD,ne_eq,forall_const]
  refine ⟨n+1,g,by dsimp only;omega,?_⟩
  dsimp only
  rw[hfs]
  exact Zhe H hh J2 [] rfl (fun m hm=>by cases hm) (by simp) (fun x=>trivial) (fun x=>by simp only[tp_0,tp_s,List.cons_append,List.nil_append,Ztz,FrSel,BlkSel,AV.ren,renL,AV.ok,okL,Option.some.injEq,exists_eq_left',List.length_cons,List.length_nil,Nat.reduceAdd,Nat.reduceLT,reduceCtorEq,implies_true,exists_eq',sok,sor,hol,hir,hic,hil])
 ·cases e0
end
end Go.Proofs.YtekeoichmdiiiaaGreat
