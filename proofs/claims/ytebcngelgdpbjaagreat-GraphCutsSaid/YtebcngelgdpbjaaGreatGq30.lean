/- Part 30 of what the laws' proofs rest on. No condition. -/
import Derived.Test.YtebcngelgdpbjaaGreatGq29
set_option linter.all false
namespace Go.Proofs.YtebcngelgdpbjaaGreat
section
set_option maxRecDepth 100000
set_option maxHeartbeats 8000000
section
variable {h:List AB}
theorem ZAy (L:List AB) (k i n sz by_:Nat) (fl fl':Bool) (xs ys:List AV) (hb:L[k]?=some (.blk fl true xs)) (hx:xs.length=n*sz) (hi:i<n) (hy:ys.length=sz) (ha:ys.all (wrOk fl)=true) :
  appW (h++L) fl' sz by_ (.sl (h.length+k) 0 i n (some sz)) 1 ys=some (.sl (h.length+k) 0 (i+1) n (some sz),h++L.set k (.blk fl true (over xs (i*sz) ys))):=by
 unfold appW
 dsimp only
 rw[if_neg Nat.one_ne_zero,if_pos (by omega)]
 unfold stB
 rw[qu4,hb]
 dsimp only
 have:i*sz+sz<=n*sz:=by rw[<-Nat.succ_mul];exact Nat.mul_le_mul_right _ hi
 rw[if_pos ⟨by omega,ha⟩,Nat.zero_add,Yie]
 rfl
theorem zry (L:List AB) (k i n m sz by_:Nat) (fl:Bool) (xs ys:List AV) (hb:L[k]?=some (.blk fl true xs)) (hx:xs.length=n*sz) (hs:sz≠0) (hi:i<=n) (hm:n<i+m) (h1:(i+m)*by_<=140737488355328) (h2:i+m<=maxLen) :
  appW (h++L) fl sz by_ (.sl (h.length+k) 0 i n (some sz)) m ys=some (.sl (h.length+L.length) 0 (i+m) (i+m) (some sz),h++(L.set k .dead++[.blk fl true (xs.take (i*sz)++ys)])):=by
 have hlt:i*sz<=n*sz:=Nat.mul_le_mul_right _ hi
 unfold appW
 dsimp only
 rw[if_neg (by omega:¬m=0),if_neg (by omega),qu4,hb]
 simp only[true_and,Nat.zero_add,hx,hlt,h1,h2,and_self,if_true,reduceCtorEq,if_false,List.drop_zero,List.length_append]
 by_cases q:i=n
 ·subst q
  rw[if_pos ⟨hs,rfl⟩,List.set_append_right _ _ (by omega),Nat.add_sub_cancel_left,List.append_assoc,List.take_of_length_le (by omega)]
 ·have:i*sz<n*sz:=Nat.mul_lt_mul_of_pos_right (by omega) (by omega)
  rw[if_neg (fun q=>by omega),if_pos ⟨hs,trivial⟩,List.set_append_right _ _ (by omega),Nat.add_sub_cancel_left,List.append_assoc]
theorem qC6 {α:Type} {r:Row α} {p n:Nat} {sel:List Nat} {A B:List α} {x y:α} (hA:∀x∈A,okL (fun i=>decide (i<p)) (r.f x)=true) (hB:∀x∈B,okL (fun i=>decide (i<p)) (r.f x)=true) (hx:okL (fun i=>decide (i<p+n)) (r.f x)=true) (hw:WkL (renL (selN p sel) (r.f x)) (r.f y)):BWk (fun i=>decide (i<p+n)) (selN p sel) (resN r true (A++x::B)) (.blk false true (r.cells A++(r.f y++r.cells B))):=by
 have h1:=Xad hA
 have h2:=Xad hB
 have e:r.cells (A++x::B)=r.cells A++(r.f x++r.cells B):=by simp [Row.cells]
 rw[qPl true (by simp),e]
 refine ⟨_root_.id,?_,?_⟩
 ·rw[Qgf,Qgf,hx,Bool.true_and,KAd (fun i q=>by simp only[decide_eq_true_eq]at q ⊢;omega) _ h1,KAd (fun i q=>by simp only[decide_eq_true_eq]at q ⊢;omega) _ h2]
  rfl
 ·rw[Q6y,Q6y]
  exact K4r (KFJ h1) (K4r hw (KFJ h2))
theorem ZDn {α:Type} {r:Row α} (c:List α) (X:α) {i sz:Nat} (hz:r.sz=sz) (hi:i<c.length):(over (r.cells c) (i*sz) (r.f X)).take ((i+1)*sz)=r.cells (c.take i)++r.f X:=by
 subst hz
 have h1:=r.cells_len c
 have hle:i*r.sz<=c.length*r.sz:=Nat.mul_le_mul_right _ (Nat.le_of_lt hi)
 have h2:((r.cells c).take (i*r.sz)).length=i*r.sz:=by rw[List.length_take];omega
 unfold over
 rw[<-r.cells_take,List.take_append_of_le_length (by rw[List.length_append,h2,r.len,Nat.succ_mul];exact Nat.le_refl _)]
 exact List.take_of_length_le (by rw[List.length_append,h2,r.len,Nat.succ_mul];exact Nat.le_refl _)
theorem XcR {q:Nat->Bool} {a b:List AV} (k:Nat) (ha:okL q a=true) (hb:okL q b=true):okL q (over a k b)=true:=by
 unfold over
 rw[Qgf,Qgf,hb]
 have h1:okL q (a.take k)=true:=zFH.2 fun j x hx=>zFH.1 ha j x (by rw[List.getElem?_take]at hx;split at hx;exact hx;cases hx)
 have h2:okL q (a.drop (k+b.length))=true:=zFH.2 fun j x hx=>zFH.1 ha (k+b.length+j) x (by rw[List.getElem?_drop]at hx;exact hx)
 rw[h1,h2]
 rfl
theorem Xba {α:Type} {r:Row α} (c:List α) (X:α) {i sz:Nat} (hz:r.sz=sz) (hi:i<c.length):(over (r.cells c) (i*sz) (r.f X)).length=c.length*sz:=by
 subst hz
 have h1:=r.cells_len c
 have h2:=r.len X
 have hle:i*r.sz+r.sz<=c.length*r.sz:=by rw[<-Nat.succ_mul];exact Nat.mul_le_mul_right _ hi
 unfold over
 rw[List.length_append,List.length_append,List.length_take,List.length_drop]
 omega
end
end
section
set_option maxRecDepth 100000
set_option maxHeartbeats 8000000
theorem JpN (k:Nat) (M:List EvF) (e:EvF):ZDg k (M++[e])=ZDg k M++[(QAO (k+2*M.length) e,e.2)]:=by
 unfold ZDg
 rw[QRI,List.zip_append (YjL _ _),List.map_append]
 rfl
theorem J4R (l:List EvtA):(evR.cells l).length=l.length*39:=evR.cells_len l
open Classical in
noncomputable def KyZ:List AV->List AB->Option (AV×List AB)
 | [s],h=>(z47 h s).bind fun M=>if M.length<=20/\bdE M then some (apS evR (h.length+2*M.length) ((srtI XAO (ZDg h.length M)).map (·.1)),h++(zWI M++[resN evR true ((srtI XAO (ZDg h.length M)).map (·.1))])) else none
 | _,_=>none
theorem Jxp:Spec Tryz.prog 85 KyZ:=by
 intro args h v h' e
 unfold KyZ at e
 split at e
 ·rename_i s
  obtain ⟨M,hs,e2⟩:=KiG e
  clear e
  split at e2
  ·rename_i hcc
   obtain ⟨h20,hb⟩:=hcc
   rw[Option.some.injEq,Prod.mk.injEq]at e2
   obtain ⟨rfl,rfl⟩:=e2
   refine FnAt.c (FnAt.run (by kernel_rfl) (T:=⟨[⟨145,q1b,fun _=>[]⟩,⟨52,Zgx,fun _=>[]⟩],[]⟩) ⟨⟨Jzr,QwQ,trivial⟩,trivial⟩ Tryz.func85 sw85 fun ho hh=>?_)
   simp only[XDA,Bool.and_eq_true]at ho
   have f1:=hs.fst.fx ho.1 (sz:=39) rfl
   rw[List.length_map]at f1
   unfold w85
   simp only[QhU,YqB,z16,Xq6,if_true,if_false,reduceIte,Nat.reduceAdd,Nat.reduceSub,Nat.reduceLeDiff,Nat.reduceEqDiff,Nat.reduceMul,Nat.reduceLT,Int.reduceLT,Int.reduceLE,Int.reduceEq,f1]
   refine q2X (S:=Nat) (fun i=>M.length-i) (fun i=>[s]++tp 2++[apS evR (h.length+2*i) ((srtI XAO (ZDg h.length (M.take i))).map (·.1)),.i .i64 (i:Int)]++tp 44) (fun i=>h++zWI (M.take i)++[resN evR true ((srtI XAO (ZDg h.length (M.take i))).map (·.1))]) (fun i=>i<=M.length) 0 (Nat.zero_le _) ?_ fun i hi=>?_
   ·refine (Bt.pad _ _ 1).trans ?_
    refine Bt.wk ?_
    simp only[z16,Xq6,if_true,if_false,reduceIte,Nat.reduceAdd,Nat.reduceSub,Nat.reduceLeDiff,Nat.reduceEqDiff,Nat.reduceMul,Nat.reduceLT,Int.reduceLT,Int.reduceLE,Int.reduceEq]
    all_goals exact Wk.refl _
   by_cases g:i<M.length
   ·have g':((i:Int)<(M.length:Int))=True:=eq_true (by omega)
    have e1:IntKind.i64.wrap ((i:Int)+1)=((i+1:Nat):Int):=ZWm (by have:=hb.1;unfold In64;omega)
    have hgd:(M.map (·.1)).getD i evR.d=(M[i]).1:=by rw[List.getD_eq_getElem?_getD,List.getElem?_map,List.getElem?_eq_getElem g];rfl
    have hin:M[i]∈M:=List.getElem_mem g
    have hbe:=hb.2 _ hin
    have hd:=hs.ev.d _ (List.mem_map.2 ⟨_,hin,rfl⟩)
    have hf:=hs.f _ hin
    have hoe:=hs.okf _ (List.mem_map.2 ⟨_,hin,rfl⟩)
    obtain ⟨e,he⟩:∃e,M[i]=e:=⟨_,rfl⟩
    rw[he]at hgd hin hbe hd hf hoe
    obtain ⟨H,hH⟩:∃H,h++zWI (M.take i)=H:=⟨_,rfl⟩
    have hHl:H.length=h.length+2*i:=by rw[<-hH,List.length_append,JmL,List.length_take];congr 2;omega
    have hHB:HOk H:=by
     rw[<-hH,XUr hh]
     exact List.all_eq_true.2 fun B hB=>K0m _ _ B hB
    have hRok:∀y∈ZDg h.length (M.take i),okL (fun i=>decide (i<H.length)) (evtF y.1)=true:=fun y hy=>by
     have:y.1∈XvB h.length (M.take i):=by rw[<-ZmS];exact List.mem_map.2 ⟨y,hy,rfl⟩
     refine Yuj _ _ _ (fun j h1 h2=>decide_eq_true ?_) y.1 this
     rw[List.length_take]at h2
     omega
    have hRl:(ZDg h.length (M.take i)).length=i:=by rw[YfC,List.length_take];omega
    have hRd:∀y∈ZDg h.length (M.take i),Rd intR H y.1.deps.a y.2.1/\y.2.1.length<=1000000:=fun y hy=>by
     have hb':bdE (M.take i):=⟨by rw[List.length_take];omega,fun z hz=>hb.2 z (List.mem_of_mem_take hz)⟩
     obtain ⟨z,hz,ez⟩:=qSn hy
     refine ⟨?_,by rw[ez];have:=hb'.2 z hz;omega⟩
     obtain ⟨j,hj⟩:=List.mem_iff_getElem?.1 hy
     have hjl:=(List.getElem?_eq_some_iff.1 hj).1
     have h1:(XvB h.length (M.take i))[j]?=some y.1:=by rw[<-ZmS,List.getElem?_map,hj];rfl
     rw[YfC]at hjl
     have h2:(M.take i)[j]?=some (M.take i)[j]:=List.getElem?_eq_getElem hjl
     have h3:=zFL h.length (M.take i) H (fun j hj=>by rw[<-hH,qu4]) (fun e he=>by have:=hb'.2 e he;unfold maxLen;omega) j y.1 _ h1 h2
     have h4:y.2=((M.take i)[j]).2:=by
      have hz:=hj
      unfold ZDg at hz
      rw[List.getElem?_map,(List.getElem?_zip_eq_some (z:=(y.1,(M.take i)[j]))).2 ⟨h1,h2⟩]at hz
      rw[Option.map_some,Option.some.injEq]at hz
      rw[<-hz]
     rw[h4]
     exact h3.1
    have n1:srtI XAO (ZDg h.length (M.take (i+1)))=insB XAO (srtI XAO (ZDg h.length (M.take i))) (QAO H.length e,e.2):=by
     rw[List.take_succ_eq_append_getElem g,he,JpN,YgA,List.length_take,hHl]
     congr 4
     omega
    have n2:∀X,h++(zWI (M.take (i+1))++X)=H++(ZGX e++X):=fun X=>by
     rw[List.take_succ_eq_append_getElem g,he,JcI,<-hH]
     simp only[List.append_assoc]
    have hSm:∀y∈srtI XAO (ZDg h.length (M.take i)),y∈ZDg h.length (M.take i):=fun y hy=>(YQG _ _).mem_iff.1 hy
    have hSl:(srtI XAO (ZDg h.length (M.take i))).length=i:=by rw[KuP,hRl]
    have hSok:=fun y hy=>hRok y (hSm y hy)
    have hSd:=fun y hy=>hRd y (hSm y hy)
    obtain ⟨S,hS⟩:∃S,srtI XAO (ZDg h.length (M.take i))=S:=⟨_,rfl⟩
    rw[hS]at n1 hSl hSok hSd
    rw[hH,hS,show h.length+2*i=H.length+0 by omega]
    have hml:(S.map (·.1)).length=S.length:=List.length_map _
    have mi:(S.length:Int)=(i:Int):=by rw[hSl]
    simp only[QhU,YqB,z16,Xq6,if_true,if_false,reduceIte,Nat.reduceAdd,Nat.reduceSub,Nat.reduceLeDiff,Nat.reduceEqDiff,Nat.reduceMul,Nat.reduceLT,Int.reduceLT,Int.reduceLE,Int.reduceEq,f1,g',Yuq,hml,oD,ne_eq,forall_const]
    obtain ⟨e',he'⟩:∃e',(QAO H.length e,e.2)=e':=⟨_,rfl⟩
    rw[he']at n1
    obtain ⟨o,ho2⟩:∃o,S.map (·.1)=o:=⟨_,rfl⟩
    have hol:o.length=i:=by rw[<-ho2,List.length_map,hSl]
    have hook:∀x∈o,okL (fun i=>decide (i<H.length)) (evtF x)=true:=fun x hx=>by
     rw[<-ho2]at hx
     obtain ⟨y,hy,rfl⟩:=List.mem_map.1 hx
     exact hSok y hy
    rw[ho2]
    have dH:Rd intR H e.1.deps.a e.2.1:=by rw[<-hH];exact hd.app _
    have fH:Rd idR H e.1.refs.a e.2.2:=by rw[<-hH];exact hf.app _
    have gd:∀L,getS intR (H++L) e.1.deps.a=some e.2.1:=fun L=>(dH.app _).get
    have gf:∀L,getS idR (H++L) e.1.refs.a=some e.2.2:=fun L=>(fH.app _).get
    have gdz:∀L,getS intR (H.map AB.freeze++L) e.1.deps.a=some e.2.1:=fun L=>(dH.frz.app _).get
    have gfz:∀L,getS idR (H.map AB.freeze++L) e.1.refs.a=some e.2.2:=fun L=>(fH.frz.app _).get
    have b1:=eq_true (p:=e.2.1.length<=1000000/\e.2.2.length<=1000000) ⟨by omega,by omega⟩
    have oe1:∀c,okL (fun j=>decide (j<H.length+c)) (evtF e.1)=true:=fun c=>KAd (fun i q=>by simp only[decide_eq_true_eq]at q ⊢;omega) _ hoe
    have oe2:∀c lo hi anc past,okL (qOk (H.length+c) lo hi anc past) (evtF e.1)=true:=fun c lo hi anc past=>KAd (fun i q=>YO3 (by have:=of_decide_eq_true q;omega)) _ hoe
    obtain ⟨f1a,f1b,f1c,f1d,f1e,f1f,f1g,f1h,f1i,f1j,f1k⟩:=f1
    have rs:=hs.fst
    have lda:∀L,ldV (H++L) (some 39) (elP 39 s i 0)=some (.ag (evtF e.1)):=fun L=>by
     rw[<-hH,List.append_assoc,f1h _ i g,hgd]
     rfl
    have gz:((0:Int)<=(i:Int)/\(i:Int)<(M.length:Int))=True:=eq_true (by omega)
    have soH:∀c,s.ok (fun j=>decide (j<H.length+c))=true:=fun c=>AV.ok_mono (fun i q=>by simp only[decide_eq_true_eq]at q ⊢;omega) s ho.1
    have soq:∀c lo hi anc past,s.ok (qOk (H.length+c) lo hi anc past)=true:=fun c lo hi anc past=>AV.ok_mono (fun i q=>YO3 (by have:=of_decide_eq_true q;omega)) s ho.1
    have soe:∀c,(elP 39 s i 0).ok (fun j=>decide (j<H.length+c))=true:=fun c=>rs.okEl (soH c) i 0 _ (by rw[List.length_map];exact g)
    have soeq:∀c lo hi anc past,(elP 39 s i 0).ok (qOk (H.length+c) lo hi anc past)=true:=fun c lo hi anc past=>rs.okEl (soq c lo hi anc past) i 0 _ (by rw[List.length_map];exact g)
    have srH:∀sel,Wk (s.ren (selN H.length sel)) s:=fun sel=>Wk.ren (fun i hi=>ZiE hi) (AV.ok_mono (fun i q=>by simp only[decide_eq_true_eq]at q ⊢;omega) s ho.1)
    have lt:∀y:EvtA,(evtF y).take 39=evtF y:=fun y=>List.take_of_length_le (by rw[YXj];exact Nat.le_refl _)
    have c1:∀l:List AV,(AV.ag l).cells=l:=fun _=>rfl
    have ck1:∀c,okL (fun j=>decide (j<H.length+c)) (evR.cells o)=true:=fun c=>KAd (fun i q=>by simp only[decide_eq_true_eq]at q ⊢;omega) _ (Xad hook)
    have ck2:∀c lo hi anc past,okL (qOk (H.length+c) lo hi anc past) (evR.cells o)=true:=fun c lo hi anc past=>KAd (fun i q=>YO3 (by have:=of_decide_eq_true q;omega)) _ (Xad hook)
    have kl:(evR.cells o).length=i*39:=by rw[J4R,hol]
    refine q2X (S:=Nat) (fun j=>j) (fun j=>[s]++tp 2++[apS evR (H.length+0) o,.i .i64 (i:Int),.i .i64 (j:Int)]++tp 43) (fun j=>H++[resN evR true o]) (fun j=>j<=S.length/\insB XAO S e'=insB XAO (S.take j) e'++S.drop j) S.length ⟨Nat.le_refl _,by rw[List.take_length,List.drop_length,List.append_nil]⟩ ?_ fun j hj=>?_
    ·refine Bt.wk ?_
     simp only[z16,Xq6,if_true,if_false,reduceIte,Nat.reduceAdd,Nat.reduceSub,Nat.reduceLeDiff,Nat.reduceEqDiff,Nat.reduceMul,Nat.reduceLT,Int.reduceLT,Int.reduceLE,Int.reduceEq]
    obtain ⟨hj1,hj2⟩:=hj
    by_cases hj0:j=0
    ·have z':((0:Int)<(j:Int))=False:=eq_false (by omega)
     by_cases hi0:i=0
     ·skip
      have am0:∀H id off n c k ys,appW H false 39 136 (.sl id off n c k) 0 ys=some (.sl id off n c k,H):=fun H id off n c k ys=>by unfold appW;dsimp only;rw[if_pos rfl]
      have em0:∀H id k,srcV H 39 (.sl id 0 0 0 k)=some (0,[]):=fun H id k=>rfl
      have S0:S=[]:=List.eq_nil_of_length_eq_zero (by omega)
      have hins:insB XAO S e'=S++[e']:=by rw[S0];rfl
      have o0:o=[]:=List.eq_nil_of_length_eq_zero (by omega)
      have a0:∀id,apS evR id o=.ns:=fun id=>by rw[o0];rfl
      have rN:∀b,resN evR b o=.dead:=fun b=>by rw[o0];rfl
      have s1:slL 39 .ns none (some (.i .i64 (j:Int))) none=some .ns:=by rw[hj0];simp [slL,bnd]
      have s2:slL 39 .ns (some (.i .i64 (j:Int))) none none=some .ns:=by rw[hj0];simp [slL,bnd]
      have q2:∀H,srcV H 39 .ns=some (0,[]):=fun H=>rfl
      have z3:(1<=maxLen)=True:=eq_true (by unfold maxLen;omega)
      simp only[QhU,YqB,z16,qdd,Qgj,if_true,if_false,reduceIte,Nat.reduceAdd,Nat.reduceSub,Nat.reduceLeDiff,Nat.reduceEqDiff,Nat.reduceMul,Nat.reduceLT,Int.reduceLT,Int.reduceLE,Int.reduceEq,CO.tmps,Opd.tmps,optT,Nat.reducePow,Nat.reduceDiv,Nat.reduceMod,f1a,f1b,f1c,f1d,f1e,f1f,lda,g,gz,soH,soq,soe,soeq,oe1,oe2,ck1,ck2,q1b,Zgx,ZGX,Zz9,gd,gdz,gf,gfz,b1,e1,Q7m,YXj,lt,c1,zNY,QAO,zuo,exB,Y4D,zOd,Nat.le_refl,X1A,X01,XUr hHB,Int.toNat_natCast,Option.bind_some,Option.map_some,if_true,if_false,decide_true,decide_false,ne_eq,not_false_eq_true,not_true_eq_false,false_implies,forall_const,and_true,true_and,z',a0,rN,am0,em0,kl,Qgf,ovE,Y4a,Nat.zero_add,s1,s2,q2,z3,ZP2]
      refine ⟨i+1,g,by dsimp only;omega,?_⟩
      dsimp only
      have hnew:(srtI XAO (ZDg h.length (M.take (i+1)))).map (·.1)=o++[QAO H.length e]:=by
       rw[n1,hins,List.map_append,ho2,<-he']
       rfl
      rw[n2,hnew,show h.length+2*(i+1)=H.length+2 by omega]
      have hnl:(o++[QAO H.length e]).length=i+1:=by rw[List.length_append,hol];rfl
      have hap:∀n,n=i+1->AV.sl (H.length+5) 0 n n (some 39)=apS evR (H.length+5) (o++[QAO H.length e]):=fun n hn=>by
       unfold apS
       rw[hnl,if_neg (by omega),hn]
       rfl
      rw[hap]
      ·have ao:(apS evR (H.length+2) (o++[QAO H.length e])).ok (fun i=>decide (i<H.length+3))=true:=Yv9 _ _ _ (by simp)
       refine Bt.low (p':=H.length) (Bt.sel [2,3,5] hHB (by decide) ⟨⟨_,rfl,?_⟩,⟨_,rfl,?_⟩,⟨_,rfl,?_⟩,trivial⟩ ?_) (by omega) (by rw[List.length_append];omega)
       ·exact of_eq_true (YhS ..)
       ·exact of_eq_true (YhS ..)
       ·have oc:∀l:List AV,l=evR.cells o++l:=fun l=>by rw[o0];rfl
        rw[oc (evtF _)]
        refine q1q (r:=evR) (l:=o) hook (Qet _ _ _ (decide_eq_true (by simp only[List.length_cons,List.length_nil];omega)) (decide_eq_true (by simp only[List.length_cons,List.length_nil];omega))) ?_
        rw[ZxE,qun,show selN H.length [2,3,5] H.length=H.length+2 from JRu 0,show selN H.length [2,3,5] (H.length+1)=H.length+3 from JRu 1]
        exact Qs6 _
       ·simp only[tp_0,tp_s,List.cons_append,List.nil_append,KlC,FrSel,BlkSel,AV.ren,renL,AV.ok,okL,Option.some.injEq,exists_eq_left',List.length_cons,List.length_nil,Nat.reduceAdd,Nat.reduceLT,reduceCtorEq,implies_true,exists_eq',soH,srH,ao]
      ·omega
     ·have gs:∀id,apS evR id o=.sl id 0 i i (some 39):=fun id=>by unfold apS;rw[hol,if_neg hi0];rfl
      have rB:∀b,resN evR b o=.blk false b (evR.cells o):=fun b=>by rw[qPl b (by rw[hol];exact hi0)]
      have oS:∀(q:Nat->Bool) id,q id=true->(AV.sl id 0 i i (some 39)).ok q=true:=fun q id hq=>by simp [AV.ok,hq]
      have hJ:j<i:=by omega
      have s1:∀id,slL 39 (.sl id 0 i i (some 39)) none (some (.i .i64 ((j:Nat):Int))) none=some (.sl id 0 (j) i (some 39)):=fun id=>XH0 (Nat.le_of_lt hJ)
      have s2:∀id,slL 39 (.sl id 0 i i (some 39)) (some (.i .i64 ((j:Nat):Int))) none none=some (.sl id (0+(j)*39) (i-(j)) (i-(j)) (some 39)):=fun id=>Y7I hJ (by decide)
      have n0:(i-(j)=0)=False:=eq_false (by omega)
      have mR:((i-(j))*136<=140737488355328/\i-(j)<=maxLen)=True:=eq_true ⟨by omega,by unfold maxLen;omega⟩
      have w1:((j)*39+(i-(j))*39<=i*39)=True:=eq_true (by omega)
      have kd:(evR.cells (o.drop (j))).length=(i-(j))*39:=by rw[J4R,List.length_drop,hol]
      have cd:(evR.cells o).drop ((j)*39)=evR.cells (o.drop (j)):=evR.cells_drop o (j)
      have tk2:(evR.cells (o.drop (j))).take ((i-(j))*39)=evR.cells (o.drop (j)):=List.take_of_length_le (by rw[kd];exact Nat.le_refl _)
      have ap1:∀Z x,appW (H++(.blk false true (evR.cells o)::Z)) false 39 136 (.sl (H.length+0) 0 (j) i (some 39)) 1 (evtF x)=some (.sl (H.length+0) 0 (j+1) i (some 39),H++(.blk false true (over (evR.cells o) ((j)*39) (evtF x))::Z)):=fun Z x=>ZAy (h:=H) (.blk false true (evR.cells o)::Z) 0 (j) i 39 136 false false (evR.cells o) (evtF x) rfl kl hJ (YXj x) (Q7m x)
      have ap1z:∀Z x,appW (H.map AB.freeze++(.blk false true (evR.cells o)::Z)) false 39 136 (.sl (H.length+0) 0 (j) i (some 39)) 1 (evtF x)=some (.sl (H.length+0) 0 (j+1) i (some 39),H.map AB.freeze++(.blk false true (over (evR.cells o) ((j)*39) (evtF x))::Z)):=fun Z x=>by have:=ZAy (h:=H.map AB.freeze) (.blk false true (evR.cells o)::Z) 0 (j) i 39 136 false false (evR.cells o) (evtF x) rfl kl hJ (YXj x) (Q7m x);rw[List.length_map]at this;exact this
      have ap2:∀Z x,appW (H++(.blk false true (over (evR.cells o) ((j)*39) (evtF x))::Z)) false 39 136 (.sl (H.length+0) 0 (j+1) i (some 39)) (i-(j)) (evR.cells (o.drop (j)))=some (.sl (H.length+(AB.dead::Z).length) 0 (j+1+(i-(j))) (j+1+(i-(j))) (some 39),H++(.dead::Z++[.blk false true (evR.cells (o.take (j))++evtF x++evR.cells (o.drop (j)))])):=fun Z x=>by
       have:=zry (h:=H) (.blk false true (over (evR.cells o) ((j)*39) (evtF x))::Z) 0 (j+1) i (i-(j)) 39 136 false (over (evR.cells o) ((j)*39) (evtF x)) (evR.cells (o.drop (j))) rfl (by rw[<-hol];exact Xba (r:=evR) o x rfl (by rw[hol];exact hJ)) (by decide) (by omega) (by omega) (by omega) (by unfold maxLen;omega)
       have ct:List.take ((j+1)*39) (over (evR.cells o) ((j)*39) (evtF x))=evR.cells (o.take (j))++evtF x:=ZDn (r:=evR) (sz:=39) o x rfl (by rw[hol];exact hJ)
       rw[ct]at this
       exact this
      have ap2z:∀Z x,appW (H.map AB.freeze++(.blk false true (over (evR.cells o) ((j)*39) (evtF x))::Z)) false 39 136 (.sl (H.length+0) 0 (j+1) i (some 39)) (i-(j)) (evR.cells (o.drop (j)))=some (.sl (H.length+(AB.dead::Z).length) 0 (j+1+(i-(j))) (j+1+(i-(j))) (some 39),H.map AB.freeze++(.dead::Z++[.blk false true (evR.cells (o.take (j))++evtF x++evR.cells (o.drop (j)))])):=fun Z x=>by
       have:=zry (h:=H.map AB.freeze) (.blk false true (over (evR.cells o) ((j)*39) (evtF x))::Z) 0 (j+1) i (i-(j)) 39 136 false (over (evR.cells o) ((j)*39) (evtF x)) (evR.cells (o.drop (j))) rfl (by rw[<-hol];exact Xba (r:=evR) o x rfl (by rw[hol];exact hJ)) (by decide) (by omega) (by omega) (by omega) (by unfold maxLen;omega)
       have ct:List.take ((j+1)*39) (over (evR.cells o) ((j)*39) (evtF x))=evR.cells (o.take (j))++evtF x:=ZDn (r:=evR) (sz:=39) o x rfl (by rw[hol];exact hJ)
       rw[ct,List.length_map]at this
       exact this
      have okd:∀q:Nat->Bool,okL q (evR.cells o)=true->okL q (evR.cells (o.drop (j)))=true:=fun q hq=>by
       rw[<-cd]
       exact zFH.2 fun j x hx=>zFH.1 hq _ x (by rw[List.getElem?_drop]at hx;exact hx)
      have okd1:=fun c=>okd _ (ck1 c)
      have okd2:=fun c lo hi anc past=>okd _ (ck2 c lo hi anc past)
      have okt:∀q:Nat->Bool,okL q (evR.cells o)=true->okL q (evR.cells (o.take (j)))=true:=fun q hq=>by
       rw[show evR.cells (o.take (j))=(evR.cells o).take ((j)*39) from (evR.cells_take o (j)).symm]
       exact zFH.2 fun j x hx=>zFH.1 hq j x (by rw[List.getElem?_take]at hx;split at hx;exact hx;cases hx)
      have okt1:=fun c=>okt _ (ck1 c)
      have okt2:=fun c lo hi anc past=>okt _ (ck2 c lo hi anc past)
      have okv:∀(q:Nat->Bool) x,okL q (evR.cells o)=true->(x.deps.a.ok q&&x.refs.a.ok q)=true->okL q (over (evR.cells o) ((j)*39) (evtF x))=true:=fun q x h1 h2=>XcR _ h1 (by rw[zNY];exact h2)
      simp only[QhU,YqB,z16,qdd,Qgj,if_true,if_false,reduceIte,Nat.reduceAdd,Nat.reduceSub,Nat.reduceLeDiff,Nat.reduceEqDiff,Nat.reduceMul,Nat.reduceLT,Int.reduceLT,Int.reduceLE,Int.reduceEq,CO.tmps,Opd.tmps,optT,Nat.reducePow,Nat.reduceDiv,Nat.reduceMod,f1a,f1b,f1c,f1d,f1e,f1f,lda,g,gz,soH,soq,soe,soeq,oe1,oe2,ck1,ck2,q1b,Zgx,ZGX,Zz9,gd,gdz,gf,gfz,b1,e1,Q7m,YXj,lt,c1,zNY,QAO,zuo,exB,Y4D,zOd,Nat.le_refl,X1A,X01,XUr hHB,Int.toNat_natCast,Option.bind_some,Option.map_some,if_true,if_false,decide_true,decide_false,ne_eq,not_false_eq_true,not_true_eq_false,false_implies,forall_const,and_true,true_and,z',gs,rB,oS,ap2,ap2z,okd1,okd2,okt1,okt2,okv,Qgf,ovE,kl,s1,s2,n0,mR,w1,kd,cd,tk2,ap1,ap1z,Y4a,Nat.zero_add]
      refine ⟨i+1,g,by dsimp only;omega,?_⟩
      dsimp only
      have hnew:(srtI XAO (ZDg h.length (M.take (i+1)))).map (·.1)=o.take (j)++QAO H.length e::o.drop (j):=by
       rw[n1,hj2,show S.take j=[] by rw[hj0];rfl,Y64,List.singleton_append,show e'::S.drop j=S.take j++e'::S.drop j by rw[hj0];rfl,List.map_append,List.map_cons,List.map_take,List.map_drop,ho2,<-he']
      rw[n2,hnew,show h.length+2*(i+1)=H.length+2 by omega]
      have hnl:(o.take (j)++QAO H.length e::o.drop (j)).length=i+1:=by rw[List.length_append,List.length_cons,List.length_take,List.length_drop];omega
      have hap:∀n,n=i+1->AV.sl (H.length+6) 0 n n (some 39)=apS evR (H.length+6) (o.take (j)++QAO H.length e::o.drop (j)):=fun n hn=>by
       unfold apS
       rw[hnl,if_neg (by omega),hn]
       rfl
      rw[hap]
      ·have ao:(apS evR (H.length+2) (o.take (j)++QAO H.length e::o.drop (j))).ok (fun i=>decide (i<H.length+3))=true:=Yv9 _ _ _ (by simp)
       refine Bt.low (p':=H.length) (Bt.sel [3,4,6] hHB (by decide) ⟨⟨_,rfl,?_⟩,⟨_,rfl,?_⟩,⟨_,rfl,?_⟩,trivial⟩ ?_) (by omega) (by rw[List.length_append];omega)
       ·exact of_eq_true (YhS ..)
       ·exact of_eq_true (YhS ..)
       ·rw[List.append_assoc]
        refine qC6 (r:=evR) (fun x hx=>hook x (List.mem_of_mem_take hx)) (fun x hx=>hook x (List.mem_of_mem_drop hx)) (Qet _ _ _ (decide_eq_true (by simp only[List.length_cons,List.length_nil];omega)) (decide_eq_true (by simp only[List.length_cons,List.length_nil];omega))) ?_
        rw[ZxE,qun,show selN H.length [3,4,6] H.length=H.length+3 from JRu 0,show selN H.length [3,4,6] (H.length+1)=H.length+4 from JRu 1]
        exact Qs6 _
       ·simp only[tp_0,tp_s,List.cons_append,List.nil_append,KlC,FrSel,BlkSel,AV.ren,renL,AV.ok,okL,Option.some.injEq,exists_eq_left',List.length_cons,List.length_nil,Nat.reduceAdd,Nat.reduceLT,reduceCtorEq,implies_true,exists_eq',soH,srH,ao]
      ·omega
    ·obtain ⟨k,hk⟩:∃k,j=k+1:=⟨j-1,by omega⟩
     have hi0:i≠0:=by omega
     have z':((0:Int)<(j:Int))=True:=eq_true (by omega)
     have ej:IntKind.i64.wrap ((j:Int)-1)=(k:Int):=by rw[ZWm (by unfold In64;omega)];omega
     have gs:∀id,apS evR id o=.sl id 0 i i (some 39):=fun id=>by unfold apS;rw[hol,if_neg hi0];rfl
     have rB:∀b,resN evR b o=.blk false b (evR.cells o):=fun b=>by rw[qPl b (by rw[hol];exact hi0)]
     have hjS:k<S.length:=by omega
     obtain ⟨y,hy⟩:∃y,S[k]=y:=⟨_,rfl⟩
     have hyS:y∈S:=by rw[<-hy];exact List.getElem_mem hjS
     have hyo:o.getD k evR.d=y.1:=by rw[<-ho2,List.getD_eq_getElem?_getD,List.getElem?_map,List.getElem?_eq_getElem hjS,hy];rfl
     obtain ⟨yd,yb⟩:=hSd y hyS
     have yo:=hSok y hyS
     have gy:∀L,getS intR (H++L) y.1.deps.a=some y.2.1:=fun L=>(yd.app _).get
     have gyz:∀L,getS intR (H.map AB.freeze++L) y.1.deps.a=some y.2.1:=fun L=>(yd.frz.app _).get
     have oy1:∀c,okL (fun j=>decide (j<H.length+c)) (evtF y.1)=true:=fun c=>KAd (fun i q=>by simp only[decide_eq_true_eq]at q ⊢;omega) _ yo
     have oy2:∀c lo hi anc past,okL (qOk (H.length+c) lo hi anc past) (evtF y.1)=true:=fun c lo hi anc past=>KAd (fun i q=>YO3 (by have:=of_decide_eq_true q;omega)) _ yo
     have iA:∀(id:Nat) (t:Int) ,iadV 39 (.sl id 0 i i (some 39)) (.i .i64 t)=if 0<=t/\t<(i:Int) then some (elP 39 (.sl id 0 i i (some 39)) t.toNat 0) else none:=fun id t=>XCX ..
     have g6:((0:Int)<=(k:Int)/\(k:Int)<(i:Int))=True:=eq_true (by omega)
     have ro:∀b z,Rd evR (H++(.blk false b (evR.cells o)::z)) (.sl (H.length+0) 0 i i (some 39)) o:=fun b z=>by
      have:=qFX (r:=evR) (H:=H++(.blk false b (evR.cells o)::z)) (id:=H.length) (m:=b) (l:=o) (by rw[List.getElem?_append_right (Nat.le_refl _),Nat.sub_self,rB b];rfl) (by unfold maxLen;omega)
      rwa [gs]at this
     have ldo:∀b z,ldV (H++(.blk false b (evR.cells o)::z)) (some 39) (elP 39 (.sl (H.length+0) 0 i i (some 39)) k 0)=some (.ag (evtF y.1)):=fun b z=>by
      have:=(ro b z).lda k (by omega)
      rw[hyo]at this
      exact this
     have ji:(k<i)=True:=eq_true (by omega)
     have ei:∀j id,idOf (elP 39 (.sl id 0 i i (some 39)) j 0)=[id]:=fun j id=>rfl
     have eo:∀j (q:Nat->Bool) id,(elP 39 (.sl id 0 i i (some 39)) j 0).ok q=q id:=fun j q id=>by simp [elP,AV.ok]
     have oS:∀(q:Nat->Bool) id,q id=true->(AV.sl id 0 i i (some 39)).ok q=true:=fun q id hq=>by simp [AV.ok,hq]
     have hbb:=eq_true (p:=e.2.1.length<=1000000/\y.2.1.length<=1000000) ⟨by omega,yb⟩
     rcases emG (ZHl e.1.dot (wS e.2.1 e.2.1.length) y.1.dot (wS y.2.1 y.2.1.length)) with q|q
     ·simp only[QhU,YqB,z16,qdd,Qgj,if_true,if_false,reduceIte,Nat.reduceAdd,Nat.reduceSub,Nat.reduceLeDiff,Nat.reduceEqDiff,Nat.reduceMul,Nat.reduceLT,Int.reduceLT,Int.reduceLE,Int.reduceEq,CO.tmps,Opd.tmps,optT,Nat.reducePow,Nat.reduceDiv,Nat.reduceMod,z',ej,f1a,f1b,f1c,f1d,f1e,f1f,lda,g,gz,gs,rB,iA,g6,ji,ei,ldo,eo,oS,oe1,oe2,oy1,oy2,ck1,ck2,soH,soq,soe,soeq,q1b,Zz9,gd,gdz,gy,gyz,hbb,q,X1A,X01,XUr hHB,Int.toNat_natCast,Option.bind_some,Option.map_some,if_true,if_false,oD,ne_eq,forall_const]
      refine ⟨k,⟨by omega,?_⟩,by dsimp only;omega,?_⟩
      ·rw[hj2,hk,List.take_succ_eq_append_getElem hjS,hy,List.drop_eq_getElem_cons hjS,hy,XpT XAO (S.take k) (show XAO e' y by rw[<-he'];exact of_eq_true q),List.append_assoc]
       rfl
      ·refine Bt.wk ?_
       simp only[z16,Xq6,if_true,if_false,reduceIte,Nat.reduceAdd,Nat.reduceSub,Nat.reduceLeDiff,Nat.reduceEqDiff,Nat.reduceMul,Nat.reduceLT,Int.reduceLT,Int.reduceLE,Int.reduceEq]
     ·have qn:=of_eq_false q
      have hins:insB XAO S e'=S.take j++e'::S.drop j:=by
       rw[hj2,hk,List.take_succ_eq_append_getElem hjS,hy,Kyq XAO (S.take k) (show ¬XAO e' y by rw[<-he'];exact qn),List.append_assoc,List.append_assoc]
       rfl
      by_cases hJi:j=i
      ·skip
       have am0:∀H id off n c k ys,appW H false 39 136 (.sl id off n c k) 0 ys=some (.sl id off n c k,H):=fun H id off n c k ys=>by unfold appW;dsimp only;rw[if_pos rfl]
       have em0:∀H id k,srcV H 39 (.sl id 0 0 0 k)=some (0,[]):=fun H id k=>rfl
       have s1:∀id,slL 39 (.sl id 0 i i (some 39)) none (some (.i .i64 (j:Int))) none=some (.sl id 0 j i (some 39)):=fun id=>XH0 (by omega)
       have s2:∀id,slL 39 (.sl id 0 i i (some 39)) (some (.i .i64 (j:Int))) none none=some .se:=fun id=>by rw[hJi];simp [slL,bnd,hi0]
       have q1:∀q,AV.se.ok q=true:=fun q=>by simp [AV.ok]
       have q2:∀H,srcV H 39 .se=some (0,[]):=fun H=>rfl
       have tk:(evR.cells o).take (j*39)=evR.cells o:=List.take_of_length_le (by rw[kl,hJi];exact Nat.le_refl _)
       have ap1:∀Z x,appW (H++(.blk false true (evR.cells o)::Z)) false 39 136 (.sl (H.length+0) 0 j i (some 39)) 1 (evtF x)=some (.sl (H.length+(AB.dead::Z).length) 0 (j+1) (j+1) (some 39),H++(.dead::Z++[.blk false true (evR.cells o++evtF x)])):=fun Z x=>by
        have:=zry (h:=H) (.blk false true (evR.cells o)::Z) 0 j i 1 39 136 false (evR.cells o) (evtF x) rfl kl (by decide) (by omega) (by omega) (by omega) (by unfold maxLen;omega)
        rw[tk]at this
        exact this
       have ap1z:∀Z x,appW (H.map AB.freeze++(.blk false true (evR.cells o)::Z)) false 39 136 (.sl (H.length+0) 0 j i (some 39)) 1 (evtF x)=some (.sl (H.length+(AB.dead::Z).length) 0 (j+1) (j+1) (some 39),H.map AB.freeze++(.dead::Z++[.blk false true (evR.cells o++evtF x)])):=fun Z x=>by
        have:=zry (h:=H.map AB.freeze) (.blk false true (evR.cells o)::Z) 0 j i 1 39 136 false (evR.cells o) (evtF x) rfl kl (by decide) (by omega) (by omega) (by omega) (by unfold maxLen;omega)
        rw[tk,List.length_map]at this
        exact this
       simp only[QhU,YqB,z16,qdd,Qgj,if_true,if_false,reduceIte,Nat.reduceAdd,Nat.reduceSub,Nat.reduceLeDiff,Nat.reduceEqDiff,Nat.reduceMul,Nat.reduceLT,Int.reduceLT,Int.reduceLE,Int.reduceEq,CO.tmps,Opd.tmps,optT,Nat.reducePow,Nat.reduceDiv,Nat.reduceMod,f1a,f1b,f1c,f1d,f1e,f1f,lda,g,gz,soH,soq,soe,soeq,oe1,oe2,ck1,ck2,q1b,Zgx,ZGX,Zz9,gd,gdz,gf,gfz,b1,e1,Q7m,YXj,lt,c1,zNY,QAO,zuo,exB,Y4D,zOd,Nat.le_refl,X1A,X01,XUr hHB,Int.toNat_natCast,Option.bind_some,Option.map_some,if_true,if_false,decide_true,decide_false,ne_eq,not_false_eq_true,not_true_eq_false,false_implies,forall_const,and_true,true_and,z',ej,gs,rB,iA,g6,ji,ei,ldo,eo,oS,oy1,oy2,gy,gyz,hbb,q,am0,em0,kl,Qgf,ovE,Y4a,Nat.zero_add,s1,s2,q1,q2,ap1,ap1z]
       refine ⟨i+1,g,by dsimp only;omega,?_⟩
       dsimp only
       have hnew:(srtI XAO (ZDg h.length (M.take (i+1)))).map (·.1)=o++[QAO H.length e]:=by
        rw[n1,(show insB XAO S e'=S++[e'] by rw[hins,List.take_of_length_le (by omega),List.drop_eq_nil_of_le (by omega)]),List.map_append,ho2,<-he']
        rfl
       rw[n2,hnew,show h.length+2*(i+1)=H.length+2 by omega]
       have hnl:(o++[QAO H.length e]).length=i+1:=by rw[List.length_append,hol];rfl
       have hap:∀n,n=i+1->AV.sl (H.length+5) 0 n n (some 39)=apS evR (H.length+5) (o++[QAO H.length e]):=fun n hn=>by
        unfold apS
        rw[hnl,if_neg (by omega),hn]
        rfl
       rw[hap]
       ·have ao:(apS evR (H.length+2) (o++[QAO H.length e])).ok (fun i=>decide (i<H.length+3))=true:=Yv9 _ _ _ (by simp)
        refine Bt.low (p':=H.length) (Bt.sel [2,3,5] hHB (by decide) ⟨⟨_,rfl,?_⟩,⟨_,rfl,?_⟩,⟨_,rfl,?_⟩,trivial⟩ ?_) (by omega) (by rw[List.length_append];omega)
        ·exact of_eq_true (YhS ..)
        ·exact of_eq_true (YhS ..)
        ·refine q1q (r:=evR) (l:=o) hook (Qet _ _ _ (decide_eq_true (by simp only[List.length_cons,List.length_nil];omega)) (decide_eq_true (by simp only[List.length_cons,List.length_nil];omega))) ?_
         rw[ZxE,qun,show selN H.length [2,3,5] H.length=H.length+2 from JRu 0,show selN H.length [2,3,5] (H.length+1)=H.length+3 from JRu 1]
         exact Qs6 _
        ·simp only[tp_0,tp_s,List.cons_append,List.nil_append,KlC,FrSel,BlkSel,AV.ren,renL,AV.ok,okL,Option.some.injEq,exists_eq_left',List.length_cons,List.length_nil,Nat.reduceAdd,Nat.reduceLT,reduceCtorEq,implies_true,exists_eq',soH,srH,ao]
       ·omega
      ·skip
       have hJ:j<i:=by omega
       have s1:∀id,slL 39 (.sl id 0 i i (some 39)) none (some (.i .i64 ((j:Nat):Int))) none=some (.sl id 0 (j) i (some 39)):=fun id=>XH0 (Nat.le_of_lt hJ)
       have s2:∀id,slL 39 (.sl id 0 i i (some 39)) (some (.i .i64 ((j:Nat):Int))) none none=some (.sl id (0+(j)*39) (i-(j)) (i-(j)) (some 39)):=fun id=>Y7I hJ (by decide)
       have n0:(i-(j)=0)=False:=eq_false (by omega)
       have mR:((i-(j))*136<=140737488355328/\i-(j)<=maxLen)=True:=eq_true ⟨by omega,by unfold maxLen;omega⟩
       have w1:((j)*39+(i-(j))*39<=i*39)=True:=eq_true (by omega)
       have kd:(evR.cells (o.drop (j))).length=(i-(j))*39:=by rw[J4R,List.length_drop,hol]
       have cd:(evR.cells o).drop ((j)*39)=evR.cells (o.drop (j)):=evR.cells_drop o (j)
       have tk2:(evR.cells (o.drop (j))).take ((i-(j))*39)=evR.cells (o.drop (j)):=List.take_of_length_le (by rw[kd];exact Nat.le_refl _)
       have ap1:∀Z x,appW (H++(.blk false true (evR.cells o)::Z)) false 39 136 (.sl (H.length+0) 0 (j) i (some 39)) 1 (evtF x)=some (.sl (H.length+0) 0 (j+1) i (some 39),H++(.blk false true (over (evR.cells o) ((j)*39) (evtF x))::Z)):=fun Z x=>ZAy (h:=H) (.blk false true (evR.cells o)::Z) 0 (j) i 39 136 false false (evR.cells o) (evtF x) rfl kl hJ (YXj x) (Q7m x)
       have ap1z:∀Z x,appW (H.map AB.freeze++(.blk false true (evR.cells o)::Z)) false 39 136 (.sl (H.length+0) 0 (j) i (some 39)) 1 (evtF x)=some (.sl (H.length+0) 0 (j+1) i (some 39),H.map AB.freeze++(.blk false true (over (evR.cells o) ((j)*39) (evtF x))::Z)):=fun Z x=>by have:=ZAy (h:=H.map AB.freeze) (.blk false true (evR.cells o)::Z) 0 (j) i 39 136 false false (evR.cells o) (evtF x) rfl kl hJ (YXj x) (Q7m x);rw[List.length_map]at this;exact this
       have ap2:∀Z x,appW (H++(.blk false true (over (evR.cells o) ((j)*39) (evtF x))::Z)) false 39 136 (.sl (H.length+0) 0 (j+1) i (some 39)) (i-(j)) (evR.cells (o.drop (j)))=some (.sl (H.length+(AB.dead::Z).length) 0 (j+1+(i-(j))) (j+1+(i-(j))) (some 39),H++(.dead::Z++[.blk false true (evR.cells (o.take (j))++evtF x++evR.cells (o.drop (j)))])):=fun Z x=>by
        have:=zry (h:=H) (.blk false true (over (evR.cells o) ((j)*39) (evtF x))::Z) 0 (j+1) i (i-(j)) 39 136 false (over (evR.cells o) ((j)*39) (evtF x)) (evR.cells (o.drop (j))) rfl (by rw[<-hol];exact Xba (r:=evR) o x rfl (by rw[hol];exact hJ)) (by decide) (by omega) (by omega) (by omega) (by unfold maxLen;omega)
        have ct:List.take ((j+1)*39) (over (evR.cells o) ((j)*39) (evtF x))=evR.cells (o.take (j))++evtF x:=ZDn (r:=evR) (sz:=39) o x rfl (by rw[hol];exact hJ)
        rw[ct]at this
        exact this
       have ap2z:∀Z x,appW (H.map AB.freeze++(.blk false true (over (evR.cells o) ((j)*39) (evtF x))::Z)) false 39 136 (.sl (H.length+0) 0 (j+1) i (some 39)) (i-(j)) (evR.cells (o.drop (j)))=some (.sl (H.length+(AB.dead::Z).length) 0 (j+1+(i-(j))) (j+1+(i-(j))) (some 39),H.map AB.freeze++(.dead::Z++[.blk false true (evR.cells (o.take (j))++evtF x++evR.cells (o.drop (j)))])):=fun Z x=>by
        have:=zry (h:=H.map AB.freeze) (.blk false true (over (evR.cells o) ((j)*39) (evtF x))::Z) 0 (j+1) i (i-(j)) 39 136 false (over (evR.cells o) ((j)*39) (evtF x)) (evR.cells (o.drop (j))) rfl (by rw[<-hol];exact Xba (r:=evR) o x rfl (by rw[hol];exact hJ)) (by decide) (by omega) (by omega) (by omega) (by unfold maxLen;omega)
        have ct:List.take ((j+1)*39) (over (evR.cells o) ((j)*39) (evtF x))=evR.cells (o.take (j))++evtF x:=ZDn (r:=evR) (sz:=39) o x rfl (by rw[hol];exact hJ)
        rw[ct,List.length_map]at this
        exact this
       have okd:∀q:Nat->Bool,okL q (evR.cells o)=true->okL q (evR.cells (o.drop (j)))=true:=fun q hq=>by
        rw[<-cd]
        exact zFH.2 fun j x hx=>zFH.1 hq _ x (by rw[List.getElem?_drop]at hx;exact hx)
       have okd1:=fun c=>okd _ (ck1 c)
       have okd2:=fun c lo hi anc past=>okd _ (ck2 c lo hi anc past)
       have okt:∀q:Nat->Bool,okL q (evR.cells o)=true->okL q (evR.cells (o.take (j)))=true:=fun q hq=>by
        rw[show evR.cells (o.take (j))=(evR.cells o).take ((j)*39) from (evR.cells_take o (j)).symm]
        exact zFH.2 fun j x hx=>zFH.1 hq j x (by rw[List.getElem?_take]at hx;split at hx;exact hx;cases hx)
       have okt1:=fun c=>okt _ (ck1 c)
       have okt2:=fun c lo hi anc past=>okt _ (ck2 c lo hi anc past)
       have okv:∀(q:Nat->Bool) x,okL q (evR.cells o)=true->(x.deps.a.ok q&&x.refs.a.ok q)=true->okL q (over (evR.cells o) ((j)*39) (evtF x))=true:=fun q x h1 h2=>XcR _ h1 (by rw[zNY];exact h2)
       simp only[QhU,YqB,z16,qdd,Qgj,if_true,if_false,reduceIte,Nat.reduceAdd,Nat.reduceSub,Nat.reduceLeDiff,Nat.reduceEqDiff,Nat.reduceMul,Nat.reduceLT,Int.reduceLT,Int.reduceLE,Int.reduceEq,CO.tmps,Opd.tmps,optT,Nat.reducePow,Nat.reduceDiv,Nat.reduceMod,f1a,f1b,f1c,f1d,f1e,f1f,lda,g,gz,soH,soq,soe,soeq,oe1,oe2,ck1,ck2,q1b,Zgx,ZGX,Zz9,gd,gdz,gf,gfz,b1,e1,Q7m,YXj,lt,c1,zNY,QAO,zuo,exB,Y4D,zOd,Nat.le_refl,X1A,X01,XUr hHB,Int.toNat_natCast,Option.bind_some,Option.map_some,if_true,if_false,decide_true,decide_false,ne_eq,not_false_eq_true,not_true_eq_false,false_implies,forall_const,and_true,true_and,z',ej,gs,rB,iA,g6,ji,ei,ldo,eo,oS,oy1,oy2,gy,gyz,hbb,q,ap2,ap2z,okd1,okd2,okt1,okt2,okv,Qgf,ovE,kl,s1,s2,n0,mR,w1,kd,cd,tk2,ap1,ap1z,Y4a,Nat.zero_add]
       refine ⟨i+1,g,by dsimp only;omega,?_⟩
       dsimp only
       have hnew:(srtI XAO (ZDg h.length (M.take (i+1)))).map (·.1)=o.take (j)++QAO H.length e::o.drop (j):=by
        rw[n1,hins,List.map_append,List.map_cons,List.map_take,List.map_drop,ho2,<-he']
       rw[n2,hnew,show h.length+2*(i+1)=H.length+2 by omega]
       have hnl:(o.take (j)++QAO H.length e::o.drop (j)).length=i+1:=by rw[List.length_append,List.length_cons,List.length_take,List.length_drop];omega
       have hap:∀n,n=i+1->AV.sl (H.length+6) 0 n n (some 39)=apS evR (H.length+6) (o.take (j)++QAO H.length e::o.drop (j)):=fun n hn=>by
        unfold apS
        rw[hnl,if_neg (by omega),hn]
        rfl
       rw[hap]
       ·have ao:(apS evR (H.length+2) (o.take (j)++QAO H.length e::o.drop (j))).ok (fun i=>decide (i<H.length+3))=true:=Yv9 _ _ _ (by simp)
        refine Bt.low (p':=H.length) (Bt.sel [3,4,6] hHB (by decide) ⟨⟨_,rfl,?_⟩,⟨_,rfl,?_⟩,⟨_,rfl,?_⟩,trivial⟩ ?_) (by omega) (by rw[List.length_append];omega)
        ·exact of_eq_true (YhS ..)
        ·exact of_eq_true (YhS ..)
        ·rw[List.append_assoc]
         refine qC6 (r:=evR) (fun x hx=>hook x (List.mem_of_mem_take hx)) (fun x hx=>hook x (List.mem_of_mem_drop hx)) (Qet _ _ _ (decide_eq_true (by simp only[List.length_cons,List.length_nil];omega)) (decide_eq_true (by simp only[List.length_cons,List.length_nil];omega))) ?_
         rw[ZxE,qun,show selN H.length [3,4,6] H.length=H.length+3 from JRu 0,show selN H.length [3,4,6] (H.length+1)=H.length+4 from JRu 1]
         exact Qs6 _
        ·simp only[tp_0,tp_s,List.cons_append,List.nil_append,KlC,FrSel,BlkSel,AV.ren,renL,AV.ok,okL,Option.some.injEq,exists_eq_left',List.length_cons,List.length_nil,Nat.reduceAdd,Nat.reduceLT,reduceCtorEq,implies_true,exists_eq',soH,srH,ao]
       ·omega
   ·have g':((i:Int)<(M.length:Int))=False:=eq_false (by omega)
    have hiM:i=M.length:=by omega
    subst hiM
    rw[List.take_length]
    simp only[QhU,YqB,z16,Xq6,if_true,if_false,reduceIte,Nat.reduceAdd,Nat.reduceSub,Nat.reduceLeDiff,Nat.reduceEqDiff,Nat.reduceMul,Nat.reduceLT,Int.reduceLT,Int.reduceLE,Int.reduceEq,f1,g',oD,ne_eq,forall_const]
    exact Bt.refl _ _ _
  ·cases e2
 ·cases e
end
section
set_option maxRecDepth 100000
def insK (x:Int×Int):Dots->Dots
 | []=>[x]
 | y::l=>if cmpD x y<0 then x::y::l else y::insK x l
def ZdH:Dots->Dots
 | []=>[]
 | x::l=>insK x (ZdH l)
theorem K94 (x:Int×Int):∀l,(insK x l).Perm (x::l)
 | []=>.refl _
 | y::l=>by
  unfold insK
  split
  ·exact .refl _
  ·exact ((K94 x l).cons y).trans (.swap x y l)
theorem zpx:∀l,(ZdH l).Perm l
 | []=>.refl _
 | x::l=>(K94 x (ZdH l)).trans ((zpx l).cons x)
def leD (a b:Int×Int):Prop:=¬cmpD b a<0
theorem qiS {a b c:Int×Int} (h1:leD a b) (h2:leD b c):leD a c:=by
 unfold leD at *
 rw[YtW]at *
 intro h3
 rcases YZu b a with q|q|q
 ·exact h1 q
 ·subst q;exact h2 h3
 ·exact h2 (q5V h3 q)
theorem XQU {a b:Int×Int} (h:cmpD a b<0):leD a b:=fun h2=>JW8 a (q5V ((YtW _ _).1 h) ((YtW _ _).1 h2))
theorem K1X (x:Int×Int):∀l,l.Pairwise leD->(insK x l).Pairwise leD
 | [],_=>List.pairwise_singleton _ _
 | y::l,h=>by
  obtain ⟨h1,h2⟩:=List.pairwise_cons.1 h
  unfold insK
  split
  ·rename_i hc
   refine List.pairwise_cons.2 ⟨fun z hz=>?_,h⟩
   rcases List.mem_cons.1 hz with rfl|hz
   ·exact XQU hc
   ·exact qiS (XQU hc) (h1 z hz)
  ·rename_i hc
   refine List.pairwise_cons.2 ⟨fun z hz=>?_,K1X x l h2⟩
   rcases List.mem_cons.1 ((K94 x l).mem_iff.1 hz) with rfl|hz
   ·exact hc
   ·exact h1 z hz
theorem zLN:∀l,(ZdH l).Pairwise leD
 | []=>List.Pairwise.nil
 | x::l=>K1X x _ (zLN l)
theorem ZVv (l:Dots):ZdH l=srtD l:=by
 have h2:(srtD l).Pairwise leD:=by
  have:=List.pairwise_mergeSort (le:=fun x y:Int×Int=>!(decide (cmpD y x<0))) (fun a b c h1 h2=>by
   have:=qiS (a:=a) (b:=b) (c:=c) (by simpa [leD] using h1) (by simpa [leD] using h2)
   simpa [leD] using this) (fun a b=>by
   by_cases h1:cmpD b a<0
   ·have:=XQU h1
    simp only[leD]at this
    simp [this]
   ·simp [h1]) l
  refine this.imp fun {a b} h=>?_
  simpa [leD] using h
 refine List.Perm.eq_of_pairwise (le:=leD) (fun a b _ _ h1 h2=>?_) (zLN l) h2 ((zpx l).trans (QL5 l).symm)
 unfold leD at h1 h2
 rw[YtW]at h1 h2
 rcases YZu a b with q|q|q
 ·exact absurd q h2
 ·exact q
 ·exact absurd q h1
def kvD:List AV->Option (List ((Int×Int)×AV))
 | .ag [.i .i64 a,.i .i64 b]::v::l=>(kvD l).map (((a,b),v) :: ·)
 | []=>some []
 | _=>none
theorem z43:∀ {kv:List AV} {l:List ((Int×Int)×AV)},kvD kv=some l->kv=kvF dotK l
 | [],l,e=>by cases e;rfl
 | [x],l,e=>by
  have:kvD [x]=none:=by
   unfold kvD
   split <;> first|rfl|(rename_i q;cases q)
  rw[this]at e
  cases e
 | x::v::kv,l,e=>by
  unfold kvD at e
  split at e
  ·rename_i a b v' l' he
   cases he
   obtain ⟨l2,h1,rfl⟩:=Option.map_eq_some_iff.1 e
   rw[z43 h1]
   rfl
  ·rename_i he;cases he
  ·cases e
def qFx:List AV->GT->Nat->Option (AV×HE):=fun args gt hl=>match args with
 | [.f (.func f) [] [.p j 0],.f (.func g) [] []]=>if f=148/\g=90 then
   match gt j with
   | some (.blk _ _ [.m mid])=>match gt mid with
    | some (.mo _ (.map bs c) kv)=>(kvD kv).bind fun l=>if bs=List.range l.length/\c=l.length/\l.length<=1000 then some (apS dotR hl (ZdH (l.map (·.1))),.new (resB dotR true (ZdH (l.map (·.1))))) else none
    | _=>none
   | _=>none
  else none
 | _=>none
theorem qSA:NvOk Tryz.prog 88 qFx:=by
 intro args gt h v e hg q
 unfold qFx at q
 split at q
 ·rename_i f j g
  split at q
  ·rename_i hfg
   obtain ⟨rfl,rfl⟩:=hfg
   split at q
   ·rename_i fl mu mid hj
    split at q
    ·rename_i m bs c kv hm
     obtain ⟨l,hl,q⟩:=oQ.1 q
     split at q
     ·rename_i hc
      cases q
      obtain ⟨rfl,rfl,hn⟩:=hc
      have hkv:=z43 hl
      subst hkv
      have b1:ZMh h j=some [.m mid]:=by
       unfold ZMh
       rw[Yyf (hg j) hj]
      have hm':=Yfg (hg mid) hm
      rw[ZVv]
      exact ⟨(Yey b1 hm' (by omega)).c,trivial⟩
     ·cases q
    ·cases q
   ·cases q
  ·cases q
 ·cases q
end
section
noncomputable def tl0:List (Option TC):=[none,none,none,none,none,some (.cf w5),none,none,none,none,some (.cf w10),some (.cf w11),none,none,some (.cf w14),none]
theorem ta0:AllN Tryz.prog 0 tl0:=(AllN.skip (AllN.skip (AllN.skip (AllN.skip (AllN.skip (AllN.cons Tryz.func5 sw5 (AllN.skip (AllN.skip (AllN.skip (AllN.skip (AllN.cons Tryz.func10 sw10 (AllN.cons Tryz.func11 sw11 (AllN.skip (AllN.skip (AllN.cons Tryz.func14 sw14 (AllN.skip trivial))))))))))))))))
noncomputable def tl1:List (Option TC):=[some (.cf w16),none,some (.cf w18),none,none,none,some (.cf w22),some (.cf w23),none,some (.cf w25),none,none,some (.cf w28),some (.cf w29),some (.cf w30),none]
theorem ta1:AllN Tryz.prog 16 tl1:=(AllN.cons Tryz.func16 sw16 (AllN.skip (AllN.cons Tryz.func18 sw18 (AllN.skip (AllN.skip (AllN.skip (AllN.cons Tryz.func22 sw22 (AllN.cons Tryz.func23 sw23 (AllN.skip (AllN.cons Tryz.func25 sw25 (AllN.skip (AllN.skip (AllN.cons Tryz.func28 sw28 (AllN.cons Tryz.func29 sw29 (AllN.cons Tryz.func30 sw30 (AllN.skip trivial))))))))))))))))
noncomputable def tl2:List (Option TC):=[none,some (.cf w33),none,some (.cf w35),none,some (.cf w37),none,none,some (.cf w40),some (.cf w41),none,none,none,none,some (.cf w46),none]
theorem ta2:AllN Tryz.prog 32 tl2:=(AllN.skip (AllN.cons Tryz.func33 sw33 (AllN.skip (AllN.cons Tryz.func35 sw35 (AllN.skip (AllN.cons Tryz.func37 sw37 (AllN.skip (AllN.skip (AllN.cons Tryz.func40 sw40 (AllN.cons Tryz.func41 sw41 (AllN.skip (AllN.skip (AllN.skip (AllN.skip (AllN.cons Tryz.func46 sw46 (AllN.skip trivial))))))))))))))))
noncomputable def tl3:List (Option TC):=[none,none,some (.cf w50),some (.cf w51),some (.cf w52),none,none,none,none,none,some (.cf w58),none,none,none,none,some (.cf w63)]
theorem ta3:AllN Tryz.prog 48 tl3:=(AllN.skip (AllN.skip (AllN.cons Tryz.func50 sw50 (AllN.cons Tryz.func51 sw51 (AllN.cons Tryz.func52 sw52 (AllN.skip (AllN.skip (AllN.skip (AllN.skip (AllN.skip (AllN.cons Tryz.func58 sw58 (AllN.skip (AllN.skip (AllN.skip (AllN.skip (AllN.cons Tryz.func63 sw63 trivial))))))))))))))))
noncomputable def tl4:List (Option TC):=[some (.cf w64),none,none,none,none,none,none,none,some (.cf w72),some (.cf w73),some (.cf w74),some (.cf w75),some (.cf w76),some (.cf w77),some (.cf w78),none]
theorem ta4:AllN Tryz.prog 64 tl4:=(AllN.cons Tryz.func64 sw64 (AllN.skip (AllN.skip (AllN.skip (AllN.skip (AllN.skip (AllN.skip (AllN.skip (AllN.cons Tryz.func72 sw72 (AllN.cons Tryz.func73 sw73 (AllN.cons Tryz.func74 sw74 (AllN.cons Tryz.func75 sw75 (AllN.cons Tryz.func76 sw76 (AllN.cons Tryz.func77 sw77 (AllN.cons Tryz.func78 sw78 (AllN.skip trivial))))))))))))))))
noncomputable def tl5:List (Option TC):=[some (.cf w80),some (.cf w81),some (.cf w82),some (.cf w83),none,none,none,some (.cf w87),some (.nv qFx),some (.cf w89),some (.cf w90),none,some (.cf w92),some (.cf w93),some (.cf w94),none]
theorem ta5:AllN Tryz.prog 80 tl5:=(AllN.cons Tryz.func80 sw80 (AllN.cons Tryz.func81 sw81 (AllN.cons Tryz.func82 sw82 (AllN.cons Tryz.func83 sw83 (AllN.skip (AllN.skip (AllN.skip (AllN.cons Tryz.func87 sw87 (AllN.nv qSA (AllN.cons Tryz.func89 sw89 (AllN.cons Tryz.func90 sw90 (AllN.skip (AllN.cons Tryz.func92 sw92 (AllN.cons Tryz.func93 sw93 (AllN.cons Tryz.func94 sw94 (AllN.skip trivial))))))))))))))))
noncomputable def tl6:List (Option TC):=[none,none,none,none,none,none,some (.cf w102),some (.cf w103),some (.cf w104),some (.cf w105),none,none,none,none,none,none]
theorem ta6:AllN Tryz.prog 96 tl6:=(AllN.skip (AllN.skip (AllN.skip (AllN.skip (AllN.skip (AllN.skip (AllN.cons Tryz.func102 qEq (AllN.cons Tryz.func103 YlT (AllN.cons Tryz.func104 Jeh (AllN.cons Tryz.func105 Y6y (AllN.skip (AllN.skip (AllN.skip (AllN.skip (AllN.skip (AllN.skip trivial))))))))))))))))
noncomputable def tl7:List (Option TC):=[none,none,none,none,none,none,none,none,none,none,none,some (.cf w123),some (.cf w124),none,none,some (.cf w127)]
theorem ta7:AllN Tryz.prog 112 tl7:=(AllN.skip (AllN.skip (AllN.skip (AllN.skip (AllN.skip (AllN.skip (AllN.skip (AllN.skip (AllN.skip (AllN.skip (AllN.skip (AllN.cons Tryz.func123 QzU (AllN.cons Tryz.func124 YA6 (AllN.skip (AllN.skip (AllN.cons Tryz.func127 X1r trivial))))))))))))))))
noncomputable def tl8:List (Option TC):=[some (.cf w128),some (.cf w129),some (.cf w130),some (.cf w131),none,none,none,none,some (.cf w136),some (.cf w137),some (.cf w138),some (.cf w139),some (.cf w140),none,some (.cf w142),some (.cf w143)]
theorem ta8:AllN Tryz.prog 128 tl8:=(AllN.cons Tryz.func128 qqU (AllN.cons Tryz.func129 qeD (AllN.cons Tryz.func130 qq4 (AllN.cons Tryz.func131 zJi (AllN.skip (AllN.skip (AllN.skip (AllN.skip (AllN.cons Tryz.func136 YAa (AllN.cons Tryz.func137 zjI (AllN.cons Tryz.func138 K3s (AllN.cons Tryz.func139 ZQu (AllN.cons Tryz.func140 K5C (AllN.skip (AllN.cons Tryz.func142 KBy (AllN.cons Tryz.func143 Xu1 trivial))))))))))))))))
noncomputable def tl9:List (Option TC):=[none,none,none,none,some (.cf w148),some (.cf w149),some (.cf w150),some (.cf w151),none,none,none,none,none,none,none,none]
theorem ta9:AllN Tryz.prog 144 tl9:=(AllN.skip (AllN.skip (AllN.skip (AllN.skip (AllN.cons Tryz.func148 Z4X (AllN.cons Tryz.func149 X0Z (AllN.cons Tryz.func150 JMJ (AllN.cons Tryz.func151 Q7o (AllN.skip (AllN.skip (AllN.skip (AllN.skip (AllN.skip (AllN.skip (AllN.skip (AllN.skip trivial))))))))))))))))
noncomputable def tl10:List (Option TC):=[none,none,none,none,none,none,some (.cf w166),none,none,none,none,none,none,none,none,none]
theorem ta10:AllN Tryz.prog 160 tl10:=(AllN.skip (AllN.skip (AllN.skip (AllN.skip (AllN.skip (AllN.skip (AllN.cons Tryz.func166 Y5M (AllN.skip (AllN.skip (AllN.skip (AllN.skip (AllN.skip (AllN.skip (AllN.skip (AllN.skip (AllN.skip trivial))))))))))))))))
noncomputable def tl11:List (Option TC):=[none,none,none,some (.cf w179),some (.cf w180),some (.cf w181),some (.cf w182),some (.cf w183),some (.cf w184),some (.cf w185),none,none,none,none,none,none]
theorem ta11:AllN Tryz.prog 176 tl11:=(AllN.skip (AllN.skip (AllN.skip (AllN.cons Tryz.func179 J98 (AllN.cons Tryz.func180 zH7 (AllN.cons Tryz.func181 KCg (AllN.cons Tryz.func182 Kg1 (AllN.cons Tryz.func183 KMa (AllN.cons Tryz.func184 zjP (AllN.cons Tryz.func185 Ksm (AllN.skip (AllN.skip (AllN.skip (AllN.skip (AllN.skip (AllN.skip trivial))))))))))))))))
noncomputable def tl12:List (Option TC):=[none,none,some (.cf w194),some (.cf w195),some (.cf w196),none,none,none,some (.cf w200),some (.cf w201),some (.cf w202),none,none,none,none,none]
theorem ta12:AllN Tryz.prog 192 tl12:=(AllN.skip (AllN.skip (AllN.cons Tryz.func194 q5w (AllN.cons Tryz.func195 XkX (AllN.cons Tryz.func196 Jtm (AllN.skip (AllN.skip (AllN.skip (AllN.cons Tryz.func200 X72 (AllN.cons Tryz.func201 KOX (AllN.cons Tryz.func202 JfB (AllN.skip (AllN.skip (AllN.skip (AllN.skip (AllN.skip trivial))))))))))))))))
noncomputable def tl13:List (Option TC):=[none,none,some (.cf w210),some (.cf w211),none,none,none,none,none,none,none,none,none,none,some (.cf w222),some (.cf w223)]
theorem ta13:AllN Tryz.prog 208 tl13:=(AllN.skip (AllN.skip (AllN.cons Tryz.func210 zsC (AllN.cons Tryz.func211 Q2h (AllN.skip (AllN.skip (AllN.skip (AllN.skip (AllN.skip (AllN.skip (AllN.skip (AllN.skip (AllN.skip (AllN.skip (AllN.cons Tryz.func222 JL3 (AllN.cons Tryz.func223 QVg trivial))))))))))))))))
noncomputable def tl14:List (Option TC):=[some (.cf w224),some (.cf w225),some (.cf w226),some (.cf w227),some (.cf w228),some (.cf w229),some (.cf w230),some (.cf w231),some (.cf w232),some (.cf w233),some (.cf w234),none,none,none,none,none]
theorem ta14:AllN Tryz.prog 224 tl14:=(AllN.cons Tryz.func224 zdu (AllN.cons Tryz.func225 Jmz (AllN.cons Tryz.func226 XZI (AllN.cons Tryz.func227 YpL (AllN.cons Tryz.func228 qz2 (AllN.cons Tryz.func229 YED (AllN.cons Tryz.func230 zFC (AllN.cons Tryz.func231 Jfx (AllN.cons Tryz.func232 K3M (AllN.cons Tryz.func233 YPG (AllN.cons Tryz.func234 qzt (AllN.skip (AllN.skip (AllN.skip (AllN.skip (AllN.skip trivial))))))))))))))))
noncomputable def tl15:List (Option TC):=[none,none,none,none,none,none,none,none,some (.cf w248),none,none,some (.cf w251),some (.cf w252),none,none,some (.cf w255)]
theorem ta15:AllN Tryz.prog 240 tl15:=(AllN.skip (AllN.skip (AllN.skip (AllN.skip (AllN.skip (AllN.skip (AllN.skip (AllN.skip (AllN.cons Tryz.func248 Z7i (AllN.skip (AllN.skip (AllN.cons Tryz.func251 Yxl (AllN.cons Tryz.func252 X9X (AllN.skip (AllN.skip (AllN.cons Tryz.func255 ZSs trivial))))))))))))))))
noncomputable def tl16:List (Option TC):=[some (.cf w256),some (.cf w257),some (.cf w258),none,none,none,none,none,none,some (.cf w265),none,some (.cf w267),some (.cf w268),some (.cf w269),none,none]
theorem ta16:AllN Tryz.prog 256 tl16:=(AllN.cons Tryz.func256 ZBl (AllN.cons Tryz.func257 YOP (AllN.cons Tryz.func258 KzM (AllN.skip (AllN.skip (AllN.skip (AllN.skip (AllN.skip (AllN.skip (AllN.cons Tryz.func265 Z7y (AllN.skip (AllN.cons Tryz.func267 Q1U (AllN.cons Tryz.func268 JPY (AllN.cons Tryz.func269 YlB (AllN.skip (AllN.skip trivial))))))))))))))))
noncomputable def tls:List (List (Option TC)):=[tl0,tl1,tl2,tl3,tl4,tl5,tl6,tl7,tl8,tl9,tl10,tl11,tl12,tl13,tl14,tl15,tl16]
noncomputable def TT:TB:=tabn tls
theorem Qs5:Qhr Tryz.prog TT:=QTN tls (AllNs.cons ta0 (AllNs.cons ta1 (AllNs.cons ta2 (AllNs.cons ta3 (AllNs.cons ta4 (AllNs.cons ta5 (AllNs.cons ta6 (AllNs.cons ta7 (AllNs.cons ta8 (AllNs.cons ta9 (AllNs.cons ta10 (AllNs.cons ta11 (AllNs.cons ta12 (AllNs.cons ta13 (AllNs.cons ta14 (AllNs.cons ta15 (AllNs.cons ta16 trivial)))))))))))))))))
end
end Go.Proofs.YtebcngelgdpbjaaGreat
