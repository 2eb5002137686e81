/- Part 34 of what the laws' proofs rest on. No condition. -/
import Derived.Test.YtebcngelgdpbjaaGreatGq33
set_option linter.all false
namespace Go.Proofs.YtebcngelgdpbjaaGreat
section
set_option maxRecDepth 100000
set_option maxHeartbeats 8000000
theorem QAP:∀(k:Nat) (M:List EvF),eIds (XvB k M)=List.range' k (2*M.length)
 | _,[]=>rfl
 | k,e::M=>by
  have ih:=QAP (k+2) M
  show [k]++[k+1]++eIds (XvB (k+2) M)=_
  rw[ih,List.length_cons,show 2*(M.length+1)=2*M.length+1+1 by omega,List.range'_succ,List.range'_succ]
  rfl
theorem Zya:∀(k:Nat) (M:List EvF) (H:List AB),(∀j,j<2*M.length->H[k+j]?=(zWI M)[j]?)->(∀e∈M,e.2.1.length<=100000/\e.2.2.length<=100000) ->
  ∀x∈XvB k M,(∃j d,x.deps.a=exS intR j d/\H[j]?=some (exB intR d)/\d.length<=1000000)/\∃j f,x.refs.a=exS idR j f/\H[j]?=some (exB idR f)/\f.length<=1000000
 | _,[],_,_,_,_,hx=>by cases hx
 | k,e::M,H,hH,hb,x,hx=>by
  have h0:=hH 0 (by simp)
  have h1:=hH 1 (by simp only[List.length_cons];omega)
  have he:=hb e (List.mem_cons_self ..)
  rcases List.mem_cons.1 hx with rfl|hx
  ·exact ⟨⟨k,_,rfl,h0,by omega⟩,⟨k+1,_,rfl,h1,by omega⟩⟩
  ·refine Zya (k+2) M H (fun j hj=>?_) (fun z hz=>hb z (List.mem_cons_of_mem _ hz)) x hx
   have:=hH (j+2) (by simp only[List.length_cons];omega)
   rw[show k+2+j=k+(j+2) by omega,this]
   rfl
theorem ZRu {G L:List AB} {U:List EvF} (hb:bdE U):RdEf (G++(zWI U++resN evR true ((srtI XAO (ZDg G.length U)).map (·.1))::L)) (apS evR (G.length+2*U.length) ((srtI XAO (ZDg G.length U)).map (·.1))) (srtI XAO (ZDg G.length U)):=by
 have hm:∀y∈srtI XAO (ZDg G.length U),y∈ZDg G.length U:=fun y hy=>(YQG _ _).mem_iff.1 hy
 have hl:=JmL U
 have key:∀y∈ZDg G.length U,Rd intR (G++(zWI U++resN evR true ((srtI XAO (ZDg G.length U)).map (·.1))::L)) y.1.deps.a y.2.1/\Rd idR (G++(zWI U++resN evR true ((srtI XAO (ZDg G.length U)).map (·.1))::L)) y.1.refs.a y.2.2:=fun y hy=>by
  obtain ⟨j,hj⟩:=List.mem_iff_getElem?.1 hy
  have hjl:=(List.getElem?_eq_some_iff.1 hj).1
  have h1:(XvB G.length U)[j]?=some y.1:=by rw[<-ZmS,List.getElem?_map,hj];rfl
  rw[YfC]at hjl
  have h2:U[j]?=some U[j]:=List.getElem?_eq_getElem hjl
  have h3:=zFL G.length U (G++(zWI U++resN evR true ((srtI XAO (ZDg G.length U)).map (·.1))::L)) (fun j hj=>by rw[qu4,List.getElem?_append_left (by omega)]) (fun e he=>by have:=hb.2 e he;unfold maxLen;omega) j y.1 _ h1 h2
  have h4:y.2=(U[j]).2:=by
   have hz:=hj
   unfold ZDg at hz
   rw[List.getElem?_map,(List.getElem?_zip_eq_some (z:=(y.1,U[j]))).2 ⟨h1,h2⟩,Option.map_some,Option.some.injEq]at hz
   rw[<-hz]
  rw[h4]
  exact ⟨h3.1,h3.2.1⟩
 have rd:=XcZ (h:=G) (L:=[]) hb (b:=true)
 refine ⟨⟨?_,fun e he=>?_,fun e he=>?_⟩,fun e he=>?_,fun e he=>?_⟩
 ·rw[List.map_map]
  refine qFX (m:=true) ?_ ?_
  ·rw[qu4,List.getElem?_append_right (by omega),hl,Nat.sub_self]
   rfl
  ·rw[List.length_map,KuP,YfC]
   have:=hb.1
   unfold maxLen
   omega
 ·obtain ⟨y,hy,rfl⟩:=List.mem_map.1 he
  exact (key y (hm y hy)).1
 ·obtain ⟨y,hy,rfl⟩:=List.mem_map.1 he
  refine KAd (fun i q=>?_) _ (rd.ev.o (y.1,y.2.1) (List.mem_map.2 ⟨y,hm y hy,rfl⟩))
  simp only[decide_eq_true_eq,List.length_append,List.length_cons,List.length_nil]at q ⊢
  omega
 ·exact (key e (hm e he)).2
 ·exact rd.c e (hm e he)
theorem JbP {k:Nat} {M:List EvF}:nnE (ZDg k M):=fun e he=>by
 have h1:e.1∈XvB k M:=by rw[<-ZmS];exact List.mem_map.2 ⟨e,he,rfl⟩
 have key:∀(k:Nat) (M:List EvF),∀x∈XvB k M,∃j d f,x.deps.a=exS intR j d/\x.refs.a=exS idR (j+1) f:=fun k M=>by
  induction M generalizing k with
  | nil=>intro x hx;cases hx
  | cons e M ih =>
   intro x hx
   rcases List.mem_cons.1 hx with rfl|hx
   ·exact ⟨k,_,_,rfl,rfl⟩
   ·exact ih (k+2) x hx
 obtain ⟨j,d,f,q1,q2⟩:=key k M e.1 h1
 rw[q1,q2]
 exact ⟨qFF _ _ (by decide),qFF _ _ (by decide)⟩
theorem z7s {G L A B:List AB} {U:List EvF} (hb:bdE U) (hG:G++(zWI U++resN evR true ((srtI XAO (ZDg G.length U)).map (·.1))::L)=A++B) (hA:A.length<=G.length):∃C,XCj [apS evR (G.length+2*U.length) ((srtI XAO (ZDg G.length U)).map (·.1))] (A++B)=some (.tu [],A++C):=by
 have rd:=(ZRu (G:=G) (L:=L) hb).fst
 rw[hG]at rd
 have hl:=JmL U
 obtain ⟨es,hes⟩:∃es,(srtI XAO (ZDg G.length U)).map (·.1)=es:=⟨_,rfl⟩
 have hp:es.Perm (XvB G.length U):=by
  rw[<-hes,<-ZmS]
  exact (YQG XAO (ZDg G.length U)).map _
 have hel:es.length=U.length:=by rw[hp.length_eq,YjL]
 rw[hes]at rd hG ⊢
 by_cases h0:es.length=0
 ·have e0:=List.eq_nil_of_length_eq_zero h0
  refine ⟨B,?_⟩
  show (getS evR _ _).bind _=_
  rw[rd.get,Option.bind_some,e0]
  exact if_pos rfl
 ·have hid:idOf (apS evR (G.length+2*U.length) es)=[G.length+2*U.length]:=by unfold apS;rw[if_neg h0];rfl
  have hpi:(eIds es).Perm (List.range' G.length (2*U.length)):=by
   rw[<-QAP]
   exact hp.flatMap_right _
  have hmi:∀i∈eIds es,G.length<=i/\i<G.length+2*U.length:=fun i hi=>by
   have:=List.mem_range'_1.1 (hpi.mem_iff.1 hi)
   omega
  obtain ⟨C,hC,_⟩:=JiM (A:=A) (B:=B) (ids:=eIds es++[G.length+2*U.length]) fun i hi=>by
   rcases List.mem_append.1 hi with hi|hi
   ·have:=hmi i hi;omega
   ·rw[List.mem_singleton.1 hi];omega
  refine ⟨C,?_⟩
  show (getS evR _ _).bind _=_
  rw[rd.get,Option.bind_some,hid]
  rw[JwF]at hC
  refine (if_pos ⟨rfl,h0,by have:=hb.1;omega,?_,?_,fun x hx=>?_⟩).trans (by rw[<-hC];rfl)
  ·rw[<-hG,qu4,List.getElem?_append_right (by omega),hl,Nat.sub_self]
   rfl
  ·rw[List.nodup_cons]
   refine ⟨fun z=>by have:=hmi _ z;omega,?_⟩
   rw[hpi.nodup_iff]
   exact List.nodup_range'
  ·rw[<-hG]
   exact Zya G.length U _ (fun j hj=>by rw[qu4,List.getElem?_append_left (by omega)]) (fun e he=>by have:=hb.2 e he;omega) x (hp.mem_iff.1 hx)
end
section
theorem ct10:runT TT 60 w10=true:=by kernel_rfl
theorem fc10 (h:List AB):FnC Tryz.prog 10 [] h (.b true) h:=FnC.closed (by kernel_rfl) Qs5 60 10 (by kernel_rfl) ct10 h
end
section
set_option maxRecDepth 100000
set_option maxHeartbeats 8000000
def JYN:List AV->List AB->Option (AV×List AB)
 | [],h=>some (.b true,h)
 | _,_=>none
theorem zCo:Spec Tryz.prog 10 JYN:=by
 intro args h v h' e
 unfold JYN at e
 split at e
 ·cases e
  exact fc10 h
 ·cases e
theorem JVx {α:Type} (r:Row α) (id:Nat) {l:List α} (h:l.length=0):apS r id l=.ns:=by unfold apS;rw[if_pos h]
theorem QFx {H:List AB} {s t:AV} {m m':List EvD} (hs:RdEv H s m) (ht:RdEv H t m') (hk:m.map keyD=m'.map keyD) (hc:∀e∈m,e.1.repo.length<=1000000/\e.1.tag.length<=1000000) (hc':∀e∈m',e.1.repo.length<=1000000/\e.1.tag.length<=1000000) (hl:m.length<=1000) (hcap:t.capOk=true) (n a b:Int) :
  ∃p q er X Y Z,QA1 [s,.i .i64 n,.ag [.i .i64 a,.i .i64 b]] H=some (.tu [p,.i .i64 er],H++X)/\Qmn [t,.i .i64 n,.ag [.i .i64 a,.i .i64 b]] (H++X)=some (.tu [q,.i .i64 er],H++Y)/\Yow [p,q] (H++Y)=some (.b true,H++Y)/\qPz dotR [p] (H++Y)=some (.tu [],H++Z):=by
 have hl':m'.length<=1000:=by
  have:=congrArg List.length hk
  simp only[List.length_map]at this
  omega
 have g1:∀X,YgZ (H++X) t=some m':=fun X=>(ht.app X).get
 have nsR:∀H',Rd dotR H' .ns []:=fun H'=>⟨rfl,Nat.zero_le _⟩
 have sd:∀H' ,Yow [.ns,.ns] H'=some (.b true,H'):=fun H'=>by
  show (getS dotR H' .ns).bind _=_
  rw[(nsR H').get,Option.bind_some,Option.bind_some,decide_eq_true rfl]
 have od:∀H',qPz dotR [.ns] H'=some (.tu [],H'):=fun H'=>by
  unfold qPz
  exact if_pos rfl
 have hge:=KxO hk n
 by_cases hg:chkG m n≠0
 ·refine ⟨.ns,.ns,chkG m n,[],[],[],?_,?_,sd _,od _⟩
  ·simp only[QA1]
   rw[hs.get,Option.bind_some,if_pos ⟨hc,hl⟩,if_pos hg,List.append_nil]
  ·simp only[Qmn]
   rw[g1,Option.bind_some,if_pos ⟨hc',hcap,hl'⟩,<-hge,if_pos hg]
 have hd:(∀e∈m,e.1.dot≠(a,b))↔∀e∈m',e.1.dot≠(a,b):=by
  have:=XjY hk
  refine ⟨fun q e he z=>?_,fun q e he z=>?_⟩
  ·obtain ⟨e2,h2,h3⟩:=List.mem_map.1 (show e.1.dot∈m.map (·.1.dot) by rw[this];exact List.mem_map.2 ⟨e,he,rfl⟩)
   exact q e2 h2 (h3.trans z)
  ·obtain ⟨e2,h2,h3⟩:=List.mem_map.1 (show e.1.dot∈m'.map (·.1.dot) by rw[<-this];exact List.mem_map.2 ⟨e,he,rfl⟩)
   exact q e2 h2 (h3.trans z)
 by_cases hn:∀e∈m,e.1.dot≠(a,b)
 ·refine ⟨.ns,.ns,26,[],[],[],?_,?_,sd _,od _⟩
  ·simp only[QA1]
   rw[hs.get,Option.bind_some,if_pos ⟨hc,hl⟩,if_neg hg,if_pos hn,List.append_nil]
  ·simp only[Qmn]
   rw[g1,Option.bind_some,if_pos ⟨hc',hcap,hl'⟩,<-hge,if_neg hg,if_pos (hd.1 hn)]
 have hg0:chkG m n=0:=Decidable.byContradiction hg
 have hpe:qyA m' (a,b)=qVG m n (a,b):=by
  rw[<-Q2Y (by rw[<-hge];exact hg0),QHO hk]
 obtain ⟨P,hP⟩:∃P,qVG m n (a,b)=P:=⟨_,rfl⟩
 have hPl:P.length<=1000:=by
  have:=qDL hg0 (a,b)
  rw[<-hP]
  unfold qVG
  rw[Qv5]
  omega
 have e1:QA1 [s,.i .i64 n,.ag [.i .i64 a,.i .i64 b]] H=some (.tu [apS dotR H.length P,.i .i64 0],H++[resB dotR true P]):=by
  simp only[QA1]
  rw[hs.get,Option.bind_some,if_pos ⟨hc,hl⟩,if_neg hg,if_neg hn,hP]
  rfl
 have e2:Qmn [t,.i .i64 n,.ag [.i .i64 a,.i .i64 b]] (H++[resB dotR true P])=some (.tu [apS dotR (H.length+1) P,.i .i64 0],H++[resB dotR true P,resB dotR true P]):=by
  simp only[Qmn]
  rw[g1,Option.bind_some,if_pos ⟨hc',hcap,hl'⟩,<-hge,if_neg hg,if_neg (fun z=>hn (hd.2 z)),hpe,hP,List.length_append,List.append_assoc]
  rfl
 have r1:Rd dotR (H++[resB dotR true P,resB dotR true P]) (apS dotR H.length P) P:=Jeg (k:=0) rfl (by unfold maxLen;omega)
 have r2:Rd dotR (H++[resB dotR true P,resB dotR true P]) (apS dotR (H.length+1) P) P:=Jeg (k:=1) rfl (by unfold maxLen;omega)
 have e3:Yow [apS dotR H.length P,apS dotR (H.length+1) P] (H++[resB dotR true P,resB dotR true P])=some (.b true,H++[resB dotR true P,resB dotR true P]):=by
  show (getS dotR _ _).bind _=_
  rw[r1.get,Option.bind_some,r2.get,Option.bind_some,decide_eq_true rfl]
 by_cases h0:P.length=0
 ·refine ⟨_,_,_,_,_,[resB dotR true P,resB dotR true P],e1,e2,e3,?_⟩
  rw[JVx dotR _ h0]
  exact od _
 ·refine ⟨_,_,_,_,_,[.dead,resB dotR true P],e1,e2,e3,?_⟩
  have ea:apS dotR H.length P=rsl dotR H.length P:=YM0 _ h0
  have hns:(rsl dotR H.length P).isNs=false:=by unfold rsl;rw[if_neg h0];rfl
  have hid:idOf (rsl dotR H.length P)=[H.length]:=by unfold rsl;rw[if_neg h0];rfl
  rw[ea]at r1 ⊢
  show (if (rsl dotR H.length P).isNs=true then _ else (getS dotR _ _).bind _)=_
  rw[if_neg (by rw[hns];decide),r1.get,Option.bind_some,hid]
  refine (if_pos ⟨rfl,?_,by omega⟩).trans ?_
  ·rw[List.set_append_right _ _ (Nat.le_refl _),Nat.sub_self]
   rfl
  ·rw[List.getElem?_append_right (Nat.le_refl _),Nat.sub_self]
   rfl
theorem ZDr (k:Nat) (M:List EvF):((ZDg k M).map fun e=>(e.1,e.2.1)).map keyD=(M.map fun e=>(e.1,e.2.1)).map keyD:=by
 have h:=congrArg (List.map fun x:Z8a=>(x.1,x.2.1,x.2.2.1,x.2.2.2.1,x.2.2.2.2.1)) (zxS k M)
 rw[List.map_map,List.map_map]at h
 rw[List.map_map,List.map_map]
 exact h
theorem Jbd {h:List AB} {s v:AV} {M:List EvF} {xs:List Int} (hs:RdEf h s M) (hx:Rd intR h v xs) (h20:M.length<=20) (hb:bdE M) (hxl:xs.length<=1000) (hcap:s.capOk=true) (n a b:Int) (X:AB) :
  ∃sI sB c cr p q er H2 H3 H4 H5 C6 C7 C8 C9,XPy [s] (h++[X])=some (sI,H2)/\qHC [v] H2=some (sB,H3)/\XPC [sI,sB] H3=some (c,H4)/\q6T [s,v] H4=some (cr,H5)/\Q66 [c,cr] H5=some (.b true,H5)/\XCj [c] H5=some (.tu [],h++(X::C6))/\QA1 [sI,.i .i64 n,.ag [.i .i64 a,.i .i64 b]] (h++(X::C6))=some (.tu [p,.i .i64 er],h++(X::C7))/\Qmn [s,.i .i64 n,.ag [.i .i64 a,.i .i64 b]] (h++(X::C7))=some (.tu [q,.i .i64 er],h++(X::C8))/\Yow [p,q] (h++(X::C8))=some (.b true,h++(X::C8))/\qPz dotR [p] (h++(X::C8))=some (.tu [],h++(X::C9))/\Q66 [sI,s] (h++(X::C9))=some (.b true,h++(X::C9))/\XvL [sB,v] (h++(X::C9))=some (.b true,h++(X::C9)):=by
 obtain ⟨H1,hH1⟩:∃H1,h++[X]=H1:=⟨_,rfl⟩
 have x1:∀C,h++(X::C)=H1++C:=fun C=>by rw[<-hH1,List.append_assoc];rfl
 have s1:RdEf H1 s M:=by rw[<-hH1];exact hs.app _
 have v1:Rd intR H1 v xs:=by rw[<-hH1];exact hx.app _
 have f1:XPy [s] H1=some (apS evR (H1.length+2*M.length) (XvB H1.length M),H1++(zWI M++[resN evR true (XvB H1.length M)])):=by
  show (z47 _ _).bind _=_
  rw[s1.get,Option.bind_some]
  exact if_pos hb
 obtain ⟨H2,hH2⟩:∃H2,H1++(zWI M++[resN evR true (XvB H1.length M)])=H2:=⟨_,rfl⟩
 have i2:RdEf H2 (apS evR (H1.length+2*M.length) (XvB H1.length M)) (ZDg H1.length M):=by rw[<-hH2];exact XcZ hb
 have n0:ZDg H1.length M=[]->apS evR (H1.length+2*M.length) (XvB H1.length M)=.ns:=fun z=>by
  have:=YfC H1.length M
  rw[z]at this
  exact JVx evR _ (by rw[YjL];exact this.symm)
 rw[hH2]at f1
 obtain ⟨sI,hsI⟩:∃sI,apS evR (H1.length+2*M.length) (XvB H1.length M)=sI:=⟨_,rfl⟩
 rw[hsI]at f1 i2 n0
 obtain ⟨N,hN⟩:∃N,ZDg H1.length M=N:=⟨_,rfl⟩
 have hNl:N.length=M.length:=by rw[<-hN,YfC]
 have hNk:N.map XYh=M.map XYh:=by rw[<-hN,zxS]
 have hNd:(N.map fun e=>(e.1,e.2.1)).map keyD=(M.map fun e=>(e.1,e.2.1)).map keyD:=by rw[<-hN,ZDr]
 have hNb:bdE N:=by rw[<-hN];exact ZwS hb
 have hNn:nnE N:=by rw[<-hN];exact JbP
 rw[hN]at i2 n0
 have s2:RdEf H2 s M:=by rw[<-hH2];exact s1.app _
 have v2:Rd intR H2 v xs:=by rw[<-hH2];exact v1.app _
 have f2:qHC [v] H2=some (exS intR (H2.length+0) xs,H2++[exB intR xs]):=by
  show (getS intR _ _).bind _=_
  rw[v2.get,Option.bind_some]
  exact if_pos (by omega)
 obtain ⟨H3,hH3⟩:∃H3,H2++[exB intR xs]=H3:=⟨_,rfl⟩
 rw[hH3]at f2
 have b3:Rd intR H3 (exS intR (H2.length+0) xs) xs:=by
  rw[<-hH3]
  exact QkM (fl:=true) (m:=true) (by rw[Nat.add_zero,List.getElem?_append_right (Nat.le_refl _),Nat.sub_self];rfl) (by unfold maxLen;omega)
 have i3:RdEf H3 sI N:=by rw[<-hH3];exact i2.app _
 have s3:RdEf H3 s M:=by rw[<-hH3];exact s2.app _
 have v3:Rd intR H3 v xs:=by rw[<-hH3];exact v2.app _
 have hid3:∀k∈idOf (exS intR (H2.length+0) xs),k<H3.length:=fun k hk=>by
  have:k=H2.length:=List.mem_singleton.1 hk
  rw[<-hH3,List.length_append,this]
  exact Nat.lt_succ_self _
 obtain ⟨T3,hT3⟩:∃T3,H3=H1++T3:=⟨_,by rw[<-hH3,<-hH2,List.append_assoc]⟩
 generalize exS intR (H2.length+0) xs=sB at *
 have f3:XPC [sI,sB] H3=some (apS evR (H3.length+2+2*(undE xs N).length) ((srtI XAO (ZDg (H3.length+2) (undE xs N))).map (·.1)),H3++(.blk false true [sB]::resN evR true ((undE xs N).map (·.1))::(zWI (undE xs N)++[resN evR true ((srtI XAO (ZDg (H3.length+2) (undE xs N))).map (·.1))]))):=by
  show (z47 _ _).bind _=_
  rw[i3.get,Option.bind_some,b3.get,Option.bind_some]
  exact if_pos ⟨by omega,hNb,hNn,n0,hid3⟩
 have hUb:=qsn (xs:=xs) hNb
 have hUk:(undE xs N).map XYh=(undE xs M).map XYh:=by rw[QCt,QCt,hNk]
 have hUl:=ZsJ xs N
 generalize undE xs N=U at *
 obtain ⟨G,hG⟩:∃G,H3++[.blk false true [sB],resN evR true (U.map (·.1))]=G:=⟨_,rfl⟩
 have hGl:G.length=H3.length+2:=by rw[<-hG,List.length_append];rfl
 have hG4:∀L,H3++(.blk false true [sB]::resN evR true (U.map (·.1))::L)=G++L:=fun L=>by rw[<-hG,List.append_assoc];rfl
 rw[hG4,<-hGl]at f3
 obtain ⟨H4,hH4⟩:∃H4,G++(zWI U++[resN evR true ((srtI XAO (ZDg G.length U)).map (·.1))])=H4:=⟨_,rfl⟩
 rw[hH4]at f3
 have s4:RdEf H4 s M:=by rw[<-hH4,<-hG,List.append_assoc];exact s3.app _
 have v4:Rd intR H4 v xs:=by rw[<-hH4,<-hG,List.append_assoc];exact v3.app _
 have f4:q6T [s,v] H4=some (apS evR (H4.length+2*(undE xs M).length+1+2*(undE xs M).length) ((Zcz H4.length (undE xs M)).map (·.1)),H4++Xn7 H4.length (undE xs M)):=by
  show (z47 _ _).bind _=_
  rw[s4.get,Option.bind_some,v4.get,Option.bind_some]
  exact if_pos ⟨h20,hb⟩
 have hVb:=qsn (xs:=xs) hb
 generalize undE xs M=V at *
 obtain ⟨G2,hG2⟩:∃G2,H4++(zWI V++[resN evR true (XvB H4.length V)])=G2:=⟨_,rfl⟩
 have hG2l:G2.length=H4.length+2*V.length+1:=by rw[<-hG2,List.length_append,List.length_append,JmL];rfl
 have hH5:H4++Xn7 H4.length V=G2++(zWI (ZDg H4.length V)++[resN evR true ((srtI XAO (ZDg G2.length (ZDg H4.length V))).map (·.1))]):=by
  unfold Xn7 Zcz
  rw[hG2l,<-hG2]
  simp only[List.append_assoc,List.cons_append,List.nil_append]
 have cr5:=ZRu (G:=G2) (L:=[]) (U:=ZDg H4.length V) (ZwS hVb)
 have c5:=ZRu (G:=G) (L:=Xn7 H4.length V) hUb
 have e45:G++(zWI U++resN evR true ((srtI XAO (ZDg G.length U)).map (·.1))::Xn7 H4.length V)=H4++Xn7 H4.length V:=by rw[<-hH4];simp only[List.append_assoc,List.cons_append,List.nil_append]
 rw[e45]at c5
 rw[<-hH5]at cr5
 have hrs:Zcz H4.length V=srtI XAO (ZDg G2.length (ZDg H4.length V)):=by unfold Zcz;rw[hG2l]
 rw[hrs,<-hG2l,show V.length=(ZDg H4.length V).length from (YfC _ _).symm]at f4
 have f5:Q66 [apS evR (G.length+2*U.length) ((srtI XAO (ZDg G.length U)).map (·.1)),apS evR (G2.length+2*(ZDg H4.length V).length) ((srtI XAO (ZDg G2.length (ZDg H4.length V))).map (·.1))] (H4++Xn7 H4.length V)=some (.b true,H4++Xn7 H4.length V):=by
  show (z47 _ _).bind _=_
  rw[c5.get,Option.bind_some,cr5.get,Option.bind_some]
  refine (if_pos (by rw[KuP,YfC];have:=hUb.1;omega)).trans ?_
  rw[decide_eq_true]
  rw[X4n,X4n,zxS,zxS,zxS,hUk]
 obtain ⟨C6,f6⟩:=z7s (G:=G) (L:=Xn7 H4.length V) (A:=H3) (B:=.blk false true [sB]::resN evR true (U.map (·.1))::(zWI U++resN evR true ((srtI XAO (ZDg G.length U)).map (·.1))::Xn7 H4.length V)) hUb (hG4 _).symm (by omega)
 rw[hG4,e45]at f6
 have hr:∀e∈N,e.1.repo.length<=1000000/\e.1.tag.length<=1000000:=fun e he=>by have:=hNb.2 e he;omega
 have hr':∀e∈M,e.1.repo.length<=1000000/\e.1.tag.length<=1000000:=fun e he=>by have:=hb.2 e he;omega
 obtain ⟨p,q,er,Xp,Yp,Zp,g1,g2,g3,g4⟩:=QFx (i3.app C6).ev (s3.app C6).ev hNd (fun e he=>by obtain ⟨y,hy,rfl⟩:=List.mem_map.1 he;exact hr y hy) (fun e he=>by obtain ⟨y,hy,rfl⟩:=List.mem_map.1 he;exact hr' y hy) (by rw[List.length_map];omega) hcap n a b
 have x3:∀C,h++(X::(T3++C))=H3++C:=fun C=>by rw[x1,hT3,List.append_assoc]
 have x4:∀C,h++(X::(T3++(C6++C)))=H3++C6++C:=fun C=>by rw[x3,List.append_assoc]
 refine ⟨sI,sB,_,_,p,q,er,H2,H3,H4,_,T3++C6,T3++(C6++Xp),T3++(C6++Yp),T3++(C6++Zp),by rw[hH1];exact f1,f2,f3,f4,f5,by rw[x3];exact f6,by rw[x3,x4];exact g1,by rw[x4,x4];exact g2,by rw[x4];exact g3,by rw[x4,x4];exact g4,?_,?_⟩
 ·rw[x4]
  show (z47 _ _).bind _=_
  rw[((i3.app C6).app Zp).get,Option.bind_some,((s3.app C6).app Zp).get,Option.bind_some]
  refine (if_pos (by omega)).trans ?_
  rw[decide_eq_true hNk]
 ·rw[x4]
  show (getS intR _ _).bind _=_
  rw[((b3.app C6).app Zp).get,Option.bind_some,((v3.app C6).app Zp).get,Option.bind_some,decide_eq_true rfl]
end
section
set_option maxRecDepth 100000
set_option maxHeartbeats 8000000
theorem XKF {h:List AB} (hz:h.map AB.freeze=h) {s:AV} {M:List EvF} (hs:RdEf h s M) (hcap:s.capOk=true) {v:AV} {xs:List Int} (hx:Rd intR h v xs) (n a b:Int) :
  FnAt Tryz.prog 4 [s,.i .i64 n,v,.ag [.i .i64 a,.i .i64 b]] h (.b true) h:=by
 refine FnAt.run (by kernel_rfl) (T:=⟨[⟨9,Yvf,fun _=>[]⟩,⟨10,JYN,fun _=>[]⟩,⟨11,XPy,fun _=>[]⟩,⟨29,qHC,fun _=>[]⟩,⟨30,XPC,fun _=>[]⟩,⟨31,q6T,fun _=>[]⟩,⟨28,Q66,fun _=>[]⟩,⟨32,XCj,fun _=>[]⟩,⟨33,QA1,fun _=>[]⟩,⟨34,Qmn,fun _=>[]⟩,⟨35,Yow,fun _=>[]⟩,⟨36,qPz dotR,fun _=>[]⟩,⟨18,XvL,fun _=>[]⟩],[]⟩)
  ⟨⟨qcF,zCo,XYB,X7x,qSr,qME,qgH,KCV,Qbw,zeM,Jex,ZcB,X5R,trivial⟩,trivial⟩ Tryz.func4 sw4 fun ho hh=>?_
 simp only[XDA,Bool.and_eq_true]at ho
 have f1:=hs.fst.fx ho.1 (sz:=39) rfl
 have hlm:(M.map (·.1)).length=M.length:=List.length_map _
 rw[hlm]at f1
 have f2:=hx.fx ho.2.2.1 (sz:=1) rfl
 have gS:∀x,getS evR (h++x) s=some (M.map (·.1)):=fun x=>(hs.fst.app x).get
 have p3:=eq_true (p:=(0:Int)<=20/\(20:Int)<=1000) ⟨by omega,by omega⟩
 have aw:∀H,JYN [] H=some (.b true,H):=fun H=>rfl
 have tL:∀x,Yvf [s,.i .i64 20] (h++x)=some (.b (lgs (M.map (·.1)).length 20 (M.map (·.1)) 0 0),h++x):=fun x=>by
  show (getS evR _ _).bind _=_
  rw[gS,Option.bind_some]
  exact if_pos ⟨by omega,by omega⟩
 unfold w4
 cases hl:lgs (M.map (·.1)).length 20 (M.map (·.1)) 0 0 with
 | true =>
  rw[hl]at tL
  simp only[QhU,YqB,z16,Xq6,simprocAttr,f1,f2,tL,aw,oD,ne_eq,forall_const]
  exact Bt.dropB _ hh rfl
 | false =>
 rw[hl]at tL
 rcases emG ((20:Int)<(xs.length:Int)) with q|q
 ·simp only[QhU,YqB,z16,Xq6,simprocAttr,f1,f2,tL,aw,q,oD,ne_eq,forall_const]
  exact Bt.dropB _ hh rfl
 have q':=of_eq_false q
 obtain ⟨hm20,hlong⟩:=QSw (by simp) hl
 rw[hlm]at hm20
 have hb:bdE M:=⟨by omega,fun e he=>by
  have h1:=hlong e.1 (List.mem_map.2 ⟨e,he,rfl⟩)
  unfold Jri at h1
  have d1:=(hs.ev.d (e.1,e.2.1) (List.mem_map.2 ⟨e,he,rfl⟩)).len
  have d2:=(hs.f e he).len
  rw[SlA.lenV]at d2
  dsimp only at d1
  rw[SlA.lenV]at d1
  simp only[Option.some.injEq]at d1 d2
  omega⟩
 obtain ⟨sI,sB,c,cr,p,qq,er,H2,H3,H4,H5,C6,C7,C8,C9,e1,e2,e3,e4,e5,e6,e7,e8,e9,e10,e11,e12⟩:=Jbd hs hx (by omega) hb (by omega) hcap n a b (.blk true true [.i .i64 a,.i .i64 b])
 simp only[QhU,YqB,z16,Xq6,simprocAttr,f1,f2,tL,aw,q,e1,e2,e3,e4,e5,e6,e7,e8,e9,e10,e11,e12,oD,ne_eq,forall_const]
 exact Bt.dropB _ hh rfl
end
section
open Go.ChangeShapes Go.WideShapes Go.ChangeAt Go.RowKit
def RdL {α:Type} (R:World->List Value->α->Prop) (size:Nat) (w:World) (v:Value) (ts:List α):Prop:=
 ∃cs,Sl w v ts.length cs/\cs.length=ts.length*size/\∀i t,ts[i]?=some t->R w ((cs.drop (i*size)).take size) t
section
variable {H:Type} {enc:TypeId×Value->H} {P:Program} {w:World} {base:Nat} {spare:Nat->Bool} {held:Bool}
theorem JF9 {α β:Type} (f:α->Option β):∀(l:List α) (r:List β),l.mapM f=some r->∀a∈l,∃b,f a=some b
 | [],_,_,a,ha=>by cases ha
 | x::l,r,h,a,ha=>by
  rw[List.mapM_cons]at h
  cases hx:f x with
  | none=>simp [hx]at h
  | some b =>
   cases hl:l.mapM f with
   | none=>simp [hx,hl]at h
   | some bs =>
    rcases List.mem_cons.1 ha with rfl|ha
    ·exact ⟨b,hx⟩
    ·exact JF9 f l bs hl a ha
theorem zEA {α:Type} (R:Nat->α->Prop):∀n,(∀i,i<n->∃t,R i t)->∃ts:List α,ts.length=n/\∀i t,ts[i]?=some t->R i t
 | 0,_=>⟨[],rfl,fun i t h=>by simp at h⟩
 | n+1,h=>by
  obtain ⟨ts,hl,ht⟩:=zEA R n fun i hi=>h i (by omega)
  obtain ⟨t,h1⟩:=h n (by omega)
  refine ⟨ts++[t],by simp [hl],fun i u hu=>?_⟩
  by_cases hi:i<n
  ·rw[List.getElem?_append_left (by omega)]at hu
   exact ht i u hu
  ·have hi2:i=n:=by
    have:=(List.getElem?_eq_some_iff.1 hu).1
    simp [hl]at this
    omega
   subst hi2
   rw[List.getElem?_append_right (by omega)]at hu
   simp [hl]at hu
   exact hu▸h1
theorem zcz {α:Type} (R:World->List Value->α->Prop) {fuel:Nat} {T e:TypeId} {size:Nat} (hT:P.underlying T=some (.slice e)) (hc:P.cellsOf e=size) (hsz:0<size)
  (hR:∀cs x,DataW.trod enc P w base (fun _=>true) held fuel e cs=some x->∃t,R w cs t) {v:Value} {x:DataW H×List MemPlace}
  (h:DataW.trod enc P w base (fun _=>true) held (fuel+1) T [v]=some x):∃ts,RdL R size w v ts:=by
 cases v with
 | slice a len cap =>
  cases a with
  | none =>
   cases len with
   | zero =>
    cases cap with
    | zero=>exact ⟨[],[],.inl ⟨⟨_,rfl⟩,rfl,rfl⟩,by simp,fun i t ht=>by simp at ht⟩
    | succ c=>simp [DataW.trod,hT]at h
   | succ l=>cases cap <;> simp [DataW.trod,hT]at h
  | some a =>
   simp only[DataW.trod,hT,hc]at h
   split at h
   case isFalse=>cases h
   case isTrue hcond =>
    obtain ⟨hb,hlc,hcm⟩:=hcond
    obtain ⟨elems,hel,h2⟩:=oQ.1 h
    simp only[if_true]at h2
    obtain ⟨rest,hrest,_⟩:=Option.map_eq_some_iff.1 h2
    have hel2:∀i,i<len->∃cs t,cs.length=size/\(∀j,j<size->w.cell? ((a.add (i*size)).add j)=cs[j]?)/\R w cs t:=by
     intro i hi
     obtain ⟨y,hy⟩:=JF9 _ _ _ hel i (List.mem_range.2 hi)
     obtain ⟨cs,hcs,hy2⟩:=oQ.1 hy
     obtain ⟨_,hl,hcell⟩:=World.cells?_some hcs
     obtain ⟨t,ht⟩:=hR cs y hy2
     exact ⟨cs,t,hl,hcell,ht⟩
    by_cases h0:cap=0
    ·subst h0
     have:len=0:=by omega
     subst this
     exact ⟨[],[],.inl ⟨⟨_,rfl⟩,rfl,rfl⟩,by simp,fun i t ht=>by simp at ht⟩
    ·have hspot:a.spot=none:=by
      have hfirst:∃u,w.cell? a=some u:=by
       by_cases hl0:len=0
       ·subst hl0
        obtain ⟨y,hy⟩:=JF9 _ _ _ hrest 0 (List.mem_range.2 (by omega))
        obtain ⟨cs,hcs,_⟩:=oQ.1 hy
        obtain ⟨_,hl,hcell⟩:=World.cells?_some hcs
        have:=hcell 0 hsz
        simp [Addr.add]at this
        exact ⟨cs[0]'(by omega),by rw[this];exact List.getElem?_eq_getElem (by omega)⟩
       ·obtain ⟨cs,t,hl,hcell,_⟩:=hel2 0 (by omega)
        have:=hcell 0 hsz
        simp [Addr.add]at this
        exact ⟨cs[0]'(by omega),by rw[this];exact List.getElem?_eq_getElem (by omega)⟩
      obtain ⟨u,hu⟩:=hfirst
      unfold World.cell? at hu
      split at hu
      ·split at hu
       ·cases hu
       ·rename_i hs
        simpa using hs
      ·cases hu
     obtain ⟨b,off,sp⟩:=a
     simp only at hspot
     subst hspot
     obtain ⟨g,hg⟩:∃g:Nat->Value,∀k,g k=(w.cell? ⟨b,off+k,none⟩).getD undef:=⟨_,fun _=>rfl⟩
     have hlt:∀i j,i<len->j<size->i*size+j<len*size:=fun i j hi hj=>by
      have:(i+1)*size<=len*size:=Nat.mul_le_mul_right _ hi
      rw[Nat.add_mul]at this
      omega
     have hpiece:∀i,i<len->∀cs':List Value,cs'.length=size->(∀j,j<size->w.cell? (((⟨b,off,none⟩:Addr).add (i*size)).add j)=cs'[j]?)->((((List.range (len*size)).map g).drop (i*size)).take size)=cs':=by
      intro i hi cs' hl hcell
      apply List.ext_getElem?
      intro j
      by_cases hj:j<size
      ·have h1:=hcell j hj
       rw[Addr.add_none,Addr.add_none]at h1
       rw[List.getElem?_take_of_lt hj,List.getElem?_drop,List.getElem?_map,List.getElem?_range (hlt i j hi hj),<-h1]
       rw[Option.map_some,hg,<-Nat.add_assoc,h1,List.getElem?_eq_getElem (by omega)]
       rfl
      ·rw[List.getElem?_eq_none (by rw[List.length_take];omega),List.getElem?_eq_none (by omega)]
     obtain ⟨ts,htl,hts⟩:=zEA (fun i t=>R w ((((List.range (len*size)).map g).drop (i*size)).take size) t) len fun i hi=>by
      obtain ⟨cs,t,hl,hcell,ht⟩:=hel2 i hi
      exact ⟨t,by rw[hpiece i hi cs hl hcell];exact ht⟩
     refine ⟨ts,(List.range (len*size)).map g,.inr ⟨b,off,cap,by rw[htl],by omega,hcm,fun k u hu=>?_⟩,by simp [htl],hts⟩
     rw[List.getElem?_map]at hu
     obtain ⟨k',hk',rfl⟩:=Option.map_eq_some_iff.1 hu
     have hk:k<len*size:=by simpa using (List.getElem?_eq_some_iff.1 hk').1
     rw[List.getElem?_range hk]at hk'
     cases hk'
     have hdiv:k / size<len:=(Nat.div_lt_iff_lt_mul hsz).2 hk
     obtain ⟨cs,t,hl,hcell,_⟩:=hel2 (k / size) hdiv
     have h1:=hcell (k % size) (Nat.mod_lt _ hsz)
     rw[Addr.add_none,Addr.add_none,Nat.add_assoc,Nat.mul_comm,Nat.div_add_mod]at h1
     rw[hg,h1,List.getElem?_eq_getElem (by have:=Nat.mod_lt k hsz;omega)]
     rfl
 | _=>simp [DataW.trod,hT]at h
theorem QRP {fuel:Nat} {T:TypeId} {fs:Array Field} (hT:P.underlying T=some (.struct fs)) {cs:List Value} {x:DataW H×List MemPlace}
  (h:DataW.trod enc P w base spare held (fuel+1) T cs=some x):cs.length=P.cellsOf T/\∀f∈fs.toList,∃y,DataW.trod enc P w base spare held fuel f.type ((cs.drop f.offset).take (P.cellsOf f.type))=some y:=by
 simp only[DataW.trod,hT]at h
 split at h
 ·rename_i hl
  obtain ⟨xs,hxs,_⟩:=Option.map_eq_some_iff.1 h
  exact ⟨hl,fun f hf=>JF9 _ _ _ hxs f hf⟩
 ·cases h
theorem zOr {fuel:Nat} {T e:TypeId} {n:Nat} (hT:P.underlying T=some (.array n e)) {cs:List Value} {x:DataW H×List MemPlace}
  (h:DataW.trod enc P w base spare held (fuel+1) T cs=some x):cs.length=P.cellsOf T/\∀i,i<n->∃y,DataW.trod enc P w base spare held fuel e ((cs.drop (i*P.cellsOf e)).take (P.cellsOf e))=some y:=by
 simp only[DataW.trod,hT]at h
 split at h
 ·rename_i hl
  obtain ⟨xs,hxs,_⟩:=Option.map_eq_some_iff.1 h
  exact ⟨hl,fun i hi=>JF9 _ _ _ hxs i (List.mem_range.2 hi)⟩
 ·cases h
theorem Ka4 {fuel:Nat} {T:TypeId} {k:IntKind} (hT:P.underlying T=some (.int k)) {cs:List Value} {x:DataW H×List MemPlace}
  (h:DataW.trod enc P w base spare held fuel T cs=some x):∃n,cs=[.int k n]/\(Lit.int k n).wf=true:=by
 cases fuel with
 | zero=>cases h
 | succ fuel =>
  simp only[DataW.trod,hT]at h
  split at h <;> simp_all
theorem XPg {fuel:Nat} {T:TypeId} (hT:P.underlying T=some .string) {cs:List Value} {x:DataW H×List MemPlace}
  (h:DataW.trod enc P w base spare held fuel T cs=some x):∃s:ByteArray,cs=[.string s]/\s.size<=maxLen:=by
 cases fuel with
 | zero=>cases h
 | succ fuel =>
  simp only[DataW.trod,hT]at h
  split at h <;> simp_all
theorem Qho {α:Type} (R:World->List Value->α->Prop) {fuel:Nat} {T e:TypeId} {size:Nat} (hT:P.underlying T=some (.slice e)) (hc:P.cellsOf e=size) (hsz:0<size)
  (hR:∀fuel cs x,DataW.trod enc P w base (fun _=>true) held fuel e cs=some x->∃t,R w cs t) {cs:List Value} {x:DataW H×List MemPlace}
  (h:DataW.trod enc P w base (fun _=>true) held fuel T cs=some x):∃v,cs=[v]/\∃ts,RdL R size w v ts:=by
 cases fuel with
 | zero=>cases h
 | succ fuel =>
  have hv:∃v,cs=[v]:=by
   have h':=h
   simp only[DataW.trod,hT]at h'
   split at h' <;> simp_all
  obtain ⟨v,rfl⟩:=hv
  exact ⟨v,rfl,zcz R hT hc hsz (fun cs x=>hR fuel cs x) h⟩
theorem Kp4 {n:Int} (h:(Lit.int .u8 n).wf=true):Value.int .u8 n=.int .u8 ((UInt8.ofInt n).toNat:Int):=by
 have hb:=bounds_u8 h
 congr 1
 simp only[UInt8.ofInt,UInt8.toNat_ofNat']
 omega
theorem ZLD {n:Int} (h:(Lit.int .i64 n).wf=true) : -9223372036854775808<=n/\n<=9223372036854775807:=bounds_i64 h
end
end
section
open Go.ChangeShapes Go.WideShapes Go.ChangeAt Go.RowKit
section
variable {K:Code->CC->Prop} {ρ:Mp} {h:List AB} {w:World}
theorem In.hz (i:In K ρ h w):h.map AB.freeze=h:=by
 refine List.ext_getElem? fun j=>?_
 rw[List.getElem?_map]
 cases e:h[j]? with
 | none=>rfl
 | some B =>
  have:=i.frz B (List.mem_of_getElem? e)
  rw[Option.map_some]
  congr 1
  cases B <;> first|rfl|(cases this;done)|(simp only[AB.mut]at this;subst this;rfl)
theorem In.sl {α:Type} {r:Row α} (i:In K ρ h w) (hfl:∀x,∀a∈r.f x,a.fl=true) {v:Value} {l:List α} (hs:Sl w v l.length ((r.cells l).map AV.val)) :
  ∃x s B,In K (ρ++[x]) (h++[B]) w/\VR (ρ++[x]) s v/\Rd r (h++[B]) s l/\Ext ρ (ρ++[x])/\s.capOk=true:=by
 obtain ⟨hl,x,i',vr⟩:=i.slice hfl hs
 exact ⟨x,_,_,i',vr,K0d (by rw[List.getElem?_append_right (Nat.le_refl _),Nat.sub_self];rfl) hl,Ext.push _ _,zKc _ _⟩
theorem RdL.row {α:Type} {r:Row α} {v:Value} {ts:List α} (e:RdL (fun _ cs x=>cs=(r.f x).map AV.val) r.sz w v ts):Sl w v ts.length ((r.cells ts).map AV.val):=by
 obtain ⟨cs,h1,h2,h3⟩:=e
 have hcs:cs=(r.cells ts).map AV.val:=by
  apply List.ext_getElem?
  intro k
  by_cases hk:k<ts.length*r.sz
  ·have hi:k / r.sz<ts.length:=(Nat.div_lt_iff_lt_mul r.pos).2 hk
   have hj:=Nat.mod_lt k r.pos
   have ek:k=k / r.sz*r.sz+k % r.sz:=by rw[Nat.mul_comm];exact (Nat.div_add_mod k r.sz).symm
   have ht:ts[k / r.sz]?=some (ts.getD (k / r.sz) r.d):=by rw[List.getD_eq_getElem?_getD,List.getElem?_eq_getElem hi];rfl
   have q:=h3 _ _ ht
   have q1:((cs.drop (k / r.sz*r.sz)).take r.sz)[k % r.sz]?=((r.f (ts.getD (k / r.sz) r.d)).map AV.val)[k % r.sz]?:=by rw[q]
   rw[List.getElem?_take_of_lt hj,List.getElem?_drop,<-ek,List.getElem?_map,<-r.cells_get ts _ _ hi hj,<-ek]at q1
   rw[q1,List.getElem?_map]
  ·rw[List.getElem?_eq_none (by omega),List.getElem?_eq_none (by rw[List.length_map,r.cells_len];omega)]
 rw[hcs]at h1
 exact h1
end
section
variable {H:Type} {enc:TypeId×Value->H} {w:World} {base:Nat} {held:Bool}
theorem zEY {α:Type} {l:List α} (h:l.length=2):∃a b,l=[a,b]:=by
 match l,h with
 | [a,b],_=>exact ⟨a,b,rfl⟩
theorem z9H {fuel:Nat} {cs:List Value} {x:DataW H×List MemPlace} (h:DataW.trod enc Tryz.prog w base (fun _=>true) held fuel 26 cs=some x):∃v,cs=[v]/\∃xs:List Int,Sl w v xs.length ((intR.cells xs).map AV.val):=by
 obtain ⟨v,h1,ts,h2⟩:=Qho (fun _ cs (c:Int)=>cs=(intR.f c).map AV.val) Tryz.underlying26 (size:=1) (by kernel_rfl) (by decide) (fun fuel cs x hx=>by
  obtain ⟨n,rfl,hw⟩:=Ka4 Tryz.underlying3 hx
  exact ⟨n,by rw[Zr0];rfl⟩) h
 exact ⟨v,h1,ts,RdL.row (r:=intR) h2⟩
theorem QXC {fuel:Nat} {i:Int} {x:DataW H×List MemPlace} (h:DataW.trod enc Tryz.prog w base (fun _=>true) held fuel 3 [.int .i64 i]=some x) : -9223372036854775808<=i/\i<=9223372036854775807:=by
 obtain ⟨n,e,hw⟩:=Ka4 Tryz.underlying3 h
 cases e
 exact ZLD hw
theorem qJX {fuel:Nat} {cs:List Value} {x:DataW H×List MemPlace} (h:DataW.trod enc Tryz.prog w base (fun _=>true) held fuel 47 cs=some x):∃r n,cs=[.int .i64 r,.int .i64 n]/\(-9223372036854775808<=r/\r<=9223372036854775807)/\(-9223372036854775808<=n/\n<=9223372036854775807):=by
 cases fuel with
 | zero=>cases h
 | succ fuel =>
  obtain ⟨hl,he⟩:=QRP Tryz.underlying47 h
  have hl2:cs.length=2:=hl.trans (by kernel_rfl)
  simp only[List.forall_mem_cons]at he
  obtain ⟨⟨y0,h0⟩,⟨y1,h1⟩,_⟩:=he
  rw[(by kernel_rfl:Tryz.prog.cellsOf 3=1)]at h0 h1
  obtain ⟨r,e0,w0⟩:=Ka4 Tryz.underlying3 h0
  obtain ⟨n,e1,w1⟩:=Ka4 Tryz.underlying3 h1
  obtain ⟨a,b,rfl⟩:=zEY hl2
  have e0':[a]=_:=e0
  have e1':[b]=_:=e1
  cases e0'
  cases e1'
  exact ⟨r,n,rfl,ZLD w0,ZLD w1⟩
end
end
section
open Go.ChangeShapes Go.WideShapes Go.ChangeAt Go.RowKit
section
variable {H:Type} {enc:TypeId×Value->H} {w:World} {base:Nat} {held:Bool}
theorem Kny {fuel:Nat} {cs:List Value} {x:DataW H×List MemPlace} (h:DataW.trod enc Tryz.prog w base (fun _=>true) held fuel 59 cs=some x):∃i:Dg,cs=(idR.f i).map AV.val:=by
 cases fuel with
 | zero=>cases h
 | succ fuel =>
  obtain ⟨hl,he⟩:=zOr Tryz.underlying59 h
  have hl2:cs.length=32:=hl.trans (by kernel_rfl)
  have h1:Tryz.prog.cellsOf 5=1:=by kernel_rfl
  obtain ⟨d,hd,hdt⟩:=zEA (fun i (c:UInt8)=>cs[i]?=some (.int .u8 (c.toNat:Int))) 32 fun i hi=>by
   obtain ⟨y,hy⟩:=he i hi
   rw[h1]at hy
   obtain ⟨n,hn,hw⟩:=Ka4 Tryz.underlying5 hy
   refine ⟨UInt8.ofInt n,?_⟩
   have e:((cs.drop (i*1)).take 1)[0]?=some (.int .u8 n):=by rw[hn];rfl
   rw[List.getElem?_take_of_lt (by omega),List.getElem?_drop,Kp4 hw]at e
   simpa using e
  refine ⟨⟨d,hd⟩,?_⟩
  apply List.ext_getElem?
  intro i
  show cs[i]?=((d.map u8A).map AV.val)[i]?
  rw[List.map_map]
  by_cases hi:i<32
  ·rw[List.getElem?_map,List.getElem?_eq_getElem (by omega:i<d.length),Option.map_some,hdt i _ (List.getElem?_eq_getElem (by omega:i<d.length))]
   rfl
  ·rw[List.getElem?_eq_none (by omega),List.getElem?_eq_none (by rw[List.length_map];omega)]
end
end
section
open Go.ChangeShapes Go.WideShapes Go.ChangeAt Go.RowKit
section
variable {H:Type} {enc:TypeId×Value->H} {w:World} {base:Nat} {held:Bool}
theorem qH7 (s:ByteArray):AV.val (.s s.data.toList)=.string s:=by
 show Value.string ⟨s.data.toList.toArray⟩=_
 rw[Array.toArray_toList]
theorem Ydi {fuel:Nat} {cs:List Value} {x:DataW H×List MemPlace} (h:DataW.trod enc Tryz.prog w base (fun _=>true) held fuel 60 cs=some x):∃v,cs=[v]/\∃xs:List Dg,Sl w v xs.length ((idR.cells xs).map AV.val):=by
 obtain ⟨v,h1,ts,h2⟩:=Qho (fun _ cs (c:Dg)=>cs=(idR.f c).map AV.val) Tryz.underlying60 (size:=32) (by kernel_rfl) (by decide) (fun fuel cs x hx=>Kny hx) h
 exact ⟨v,h1,ts,RdL.row (r:=idR) h2⟩
end
end
section
open Go.ChangeShapes Go.WideShapes Go.ChangeAt Go.RowKit
structure RawE where
 r:Int
 n:Int
 d:Value
 k:Int
 repo:ByteArray
 tag:ByteArray
 id:Dg
 rf:Value
 xs:List Int
 ys:List Dg
def RawE.cells (t:RawE):List Value:=[.int .i64 t.r,.int .i64 t.n,t.d,.int .i64 t.k,.string t.repo,.string t.tag]++(idR.f t.id).map AV.val++[t.rf]
section
variable {H:Type} {enc:TypeId×Value->H} {w:World} {base:Nat} {held:Bool}
theorem cutE {α:Type} (cs:List α) (a b:Nat):(cs.drop a).take b++cs.drop (a+b)=cs.drop a:=by rw[<-List.drop_drop,List.take_append_drop]
theorem JLb {fuel:Nat} {cs:List Value} {x:DataW H×List MemPlace} (h:DataW.trod enc Tryz.prog w base (fun _=>true) held fuel 62 cs=some x) :
  ∃t:RawE,cs=t.cells/\Sl w t.d t.xs.length ((intR.cells t.xs).map AV.val)/\Sl w t.rf t.ys.length ((idR.cells t.ys).map AV.val):=by
 cases fuel with
 | zero=>cases h
 | succ fuel =>
  obtain ⟨hl,he⟩:=QRP Tryz.underlying62 h
  have hl2:cs.length=39:=hl.trans (by kernel_rfl)
  simp only[List.forall_mem_cons]at he
  obtain ⟨⟨y0,h0⟩,⟨y1,h1⟩,⟨y2,h2⟩,⟨y3,h3⟩,⟨y4,h4⟩,⟨y5,h5⟩,⟨y6,h6⟩,_⟩:=he
  rw[(by kernel_rfl:Tryz.prog.cellsOf 47=2)]at h0
  rw[(by kernel_rfl:Tryz.prog.cellsOf 26=1)]at h1
  rw[(by kernel_rfl:Tryz.prog.cellsOf 3=1)]at h2
  rw[(by kernel_rfl:Tryz.prog.cellsOf 9=1)]at h3 h4
  rw[(by kernel_rfl:Tryz.prog.cellsOf 59=32)]at h5
  rw[(by kernel_rfl:Tryz.prog.cellsOf 60=1)]at h6
  obtain ⟨r,n,e0,_,_⟩:=qJX h0
  obtain ⟨d,e1,xs,s1⟩:=z9H h1
  obtain ⟨k,e2,_⟩:=Ka4 Tryz.underlying3 h2
  obtain ⟨p,e3,_⟩:=XPg Tryz.underlying9 h3
  obtain ⟨g,e4,_⟩:=XPg Tryz.underlying9 h4
  obtain ⟨i,e5⟩:=Kny h5
  obtain ⟨f,e6,ys,s6⟩:=Ydi h6
  have e0':(cs.drop 0).take 2=[.int .i64 r,.int .i64 n]:=e0
  have e1':(cs.drop 2).take 1=[d]:=e1
  have e2':(cs.drop 3).take 1=[.int .i64 k]:=e2
  have e3':(cs.drop 4).take 1=[.string p]:=e3
  have e4':(cs.drop 5).take 1=[.string g]:=e4
  have e5':(cs.drop 6).take 32=(idR.f i).map AV.val:=e5
  have e6':(cs.drop 38).take 1=[f]:=e6
  refine ⟨⟨r,n,d,k,p,g,i,f,xs,ys⟩,?_,s1,s6⟩
  have a0:=cutE cs 0 2
  have a1:=cutE cs 2 1
  have a2:=cutE cs 3 1
  have a3:=cutE cs 4 1
  have a4:=cutE cs 5 1
  have a5:=cutE cs 6 32
  have a6:=cutE cs 38 1
  rw[e0',Nat.zero_add]at a0
  rw[e1']at a1
  rw[e2']at a2
  rw[e3']at a3
  rw[e4']at a4
  rw[e5']at a5
  rw[e6',List.drop_eq_nil_of_le (show cs.length<=38+1 by omega)]at a6
  rw[<-a6]at a5
  rw[<-a5]at a4
  rw[<-a4]at a3
  rw[<-a3]at a2
  rw[<-a2]at a1
  rw[<-a1]at a0
  rw[show cs=cs.drop 0 from rfl,<-a0]
  unfold RawE.cells
  simp only[List.cons_append,List.nil_append,List.append_assoc,List.append_nil]
theorem zSe {fuel:Nat} {cs:List Value} {x:DataW H×List MemPlace} (h:DataW.trod enc Tryz.prog w base (fun _=>true) held fuel 22 cs=some x) :
  ∃v,cs=[v]/\∃(ts:List RawE) (c:List Value),Sl w v ts.length c/\c.length=ts.length*39/\(∀i t,ts[i]?=some t->(c.drop (i*39)).take 39=t.cells)/\∀t∈ts,Sl w t.d t.xs.length ((intR.cells t.xs).map AV.val)/\Sl w t.rf t.ys.length ((idR.cells t.ys).map AV.val):=by
 obtain ⟨v,h1,ts,c,h2,h3,h4⟩:=Qho (fun w cs (t:RawE)=>cs=t.cells/\Sl w t.d t.xs.length ((intR.cells t.xs).map AV.val)/\Sl w t.rf t.ys.length ((idR.cells t.ys).map AV.val)) Tryz.underlying22 (size:=39) (by kernel_rfl) (by decide) (fun fuel cs x hx=>JLb hx) h
 exact ⟨v,h1,ts,c,h2,h3,fun i t ht=>(h4 i t ht).1,fun t ht=>by
  obtain ⟨i,hi⟩:=List.mem_iff_getElem?.1 ht
  exact (h4 i t hi).2⟩
end
section
variable {K:Code->CC->Prop} {ρ:Mp} {h:List AB} {w:World}
theorem In.slG {α:Type} {r:Row α} (i:In K ρ h w) {v:Value} {cs:List Value} {xs:List α} (hl:cs.length=xs.length*r.sz) (hs:Sl w v xs.length cs) (hv:∀(j:Nat) a c,(r.cells xs)[j]?=some a->cs[j]?=some c->VR ρ a c) :
  ∃x s B,In K (ρ++[x]) (h++[B]) w/\VR (ρ++[x]) s v/\Rd r (h++[B]) s xs/\s.ok (fun i=>decide (i<(h++[B]).length))=true/\s.capOk=true:=by
 have hrl:=i.rel.len
 by_cases h0:xs.length=0
 ·obtain rfl:=List.eq_nil_of_length_eq_zero h0
  refine ⟨(0,0,0),.sl h.length 0 0 0 (some 0),.dead,i.push (by simp [AB.mut]) (by simp [BR]),?_,⟨by rfl,Nat.zero_le _⟩,by simp [AV.ok],rfl⟩
  rcases hs with ⟨⟨a,rfl⟩,_,_⟩|⟨b,off,cap,rfl,_,hc,_⟩
  ·exact .sz _ _ _ _ (Nat.zero_le _) fun _=>rfl
  ·exact .sz _ _ _ _ hc fun q=>by cases q
 ·rcases hs with ⟨_,q,_⟩|⟨b,off,cap,rfl,hlc,hc,hcells⟩
  ·omega
  ·have hlen:(r.cells xs).length=xs.length*r.sz:=r.cells_len xs
   have hpos:0<xs.length*r.sz:=Nat.mul_pos (by omega) r.pos
   have hat:∀k (hk:k<cs.length),w.cell? ⟨b,off+k,none⟩=some cs[k]:=fun k hk=>hcells k _ (List.getElem?_eq_getElem hk)
   obtain ⟨ds,e,fz,hb⟩:∃cs e fz,w.heap[b]?=some (.cells cs e fz):=by
    have:=hat 0 (by omega)
    unfold World.cell? at this
    split at this
    ·rename_i c e fz hb
     exact ⟨c,e,fz,hb⟩
    ·cases this
   have hat':∀k (hk:k<cs.length),ds[off+k]?=some cs[k]:=fun k hk=>by
    have:=hat k hk
    unfold World.cell? at this
    rw[hb]at this
    simpa using this
   refine ⟨(b,off,off+cap*r.sz),.sl h.length 0 xs.length xs.length (some r.sz),.blk false false (r.cells xs),i.push (by simp [AB.mut]) ?_,?_,⟨?_,by show xs.length<=maxLen;omega⟩,by simp [AV.ok],?_⟩
   ·refine ⟨ds,e,fz,hb,(fun q=>by cases q),?_,fun k a c ha hc'=>?_⟩
    ·have:=(Array.getElem?_eq_some_iff.1 (hat' (cs.length-1) (by omega))).1
     omega
    ·have hk:=(List.getElem?_eq_some_iff.1 ha).1
     rw[hat' k (by omega)]at hc'
     cases hc'
     exact (hv k a _ ha (List.getElem?_eq_getElem (by omega))).ext (Ext.push _ _)
   ·exact .sl h.length 0 xs.length xs.length (some r.sz) b off (off+cap*r.sz) cap (by rw[<-hrl,List.getElem?_append_right (Nat.le_refl _),Nat.sub_self];rfl) (Nat.le_refl _) (by omega) hc (fun q=>by cases q) (fun z hz _=>by cases hz;exact Nat.le_refl _)
   ·simp only[rdS,if_neg h0]
    have hr:ZMh (h++[AB.blk false false (r.cells xs)]) h.length=some (r.cells xs):=by
     unfold ZMh
     rw[List.getElem?_append_right (Nat.le_refl _),Nat.sub_self]
     rfl
    rw[hr,Option.bind_some,if_pos (by omega),List.drop_zero,List.take_of_length_le (by omega)]
   ·simp [AV.capOk]
structure EvO (ρ:Mp) (h:List AB) (e:EvtA) (t:RawE):Prop where
 v:VL ρ (evtF e) t.cells.toArray
 d:Rd intR h e.deps.a t.xs
 f:Rd idR h e.refs.a t.ys
 o:okL (fun i=>decide (i<h.length)) (evtF e)=true
 c1:e.deps.a.capOk=true
 c2:e.refs.a.capOk=true
theorem EvO.app {ρ ρ2:Mp} {h h2:List AB} {e:EvtA} {t:RawE} (q:EvO ρ h e t):EvO (ρ++ρ2) (h++h2) e t:=
 ⟨q.v.ext (fun k y hk=>by rw[List.getElem?_append_left (List.getElem?_eq_some_iff.1 hk).1];exact hk),q.d.app h2,q.f.app h2,KAd (fun i z=>by simp only[decide_eq_true_eq,List.length_append]at z ⊢;omega) _ q.o,q.c1,q.c2⟩
theorem X0G (x:Dg):∀a∈idR.f x,a.fl=true:=fun a ha=>by
 obtain ⟨b,_,rfl⟩:=List.mem_map.1 ha
 rfl
theorem JW9 {ρ:Mp} {d f:AV} {t:RawE} (hd:VR ρ d t.d) (hf:VR ρ f t.rf) (sd:d.isSl=true) (sf:f.isSl=true):VL ρ (evtF ⟨(t.r,t.n),⟨d,sd⟩,t.k,t.repo.data.toList,t.tag.data.toList,t.id,⟨f,sf⟩⟩) t.cells.toArray:=by
 have h1:=YM6 ρ [.i .i64 t.r,.i .i64 t.n] (fun a ha=>by simp at ha;rcases ha with rfl|rfl <;> rfl)
 have h2:=YM6 ρ (.i .i64 t.k::.s t.repo.data.toList::.s t.tag.data.toList::idR.f t.id) (fun a ha=>by
  rcases List.mem_cons.1 ha with rfl|ha
  ·rfl
  ·rcases List.mem_cons.1 ha with rfl|ha
   ·rfl
   ·rcases List.mem_cons.1 ha with rfl|ha
    ·rfl
    ·exact X0G _ a ha)
 have h3:=((h1.append (VL.one hd)).append h2).append (VL.one hf)
 have e1:([AV.i .i64 t.r,.i .i64 t.n]++[d])++(.i .i64 t.k::.s t.repo.data.toList::.s t.tag.data.toList::idR.f t.id)++[f]=evtF ⟨(t.r,t.n),⟨d,sd⟩,t.k,t.repo.data.toList,t.tag.data.toList,t.id,⟨f,sf⟩⟩:=by
  unfold evtF
  simp only[List.cons_append,List.nil_append]
 rw[e1]at h3
 have e2:(([AV.i .i64 t.r,.i .i64 t.n].map AV.val).toArray ++ #[t.d]++((AV.i .i64 t.k::.s t.repo.data.toList::.s t.tag.data.toList::idR.f t.id).map AV.val).toArray ++ #[t.rf])=t.cells.toArray:=by
  apply Array.toList_inj.1
  simp only[Array.toList_append,List.map_cons,List.map_nil,qH7]
  unfold RawE.cells
  simp only[List.cons_append,List.nil_append,List.append_assoc]
  rfl
 rw[e2]at h3
 exact h3
theorem In.evl:∀(ts:List RawE) {ρ:Mp} {h:List AB},In K ρ h w->(∀t∈ts,Sl w t.d t.xs.length ((intR.cells t.xs).map AV.val)/\Sl w t.rf t.ys.length ((idR.cells t.ys).map AV.val)) ->
  ∃(ρ2:Mp) (h2:List AB) (es:List EvtA),In K (ρ++ρ2) (h++h2) w/\es.length=ts.length/\∀(j:Nat) e t,es[j]?=some e->ts[j]?=some t->EvO (ρ++ρ2) (h++h2) e t
 | [],ρ,h,i,_=>⟨[],[],[],by simpa using i,rfl,fun j e t q=>by simp at q⟩
 | t::ts,ρ,h,i,hs=>by
  obtain ⟨m1,x1,i1,v1⟩:=i.slice zDi (hs t (List.mem_cons_self ..)).1
  obtain ⟨m2,x2,i2,v2⟩:=i1.slice (r:=idR) X0G (hs t (List.mem_cons_self ..)).2
  obtain ⟨ρ2,h2,es,i3,hl,hj⟩:=In.evl ts i2 fun t ht=>hs t (List.mem_cons_of_mem _ ht)
  have e1:(ρ++[x1]++[x2])++ρ2=ρ++([x1,x2]++ρ2):=by simp
  have e2:(h++[resB intR false t.xs]++[resB idR false t.ys])++h2=h++([resB intR false t.xs,resB idR false t.ys]++h2):=by simp
  obtain ⟨e0,q0⟩:∃e0,EvO (ρ++[x1]++[x2]) (h++[resB intR false t.xs]++[resB idR false t.ys]) e0 t:=by
   refine ⟨⟨(t.r,t.n),⟨rsl intR h.length t.xs,JZE _ _⟩,t.k,t.repo.data.toList,t.tag.data.toList,t.id,⟨rsl idR (h++[resB intR false t.xs]).length t.ys,JZE _ _⟩⟩,?_⟩
   refine ⟨JW9 (v1.ext (Ext.push _ _)) v2 _ _,?_,?_,?_,zKc _ _,zKc _ _⟩
   ·exact (K0d (by rw[List.getElem?_append_right (Nat.le_refl _),Nat.sub_self];rfl) m1).app _
   ·exact K0d (by rw[List.getElem?_append_right (Nat.le_refl _),Nat.sub_self];rfl) m2
   ·refine zFH.2 fun j a ha=>?_
    have hv:=(JW9 (ρ:=ρ++[x1]++[x2]) (v1.ext (Ext.push _ _)) v2 (JZE _ _) (JZE _ _))
    obtain ⟨c,_,hc⟩:=hv.get (j:=j) (a:=a) ha
    exact hc.okLe (by rw[i2.rel.len];exact Nat.le_refl _)
  rw[e1,e2]at i3
  refine ⟨[x1,x2]++ρ2,[resB intR false t.xs,resB idR false t.ys]++h2,e0::es,i3,by simp [hl],fun j e t' a b=>?_⟩
  ·cases j with
   | zero =>
    cases a;cases b
    have:=q0.app (ρ2:=ρ2) (h2:=h2)
    rw[e1,e2]at this
    exact this
   | succ j =>
    have:=hj j e t' (by simpa using a) (by simpa using b)
    rw[e1,e2]at this
    exact this
theorem In.evs (i:In K ρ h w) {v:Value} {ts:List RawE} {c:List Value} (hs:Sl w v ts.length c) (hl:c.length=ts.length*39) (hc:∀i t,ts[i]?=some t->(c.drop (i*39)).take 39=t.cells) (ht:∀t∈ts,Sl w t.d t.xs.length ((intR.cells t.xs).map AV.val)/\Sl w t.rf t.ys.length ((idR.cells t.ys).map AV.val)) :
  ∃(ρ2:Mp) (h2:List AB) (s:AV) (M:List EvF),In K (ρ++ρ2) (h++h2) w/\VR (ρ++ρ2) s v/\RdEf (h++h2) s M/\s.ok (fun i=>decide (i<(h++h2).length))=true/\s.capOk=true/\Ext ρ (ρ++ρ2):=by
 obtain ⟨ρ2,h2,es,i2,hle,hj⟩:=i.evl ts ht
 have key:∀(j:Nat) a c',(evR.cells es)[j]?=some a->c[j]?=some c'->VR (ρ++ρ2) a c':=fun j a c' ha hc'=>by
  have hjl:j<es.length*39:=by
   have:=(List.getElem?_eq_some_iff.1 ha).1
   rw[evR.cells_len]at this
   exact this
  have hi:j / 39<es.length:=by omega
  have hm:j % 39<39:=Nat.mod_lt _ (by decide)
  have ej:j=j / 39*39+j % 39:=by omega
  have q:=hj (j / 39) _ _ (List.getElem?_eq_getElem hi) (List.getElem?_eq_getElem (by omega:j / 39<ts.length))
  have h1:=hc (j / 39) _ (List.getElem?_eq_getElem (by omega:j / 39<ts.length))
  refine q.v.2 (j % 39) a c' ?_ ?_
  ·have:=evR.cells_get es (j / 39) (j % 39) hi hm
   rw[show evR.sz=39 from rfl,<-ej,ha]at this
   rw[this,List.getD_eq_getElem?_getD,List.getElem?_eq_getElem hi]
   rfl
  ·rw[List.getElem?_toArray,<-h1,List.getElem?_take_of_lt hm,List.getElem?_drop,<-ej]
   exact hc'
 obtain ⟨x,s,B,i3,v3,r3,o3,c3⟩:=i2.slG (r:=evR) (xs:=es) (by rw[hle];exact hl) (by rw[hle];exact hs) key
 have e1:ρ++ρ2++[x]=ρ++(ρ2++[x]):=List.append_assoc _ _ _
 have e2:h++h2++[B]=h++(h2++[B]):=List.append_assoc _ _ _
 have hz:∀e∈es.zip ts,EvO (ρ++ρ2++[x]) (h++h2++[B]) e.1 e.2:=fun e he=>by
  obtain ⟨j,hj'⟩:=List.mem_iff_getElem?.1 he
  obtain ⟨a,b⟩:=e
  rw[List.getElem?_zip_eq_some]at hj'
  exact (hj j a b hj'.1 hj'.2).app
 have hm1:((es.zip ts).map fun e=>(e.1,(e.2.xs,e.2.ys))).map (fun e=>(e.1,e.2.1))=(es.zip ts).map fun e=>(e.1,e.2.xs):=by rw[List.map_map];rfl
 have hm2:((es.zip ts).map fun e=>(e.1,e.2.xs)).map (·.1)=es:=by
  rw[List.map_map]
  exact List.map_fst_zip (by omega)
 rw[e1]at i3 v3
 rw[e2]at i3 r3 o3
 rw[e1,e2]at hz
 refine ⟨ρ2++[x],h2++[B],s,(es.zip ts).map fun e=>(e.1,(e.2.xs,e.2.ys)),i3,v3,⟨⟨?_,fun e he=>?_,fun e he=>?_⟩,fun e he=>?_,fun e he=>?_⟩,o3,c3,fun k y hk=>?_⟩
 ·rw[hm1,hm2];exact r3
 ·rw[hm1]at he
  obtain ⟨p,hp,rfl⟩:=List.mem_map.1 he
  exact (hz p hp).d
 ·rw[hm1]at he
  obtain ⟨p,hp,rfl⟩:=List.mem_map.1 he
  exact (hz p hp).o
 ·obtain ⟨p,hp,rfl⟩:=List.mem_map.1 he
  exact (hz p hp).f
 ·obtain ⟨p,hp,rfl⟩:=List.mem_map.1 he
  exact ⟨(hz p hp).c1,(hz p hp).c2⟩
 ·rw[List.getElem?_append_left (List.getElem?_eq_some_iff.1 hk).1];exact hk
end
end
end Go.Proofs.YtebcngelgdpbjaaGreat
