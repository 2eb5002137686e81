/- Part 27 of what the laws' proofs rest on. No condition. -/
import Derived.Test.YtekeoichmdiiiaaGreatTh26
set_option linter.all false
namespace Go.Proofs.YtekeoichmdiiiaaGreat
section
set_option maxRecDepth 100000
set_option maxHeartbeats 8000000
theorem LR.stayP {α δ:Type} {D:DRow α δ} {fl:Bool} {h H:List AB} {i j xi ob:Nat} {s:AV} {bs:List UInt8} {mk:AV->List AV} {k:Nat} {st:RFt} {m:List (α×δ)} {id lo:Nat} (e:LR D fl i j xi s bs ob mk h k H st m id) (hk:k<=maxLen) (hlo:lo<=h.length) (H':List AB) (g1:H.length<=H'.length) (g2:∀q,lo<=q->q<H.length->zZU H' q=zZU H q):RdP D H' (apS D.r id (m.map (·.1))) m/\(apS D.r id (m.map (·.1))).ok (fun i=>decide (i<H'.length))=true:=by
 obtain ⟨h1,h2⟩:=e.stay hk hlo H' g1 g2
 have hr:∀a∈m,D.get H' a.1=some a.2/\okL (fun i=>decide (i<H'.length)) (D.r.f a.1)=true:=fun a ha=>by
  have hm:m.length≠0:=by
   intro q
   rw[List.eq_nil_of_length_eq_zero q]at ha
   simp at ha
  have hi:=e.idlt hm
  exact e.rows a ha H' g1 fun q q1 q2=>g2 q (by omega) (by omega)
 exact ⟨⟨h1,fun a ha=>(hr a ha).1,fun a ha=>(hr a ha).2⟩,h2⟩
section
variable {h H:List AB} {i j xi a1 a2 x:Nat} {s:AV} {bs:List UInt8}
theorem ZmH (hl:bs.length<=1000000) {m1 f1 m2 f2:Bool} (ha1:h[a1]?=some (.blk f1 m1 [.p i 0])) (n1:a1≠i/\a1≠j/\a1≠xi/\a1≠x) (ha2:h[a2]?=some (.blk f2 m2 [.p xi 0])) (n2:a2≠i/\a2≠j/\a2≠xi/\a2≠x) {vc:AV} {k:Nat} {st:RFt} {m:List (RepA×RpD)} {id:Nat} (hk:k<bs.length) (e:LR repD false i j xi s bs x (fun v=>[vc,v]) h k H st m id) (hh:HOk H) (q:¬flsV st) :
  ∃H',FnC Tryz.prog 103 [.p a1 0,.p a2 0,.p x 0] H (.tu []) H'/\HOk H'/\∃m' id',LR repD false i j xi s bs x (fun v=>[vc,v]) h (k+1) H' (rpS bs st).2 m' id'/\m'.map (·.2)=m.map (·.2)++[(rpS bs st).1]:=by
 have ri:=e.ri
 have hle:=e.fr.le
 have hb:=e.b0
 have hmax:bs.length<=maxLen:=by unfold maxLen;omega
 obtain ⟨hf,hv⟩:=zSM q
 have hlt1:a1<h.length:=(List.getElem?_eq_some_iff.1 ha1).1
 have hlt2:a2<h.length:=(List.getElem?_eq_some_iff.1 ha2).1
 have ha1H:H[a1]?=some (.blk f1 m1 [.p i 0]):=by
  rw[e.fr.eq a1 hlt1 (by simp only[List.mem_cons,List.not_mem_nil,or_false,not_or];exact n1)]
  exact ha1
 have ha2H:H[a2]?=some (.blk f2 m2 [.p xi 0]):=by
  rw[e.fr.eq a2 hlt2 (by simp only[List.mem_cons,List.not_mem_nil,or_false,not_or];exact n2)]
  exact ha2
 obtain ⟨slc,hslc⟩:∃slc,slc=apS repD.r id (m.map (·.1)):=⟨_,rfl⟩
 have obH:=e.ob
 rw[<-hslc]at obH
 obtain ⟨t,y,hty⟩:∃t y,JrE bs st.1 128=(t,y):=⟨_,_,rfl⟩
 have ok1:RFok bs (y,st.2):=by
  have:=XFH ri.ok hf 128
  rw[hty]at this
  exact this
 have e2:rpS bs st=(⟨t,(seqS bs (tgS bs) (y,st.2)).1,(seqS bs (hdS bs) (seqS bs (tgS bs) (y,st.2)).2).1⟩,(seqS bs (hdS bs) (seqS bs (tgS bs) (y,st.2)).2).2):=by unfold rpS;rw[hty]
 rw[e2]
 have hil:=ri.R.hi
 have hjl:=ri.R.hj
 have hxl:=ri.xlt
 obtain ⟨X,hX⟩:∃X,X=rB H i j s y++[.blk false true [.s t,.ns,.ns]]:=⟨_,rfl⟩
 have xl:X.length=H.length+1:=by rw[hX,List.length_append,Kz5];rfl
 have riX:RI i j xi s bs (y,st.2) X:=by rw[hX];exact (ri.rB ok1).app _
 have xo:X[H.length+0]?=some (.blk false true [.s t,.ns,.ns]):=by
  rw[hX,List.getElem?_append_right (by rw[Kz5];omega),Kz5,Nat.add_sub_cancel_left]
  rfl
 have xa1:X[a1]?=some (.blk f1 m1 [.p i 0]):=by rw[hX];exact (zV3 n1.1 n1.2.1 (by omega) _).trans ha1H
 have xa2:X[a2]?=some (.blk f2 m2 [.p xi 0]):=by rw[hX];exact (zV3 n2.1 n2.2.1 (by omega) _).trans ha2H
 have LX:LR tagD false i j xi s bs (H.length+0) (fun v=>[.s t,v,.ns]) X 0 X (y,st.2) [] 0:=⟨riX,Fr.refl _ _,by omega,by omega,fun k hk=>by have:=ri.R.lt k hk;omega,rfl,xo,fun q=>absurd rfl q,fun e he=>by simp at he⟩
 have hok:=qC8 hh ri.hi
 have hhX:HOk X:=by
  rw[hX]
  refine (qMc ri.R hok hh y).app1 fun B hB=>?_
  simp only[List.mem_cons,List.not_mem_nil,or_false]at hB
  rw[hB]
  simp only[AB.ok,ZiP,q0E,ok_s,Bool.true_and]
  rfl
 obtain ⟨X1,c1,hh1,kt,mt,idt,hkt,LT,et⟩:=XpL (c:=105) (eq_false (by decide)) (eq_false (by decide)) (eq_false (by decide)) (cap:=[.p a1 0,.p a2 0,.p (H.length+0) 0]) (gS:=tgS bs) hl (fun x y e=>by simpa using e) LX hhX fun k H2 st2 m id hk e hh2 q=>XT2 hl xa1 (by omega) xa2 (by omega) hk e hh2 q
 rw[et]
 obtain ⟨st1,hst1⟩:∃st1,st1=(seqS bs (tgS bs) (y,st.2)).2:=⟨_,rfl⟩
 rw[<-hst1]at LT ⊢
 obtain ⟨sl,X2,c2,hh2,ri2,frX2,stX2⟩:=Q0d hl LT.ri hh1
 obtain ⟨st2,hst2⟩:∃st2,st2=(seqS bs (hdS bs) st1).2:=⟨_,rfl⟩
 obtain ⟨ls,hls⟩:∃ls,ls=(seqS bs (hdS bs) st1).1:=⟨_,rfl⟩
 rw[<-hst2]at ri2 ⊢
 rw[<-hls]at stX2 ⊢
 have x1e:=LT.fr.le
 have x2e:=frX2.le
 obtain ⟨vt,hvt⟩:∃vt:SlA,vt.a=apS tagD.r idt (mt.map (·.1)):=⟨⟨_,zMR _ _⟩,rfl⟩
 have g1:X2[H.length+0]?=some (.blk false true [.s t,vt.a,.ns]):=by
  rw[frX2.eq (H.length+0) (by omega) (by simp only[List.mem_cons,List.not_mem_nil,or_false,not_or];omega),hvt]
  exact LT.ob
 obtain ⟨X3,hX3⟩:∃X3,X3=X2.set (H.length+0) (.blk false true [.s t,vt.a,sl.a]):=⟨_,rfl⟩
 have x3l:X3.length=X2.length:=by rw[hX3,List.length_set]
 have x3o:∀q,q≠H.length->X3[q]?=X2[q]?:=fun q hq=>by rw[hX3,List.getElem?_set_ne (by omega)]
 have gX3:X3[H.length+0]?=some (.blk false true [.s t,vt.a,sl.a]):=by rw[hX3,List.getElem?_set_self (by omega)]
 have frH:Fr [i,j,xi] H (X3++[.blk false true [.s t,vt.a,sl.a]]):=⟨by rw[List.length_append];omega,fun q q1 q2=>by
  rw[List.getElem?_append_left (by omega),x3o q (by omega),frX2.eq q (by omega) q2,LT.fr.eq q (by omega) (by simp only[List.mem_cons,List.not_mem_nil,or_false,not_or]at q2 ⊢;omega),hX]
  simp only[List.mem_cons,List.not_mem_nil,or_false,not_or]at q2
  exact zV3 q2.1 q2.2.1 q1 _⟩
 have ri3:RI i j xi s bs st2 (X3++[.blk false true [.s t,vt.a,sl.a]]):=(ri2.oth (H':=X3) (by omega) fun q hq=>x3o q (by
  rcases hq with z|z|z|z
  ·omega
  ·omega
  ·omega
  ·have:=ri.R.lt q z
   omega)).app _
 have L1:=e.to frH ri3
 have P1:=L1.push (Hs:=H) (fun hm=>e.idlt hm) ⟨t,vt,sl⟩ ⟨t,mt.map (·.2),ls⟩ (fun H' g1 g2=>by
  rw[List.length_append]at g1 g2
  have g3:∀k,X.length<=k->k<X2.length->zZU H' k=zZU X2 k:=fun k k1 k2=>(g2 k (by omega) (by omega)).trans (by
   unfold zZU
   rw[List.getElem?_append_left (by omega),x3o k (by omega)])
  have hx':=stX2 H' (by omega) fun k k1 k2=>g3 k (by omega) k2
  have hy':=LT.stayP (lo:=X.length) (by omega) (Nat.le_refl _) H' (by omega) fun k k1 k2=>(g3 k k1 (by omega)).trans (by
   unfold zZU
   rw[frX2.eq k k2 (by simp only[List.mem_cons,List.not_mem_nil,or_false,not_or];omega)])
  rw[<-hvt]at hy'
  refine ⟨XZF (a:=⟨t,vt,sl⟩) hy'.1 hx'.1,?_⟩
  show okL _ (repR.f ⟨t,vt,sl⟩)=true
  rw[X6g]
  simp only[ZiP,q0E,ok_s,Bool.true_and,Bool.and_true,Bool.and_eq_true]
  exact ⟨hy'.2,hx'.2⟩) hle
 have slo:=(stX2 X2 (Nat.le_refl _) fun _ _ _=>rfl).2
 have vto:=(LT.stayP (lo:=X.length) (by omega) (Nat.le_refl _) X1 (Nat.le_refl _) fun _ _ _=>rfl).2
 rw[<-hvt]at vto
 have slo2:∀n,X2.length<=n->okL (fun i=>decide (i<n)) (repR.f ⟨t,vt,sl⟩)=true:=fun n hn=>by
  rw[X6g]
  simp only[ZiP,q0E,ok_s,Bool.true_and,Bool.and_true,Bool.and_eq_true]
  exact ⟨AV.ok_mono (fun i z=>by simp only[decide_eq_true_eq]at z ⊢;omega) vt.a vto,AV.ok_mono (fun i z=>by simp only[decide_eq_true_eq]at z ⊢;omega) sl.a slo⟩
 have hh3:HOk X3:=by
  rw[hX3]
  refine hh2.set1 ?_
  simp only[AB.ok]
  exact slo2 _ (Nat.le_refl _)
 have hh4:HOk (X3++[.blk false true [.s t,vt.a,sl.a]]):=hh3.app1 fun C hC=>by
  simp only[List.mem_cons,List.not_mem_nil,or_false]at hC
  rw[hC]
  simp only[AB.ok]
  exact slo2 _ (by omega)
 have P2:=L1.push_ok hh4 (fun q v w h1 hw=>by
  simp only[ZiP,q0E,hw,Bool.and_true,Bool.and_eq_true]at h1 ⊢
  exact h1.1) (a:=⟨t,vt,sl⟩) (slo2 _ (by rw[List.length_append];omega)) (some repD.r.sz)
 rw[<-hslc,XBQ]at P1 P2
 refine ⟨_,?_,P2,_,_,P1,by rw[List.map_append];rfl⟩
 refine FnAt.c (FnAt.run (by kernel_rfl) (T:=⟨[⟨104,JRM,fun _=>[]⟩,⟨102,T1 [.p xi 0,.f (.func 105) [] [.p a1 0,.p a2 0,.p (H.length+0) 0]] X (.tu []) X1,fun _=>[]⟩,⟨106,T1 [.p xi 0] X1 sl.a X2,fun _=>[]⟩],[]⟩) ⟨⟨KPa,Y2x c1,Y2x c2,trivial⟩,trivial⟩ Tryz.func103 Jgi fun _ _=>?_)
 have e0:H++[]=rB H i j s st.1++[]:=by rw[ri.asis]
 rw[e0]
 have f4:=fun x=>Zuy (x:=x) ri.R
 have rl:∀y,(rB H i j s y).length=H.length:=fun y=>Kz5
 have ga1:∀y L,ldV (rB H i j s y++L) none (.p a1 0)=some (.p i 0):=fun y L=>qGa ((zV3 n1.1 n1.2.1 (by omega) L).trans ha1H) rfl
 have ga2:∀y L,ldV (rB H i j s y++L) none (.p a2 0)=some (.p xi 0):=fun y L=>qGa ((zV3 n2.1 n2.2.1 (by omega) L).trans ha2H) rfl
 have ga3:ldV X1 none (.p a2 0)=some (.p xi 0):=qGa ((LT.fr.eq a2 (by omega) (by simp only[List.mem_cons,List.not_mem_nil,or_false,not_or];omega)).trans xa2) rfl
 have r0:=qdK ri.R ri.pos
 have g2:=eq_true hl
 have t1:T1 [.p xi 0,.f (.func 105) [] [.p a1 0,.p a2 0,.p (H.length+0) 0]] X (.tu []) X1 [.p xi 0,.f (.func 105) [] [.p a1 0,.p a2 0,.p (H.length+0) 0]] (rB H i j s y++[.blk false true [.s t,.ns,.ns]])=some (.tu [],X1):=by
  rw[<-hX]
  exact YEj _ _ _ _
 have t2:=YEj [.p xi 0] X1 sl.a X2
 have so:=sl.one'
 have so2:=vt.one'
 have s1:stV X2 none (.p (H.length+0) 2) sl.a=some X3:=by
  rw[hX3]
  exact JqM g1 (by simp) so rfl
 have obX3:X3[x]?=some (.blk false true [vc,slc]):=by
  have:=L1.ob
  rw[List.getElem?_append_left (by omega),<-hslc]at this
  exact this
 have d1:ldV X3 none (.p x 1)=some slc:=qGa obX3 rfl
 have d2:ldV X3 (some 3) (.p (H.length+0) 0)=some (.ag [.s t,vt.a,sl.a]):=JNy gX3 (by simp) rfl
 have fapp:∀ys,appW (X3++[.blk false true [.s t,vt.a,sl.a]]) false 3 64 slc 1 ys=some (.sl (X3++[AB.blk false true [.s t,vt.a,sl.a]]).length 0 (k+1) (k+1) (some 3),qBs slc (X3++[.blk false true [.s t,vt.a,sl.a]])++[.blk false true (repR.cells (m.map (·.1))++ys)]):=fun ys=>by
  rw[hslc]
  exact L1.app (D:=repD) rfl ys (by omega) (by unfold maxLen;omega)
 have sv:srcV (X3++[.blk false true [.s t,vt.a,sl.a]]) 3 (.sl X3.length 0 1 1 none)=some (1,[.s t,vt.a,sl.a]):=by
  have:=YBM (h:=X3) [.blk false true [.s t,vt.a,sl.a]] 0 0 1 1 3 none
  rw[Nat.add_zero]at this
  rw[this]
  rfl
 have sw:[AV.s t,vt.a,sl.a].all (wrOk false)=true:=zUA ⟨t,vt,sl⟩
 have stb:∀N v,stV (qBs slc (X3++[.blk false true [.s t,vt.a,sl.a]])++[N]) none (.p x 1) v=if v.one=true then some ((qBs slc (X3++[.blk false true [.s t,vt.a,sl.a]])).set x (.blk false true [vc,v])++[N]) else none:=fun N v=>by
  have hbl:x<(qBs slc (X3++[.blk false true [.s t,vt.a,sl.a]])).length:=by rw[JA8,List.length_append];omega
  have g:(qBs slc (X3++[.blk false true [.s t,vt.a,sl.a]])++[N])[x]?=some (.blk false true [vc,slc]):=by
   rw[List.getElem?_append_left hbl,hslc]
   exact YIu L1
  split
  ·rename_i hv
   rw[JqM g (by simp) hv rfl,List.set_append_left _ _ hbl]
   rfl
  ·rename_i hv
   simp only[stV]
   rw[if_neg hv]
 unfold w103
 simp only[z49,Qs3,XtK,K1H,JS3,simprocAttr,CO.tmps,Opd.tmps,optT,qRn,qSM,YNH,KMT,XrP,zEY,zrQ,rl,f4,ga1,ga2,ga3,r0,g2,hty,t1,t2,so,so2,s1,d1,d2,sv,sw,fapp,stb,JRM,Option.bind_some,List.getElem?_cons_zero,List.getElem?_cons_succ,oD,ne_eq,forall_const]
 exact Bt.refl _ _ _
end
end
section
theorem JRk {zs ys:List AV} (h:ys.length=zs.length):over zs 0 ys=ys:=by
 simp only[over,List.take_zero,List.nil_append,Nat.zero_add]
 rw[List.drop_eq_nil_of_le (by omega),List.append_nil]
def ksT (M:List (Int×Int)):List ((Int×Int)×AV):=M.map fun d=>(d,.ag [])
def mtT (M:List (Int×Int)):AB:=mpB dotK true (ksT M)
theorem YXJ (q:Nat->Bool) (M:List (Int×Int)):(mtT M).ok q=true:=by
 show okL q (kvF dotK (ksT M))=true
 induction M with
 | nil=>rfl
 | cons d M ih =>
  have h3:(dotK.f d).ok q=true:=rfl
  have h4:(AV.ag []).ok q=true:=rfl
  show okL q (dotK.f d::.ag []::kvF dotK (ksT M))=true
  simp only[ZiP,h3,h4,Bool.true_and]
  exact ih
theorem Kvo {M M':List (Int×Int)} (e:mtT M=mtT M'):M=M':=by
 unfold mtT mpB at e
 simp only[AB.mo.injEq,true_and]at e
 have e2:=e.2
 clear e
 induction M generalizing M' with
 | nil=>cases M' with
  | nil=>rfl
  | cons d M'=>cases e2
 | cons d M ih=>cases M' with
  | nil=>cases e2
  | cons d' M' =>
   simp only[ksT,List.map_cons,kvF,List.cons.injEq,true_and]at e2
   rw[ih e2.2]
   have:=e2.1
   simp only[dotK,AV.ag.injEq]at this
   rw[dotR.inj _ _ this]
theorem Q1g {M:List (Int×Int)} {d:Int×Int}:(d∈M->∃j,fndM dotK d (ksT M) 0=some (j,.ag []))/\(d∉M->fndM dotK d (ksT M) 0=none):=by
 constructor
 ·intro h
  cases e:fndM dotK d (ksT M) 0 with
  | none=>exact absurd rfl (ZUS dotK |>.1 e _ (List.mem_map.2 ⟨d,h,rfl⟩))
  | some jv =>
   obtain ⟨j,v⟩:=jv
   obtain ⟨d',_,h3⟩:=List.mem_map.1 (List.mem_of_getElem? (YJL dotK e).2)
   rw[Prod.mk.injEq]at h3
   exact ⟨j,by rw[<-h3.2]⟩
 ·intro h
  refine (ZUS dotK).2 fun e he=>?_
  obtain ⟨d',hd',rfl⟩:=List.mem_map.1 he
  rintro rfl
  exact h hd'
theorem ZY8 {M:List (Int×Int)} {d:Int×Int} (h:d∉M):mpB dotK true (putM dotK (ksT M) d (.ag []))=mtT (M++[d]):=by
 unfold putM
 rw[Q1g.2 h]
 show mpB dotK true (ksT M++[(d,.ag [])])=mpB dotK true (ksT (M++[d]))
 unfold ksT
 rw[List.map_append]
 rfl
end
section
set_option maxRecDepth 100000
set_option maxHeartbeats 4000000
noncomputable def Kej:List AV->List AB->Option (AV×List AB)
 | [a,b],h=>(getS zEN h a).bind fun xs=>(getS zEN h b).bind fun ys=>some (.b (decide (xs=ys)),h)
 | _,_=>none
theorem YKZ:Spec Tryz.prog 23 Kej:=by
 intro args h v h' e
 unfold Kej at e
 split at e
 ·rename_i a b
  obtain ⟨xs,ha,e⟩:=Qk0 e
  obtain ⟨ys,hb,e⟩:=Qk0 e
  cases e
  refine FnAt.c (FnAt.frz0 fun hz=>?_)
  replace ha:=ha.frz
  replace hb:=hb.frz
  generalize h.map AB.freeze=h at *
  refine FnAt.run (by kernel_rfl) (T:=⟨[],[]⟩) ⟨trivial,trivial⟩ Tryz.func23 sw23 fun ho hh=>?_
  simp only[ZiP,Bool.and_eq_true]at ho
  have fa:=ha.fx ho.1 (sz:=34) rfl
  have fb:=hb.fx ho.2.1 (sz:=34) rfl
  unfold w23
  simp only[z49,Qs3,XtK,JS3,simprocAttr,fa,fb]
  refine ZDF (S:=Nat) (fun i=>xs.length-i) (fun i=>[a,b]++tp 3++[.b (decide (xs.length=ys.length/\xs.take i=ys.take i)),.i .i64 i]++tp 24) (fun i=>xs.length=ys.length->i<=xs.length) 0 (fun _=>Nat.zero_le _) (by simp only[XtK,JS3,simprocAttr,List.take_zero]) fun i hi=>?_
  simp only[XtK,JS3,simprocAttr,fa,fb]
  refine ⟨fun h1=>⟨fun h2=>?_,fun h2=>?_⟩,fun h1=>?_⟩
  ·have h3:i<ys.length:=by omega
   have e1:IntKind.i64.wrap ((i:Int)+1)=((i+1:Nat):Int):=Q7p (by have:=ha.2;unfold maxLen at this;unfold In64;omega)
   simp only[XtK,K1H,JS3,simprocAttr,CO.tmps,Opd.tmps,optT,fa,fb,h2,h3,zYT,YhJ,Nat.zero_lt_one,e1]
   refine ⟨i+1,fun _=>h2,by omega,?_,Wk.refl _⟩
   have e2:(xs.length=ys.length/\xs.take (i+1)=ys.take (i+1))=(xs.getD i zEN.d=ys.getD i zEN.d):=propext (by rw[and_iff_right h1.1];exact Xsk _ h2 h3 h1.2)
   simp only[e2,J8z]
  ·exact Bt.eq (by simp only[AV.b.injEq,decide_eq_decide];exact qrH (by omega)) (List.append_nil h)
  ·exact Bt.eq (by simp only[AV.b.injEq,decide_eq_decide];exact iff_of_false h1 (KfX h1)) (List.append_nil h)
 ·cases e
end
section
set_option maxRecDepth 100000
set_option maxHeartbeats 4000000
noncomputable def YA9:List AV->List AB->Option (AV×List AB)
 | [a,b],h=>(srcV h 1 a).bind fun (_,xs)=>(srcV h 1 b).bind fun (_,ys)=>(bytesOf xs).bind fun l=>(bytesOf ys).bind fun m=>some (.i .i64 (cmpB l m),h)
 | _,_=>none
theorem XeG {T:Env} {fr:List AV} {h:List AB} (x y:Opd):opR T (.bcmp x y) fr h=YA9 [x.ev fr,y.ev fr] h:=by
 show ((srcV h 1 (x.ev fr)).bind fun (_,xs)=>(srcV h 1 (y.ev fr)).bind fun (_,ys)=>(bytesOf xs).bind fun l=>(bytesOf ys).map fun m=>(AV.i .i64 (Go.Extern.BytealgCompare.cmp ⟨l.toArray⟩ ⟨m.toArray⟩),h))=_
 simp only[YA9,KlD]
 congr 1;funext p;congr 1;funext q;congr 1;funext l
 cases bytesOf q.2 <;> rfl
end
section
set_option maxRecDepth 100000
set_option maxHeartbeats 4000000
noncomputable def QKw:List AV->List AB->Option (AV×List AB)
 | [a,.i .i64 m,.i .i64 z],h=>(getS strR h a).bind fun xs=>if 0<=m/\m<1000000 then some (.b (decide (m<xs.length\/∃x∈xs,z<(x.length:Int))),h) else none
 | _,_=>none
noncomputable def zYb:List AV->List AB->Option (AV×List AB)
 | [.s a,.s b],h=>some (.i .i64 (cmpB a b),h)
 | _,_=>none
theorem YFM {T:Env} {fr:List AV} {h:List AB} (x y:Opd) {a b:List UInt8} (hx:x.ev fr=.s a) (hy:y.ev fr=.s b):opR T (.bcmp x y) fr h=some (.i .i64 (cmpB a b),h):=by
 rw[XeG,hx,hy]
 simp only[YA9]
 show ((some (a.length,a.map u8A):Option (Nat×List AV)).bind _)=_
 rw[Option.bind_some]
 show ((some (b.length,b.map u8A):Option (Nat×List AV)).bind _)=_
 rw[Option.bind_some]
 simp only[Q6J,Option.bind_some]
theorem ZSv (a b:List UInt8) (h:List AB):YA9 [.s a,.s b] h=some (.i .i64 (cmpB a b),h):=by
 have:=YFM (T:=⟨[],[]⟩) (fr:=[]) (h:=h) (.c (.s a)) (.c (.s b)) rfl rfl
 rwa [XeG]at this
theorem Qn6:Spec Tryz.prog 250 zYb:=by
 intro args h v h' e
 unfold zYb at e
 split at e
 ·rename_i a b
  cases e
  refine FnAt.c (FnAt.run (by kernel_rfl) (T:=⟨[],[]⟩) ⟨trivial,trivial⟩ Tryz.func250 qjN fun ho hh=>?_)
  unfold w250
  simp only[z49,Qs3,XtK,JS3,simprocAttr,XeG,ZSv]
  exact Bt.eq rfl (List.append_nil h)
 ·cases e
theorem qac:Spec Tryz.prog 155 zYb:=by
 intro args h v h' e
 unfold zYb at e
 split at e
 ·rename_i a b
  cases e
  refine FnAt.c (FnAt.run (by kernel_rfl) (T:=⟨[⟨250,zYb,fun _=>[]⟩],[]⟩) ⟨⟨Qn6,trivial⟩,trivial⟩ Tryz.func155 zTH fun ho hh=>?_)
  unfold w155
  simp only[z49,Qs3,XtK,JS3,simprocAttr,zYb]
  exact Bt.dropI _ hh rfl
 ·cases e
end
section
set_option maxRecDepth 100000
set_option maxHeartbeats 8000000
theorem Rd.idEm {α:Type} {r:Row α} {h:List AB} {s:AV} {l:List α} (e:Rd r h s l) (h0:l.length≠0) (sz n j k:Nat):memN (h.length+k) (idOf (elP sz s n j))=false:=by
 have e1:=e.1
 cases s <;> first|rfl|skip
 rename_i id off len cap kk
 unfold rdS at e1
 simp only at e1
 split at e1
 ·simp only[Option.some.injEq,Prod.mk.injEq]at e1
  omega
 ·cases hb:zZU h id with
  | none=>rw[hb]at e1;cases e1
  | some xs =>
   have hid:id<h.length:=by
    unfold zZU at hb
    rcases Nat.lt_or_ge id h.length with q|q
    ·exact q
    ·rw[List.getElem?_eq_none q]at hb
     cases hb
   simp only[elP,idOf,Kx1,X7C,Bool.or_false,decide_eq_false_iff_not]
   omega
noncomputable def QIA:List AV->List AB->Option (AV×List AB)
 | [a,b],h=>(getT h a).bind fun x=>(getT h b).bind fun y=>some (.b (decide (x=y)),h)
 | _,_=>none
theorem qCM {α:Type} {l m:List α} {i:Nat} (h:i<l.length) (k:i<m.length):l.take (i+1)=m.take (i+1)↔l.take i=m.take i/\l[i]=m[i]:=by
 rw[List.take_succ_eq_append_getElem h,List.take_succ_eq_append_getElem k]
 constructor
 ·intro q
  have:=List.append_inj' q rfl
  exact ⟨this.1,by simpa using this.2⟩
 ·rintro ⟨q1,q2⟩
  rw[q1,q2]
theorem YID {α:Type} {l m:List α} {i:Nat} (h:i<l.length) (k:i<m.length) (q:l[i]≠m[i]):l≠m:=fun e=>by
 subst e
 exact q rfl
theorem qlj {α:Type} {l m:List α} {i:Nat} (h:l.length<=i) (hl:l.length=m.length) (q:l.take i=m.take i):l=m:=by
 rwa [List.take_of_length_le h,List.take_of_length_le (by omega)]at q
theorem zdk:Spec Tryz.prog 16 QIA:=by
 intro args h v h' e
 unfold QIA at e
 split at e
 ·obtain ⟨v1,s1,n1,m1,rfl,ha,e2⟩:=JfV e
  obtain ⟨v2,s2,n2,m2,rfl,hb,e3⟩:=JfV e2
  clear e e2
  rw[Option.some.injEq,Prod.mk.injEq]at e3
  obtain ⟨rfl,rfl⟩:=e3
  refine FnAt.c (FnAt.frz0 fun hz=>?_)
  replace ha:=ha.frz
  replace hb:=hb.frz
  generalize h.map AB.freeze=h at *
  refine FnAt.run (by kernel_rfl) (T:=⟨[⟨80,YDe,fun _=>[]⟩,⟨23,Kej,fun _=>[]⟩],[]⟩) ⟨⟨YX2,YKZ,trivial⟩,trivial⟩ Tryz.func16 sw16 fun ho hh=>?_
  simp only[ZiP,q0E,JL2,Bool.and_eq_true,and_true]at ho
  obtain ⟨⟨ov1,os1⟩,ov2,os2⟩:=ho
  have fv1:=ha.v.fx ov1 (sz:=1) rfl
  have fv2:=hb.v.fx ov2 (sz:=1) rfl
  have fs1:=ha.s.s.fx os1 (sz:=3) rfl
  have fs2:=hb.s.s.fx os2 (sz:=3) rfl
  rw[List.length_map]at fs1 fs2
  have c1:∀l:List AV,(AV.ag l).cells=l:=fun _=>rfl
  have lb1:m1.length<=maxLen:=ha.s.len
  unfold maxLen at lb1
  have kx:(m1.map (·.2)).length=m1.length:=List.length_map _
  have ky:(m2.map (·.2)).length=m2.length:=List.length_map _
  unfold w16
  rcases emG (n1=n2) with q1|q1
  rotate_left
  ·simp only[z49,Qs3,XtK,K1H,JS3,simprocAttr,CO.tmps,Opd.tmps,optT,YDe,fv1,fv2,fs1,fs2,q1,c1,QpH,Option.bind_some,Bool.not_true,Bool.not_false,oW hh hz,oD,ne_eq,forall_const]
   exact Bt.dropB _ hh (by simp [q1])
  rcases emG ((m1.length:Int)=(m2.length:Int)) with q2|q2
  rotate_left
  ·have:¬(m1.map (·.2)=m2.map (·.2)):=fun z=>of_eq_false q2 (by rw[<-kx,z,ky])
   simp only[z49,Qs3,XtK,K1H,JS3,simprocAttr,CO.tmps,Opd.tmps,optT,YDe,fv1,fv2,fs1,fs2,q1,q2,c1,QpH,Option.bind_some,Bool.not_true,Bool.not_false,oW hh hz,oD,ne_eq,forall_const]
   exact Bt.dropB _ hh (by simp [this])
  have q2':m1.length=m2.length:=by have:=of_eq_true q2;omega
  have q1':=of_eq_true q1
  simp only[z49,Qs3,XtK,K1H,JS3,simprocAttr,CO.tmps,Opd.tmps,optT,YDe,fv1,fv2,fs1,fs2,q1,q2,c1,QpH,Option.bind_some,Bool.not_true,Bool.not_false,oW hh hz,oD,ne_eq,forall_const]
  refine JLk (S:=Nat) (fun i=>m1.length-i) (fun i=>tp 2++[.p (h.length+0) 0,.p (h.length+1) 0]++tp 1++[.i .i64 (i:Int)]++tp 93) (fun _=>h++[.blk false true [v1,s1],.blk false true [v2,s2]]) (fun i=>i<=m1.length/\(m1.map (·.2)).take i=(m2.map (·.2)).take i) 0 ⟨Nat.zero_le _,by simp⟩ ?_ fun i hi=>?_
  ·refine Bt.wk ?_
   simp only[XtK,JS3,simprocAttr]
  obtain ⟨hi1,hi2⟩:=hi
  by_cases g:i<m1.length
  rotate_left
  ·have g':((i:Int)<(m1.length:Int))=False:=eq_false (by omega)
   have:m1.map (·.2)=m2.map (·.2):=qlj (by rw[kx];omega) (by rw[kx,ky,q2']) hi2
   simp only[z49,Qs3,XtK,K1H,JS3,simprocAttr,CO.tmps,Opd.tmps,optT,fs1,fs2,g',c1,oW hh hz,oD,ne_eq,forall_const]
   exact Bt.dropB _ hh (by simp [this,q1'])
  have g':((i:Int)<(m1.length:Int))=True:=eq_true (by omega)
  have gy:i<m2.length:=by omega
  have gz:((0:Int)<=(i:Int)/\(i:Int)<(m2.length:Int))=True:=eq_true (by omega)
  have e1:IntKind.i64.wrap ((i:Int)+1)=((i+1:Nat):Int):=Q7p (by unfold In64;omega)
  obtain ⟨dx,rx,ox⟩:=ha.s.at g
  obtain ⟨dy,ry,oy⟩:=hb.s.at gy
  have hx2:(m1.map (·.2))[i]'(by rw[kx];exact g)=m1[i].2:=by rw[List.getElem_map]
  have hy2:(m2.map (·.2))[i]'(by rw[ky];exact gy)=m2[i].2:=by rw[List.getElem_map]
  have hts:=qCM (l:=m1.map (·.2)) (m:=m2.map (·.2)) (i:=i) (by rw[kx];exact g) (by rw[ky];exact gy)
  have htn:=YID (l:=m1.map (·.2)) (m:=m2.map (·.2)) (i:=i) (by rw[kx];exact g) (by rw[ky];exact gy)
  rw[hx2,hy2]at hts htn
  generalize m1[i]=ex at *
  generalize m2[i]=ey at *
  obtain ⟨x,X⟩:=ex
  obtain ⟨y,Y⟩:=ey
  dsimp only at *
  obtain ⟨nx,⟨tx,htx,etx⟩,mx⟩:=Xxg rx
  obtain ⟨ny,⟨ty,hty,ety⟩,my⟩:=Xxg ry
  rw[XBQ]at dx dy ox oy
  have wx:=zUA x
  have wy:=zUA y
  rw[X6g]at ox oy wx wy
  simp only[ZiP,q0E,ok_s,Bool.and_eq_true,and_true,true_and]at ox oy
  have ftx:=htx.s.fx ox.1 (sz:=2) rfl
  have fty:=hty.s.fx oy.1 (sz:=2) rfl
  rw[List.length_map]at ftx fty
  have fmx:=mx.fx ox.2 (sz:=34) rfl
  have fmy:=my.fx oy.2 (sz:=34) rfl
  have ltx:tx.length<=maxLen:=htx.len
  unfold maxLen at ltx
  have lx:X.tags.length=tx.length:=by rw[etx,List.length_map]
  have ly:Y.tags.length=ty.length:=by rw[ety,List.length_map]
  have zx:x.tags.a.isStr=false:=ftx.1
  have zy:y.tags.a.isStr=false:=fty.1
  have me1:∀n j k,memN (h.length+k) (idOf (elP 3 s1 n j))=false:=fun n j k=>ha.s.s.idEm (by rw[List.length_map];omega) 3 n j k
  have me2:∀n j k,memN (h.length+k) (idOf (elP 3 s2 n j))=false:=fun n j k=>hb.s.s.idEm (by rw[List.length_map];omega) 3 n j k
  rcases emG (x.name=y.name) with q3|q3
  rotate_left
  ·have:X≠Y:=fun z=>of_eq_false q3 (by rw[nx,ny,z])
   simp only[z49,Qs3,XtK,K1H,JS3,simprocAttr,CO.tmps,Opd.tmps,optT,fs1,fs2,fv1,fv2,g,gy,g',gz,dx,dy,XBQ,X6g,me1,me2,q3,zWx,ftx,fty,fmx,fmy,wx,wy,ox,oy,c1,QpH,Kej,Option.bind_some,Bool.not_true,Bool.not_false,oW hh hz,oD,ne_eq,forall_const]
   exact Bt.dropB _ hh (by simp [htn this])
  rcases emG ((tx.length:Int)=(ty.length:Int)) with q4|q4
  rotate_left
  ·have:X≠Y:=fun z=>of_eq_false q4 (by rw[<-lx,<-ly,z])
   simp only[z49,Qs3,XtK,K1H,JS3,simprocAttr,CO.tmps,Opd.tmps,optT,fs1,fs2,fv1,fv2,g,gy,g',gz,dx,dy,XBQ,X6g,me1,me2,q3,q4,zWx,ftx,fty,fmx,fmy,wx,wy,ox,oy,c1,QpH,Kej,Option.bind_some,Bool.not_true,Bool.not_false,oW hh hz,oD,ne_eq,forall_const]
   exact Bt.dropB _ hh (by simp [htn this])
  rcases emG (X.mans=Y.mans) with q5|q5
  rotate_left
  ·have:X≠Y:=fun z=>of_eq_false q5 (by rw[z])
   simp only[z49,Qs3,XtK,K1H,JS3,simprocAttr,CO.tmps,Opd.tmps,optT,fs1,fs2,fv1,fv2,g,gy,g',gz,dx,dy,XBQ,X6g,me1,me2,q3,q4,q5,zWx,ftx,fty,fmx,fmy,wx,wy,ox,oy,c1,QpH,Kej,Option.bind_some,Bool.not_true,Bool.not_false,oW hh hz,oD,ne_eq,forall_const]
   exact Bt.dropB _ hh (by simp [htn this])
  have q4':tx.length=ty.length:=by have:=of_eq_true q4;omega
  have hXY:X.tags=Y.tags->X=Y:=fun z=>by
   obtain ⟨_,_,_⟩:=X
   obtain ⟨_,_,_⟩:=Y
   dsimp only at z nx ny
   have q3':=of_eq_true q3
   have q5':=of_eq_true q5
   dsimp only at q5'
   rw[z,q5',<-nx,<-ny,q3']
  simp only[z49,Qs3,XtK,K1H,JS3,simprocAttr,CO.tmps,Opd.tmps,optT,fs1,fs2,fv1,fv2,g,gy,g',gz,dx,dy,XBQ,X6g,me1,me2,q3,q4,q5,zWx,ftx,fty,fmx,fmy,wx,wy,ox,oy,c1,QpH,Kej,Option.bind_some,Bool.not_true,Bool.not_false,oW hh hz,oD,ne_eq,forall_const]
  refine JLk (S:=Nat) (fun j=>tx.length-j) (fun j=>tp 2++[.p (h.length+0) 0,.p (h.length+1) 0]++tp 1++[.i .i64 (i:Int),.p (h.length+2) 0,.p (h.length+3) 0,.i .i64 (j:Int)]++tp 90) (fun _=>h++[.blk false true [v1,s1],.blk false true [v2,s2],.blk false true [.s x.name,x.tags.a,x.mans.a],.blk false true [.s y.name,y.tags.a,y.mans.a]]) (fun j=>j<=tx.length/\(tx.map (·.2)).take j=(ty.map (·.2)).take j) 0 ⟨Nat.zero_le _,by simp⟩ ?_ fun j hj=>?_
  ·refine Bt.wk ?_
   simp only[XtK,JS3,simprocAttr,q3]
  obtain ⟨hj1,hj2⟩:=hj
  have kx2:(tx.map (·.2)).length=tx.length:=List.length_map _
  have ky2:(ty.map (·.2)).length=ty.length:=List.length_map _
  by_cases gj:j<tx.length
  rotate_left
  ·have gj':((j:Int)<(tx.length:Int))=False:=eq_false (by omega)
   have:X=Y:=hXY (by rw[etx,ety];exact qlj (by rw[kx2];omega) (by rw[kx2,ky2,q4']) hj2)
   simp only[z49,Qs3,XtK,K1H,JS3,simprocAttr,CO.tmps,Opd.tmps,optT,ftx,fty,gj',e1,c1,oW hh hz,oD,ne_eq,forall_const]
   refine ⟨i+1,⟨g,hts.2 ⟨hi2,this⟩⟩,by dsimp only;omega,?_⟩
   dsimp only
   have sov1:∀c,v1.ok (fun j=>decide (j<h.length+c))=true:=fun c=>AV.ok_mono (fun i q=>by simp only[decide_eq_true_eq]at q ⊢;omega) v1 ov1
   have sos1:∀c,s1.ok (fun j=>decide (j<h.length+c))=true:=fun c=>AV.ok_mono (fun i q=>by simp only[decide_eq_true_eq]at q ⊢;omega) s1 os1
   have sov2:∀c,v2.ok (fun j=>decide (j<h.length+c))=true:=fun c=>AV.ok_mono (fun i q=>by simp only[decide_eq_true_eq]at q ⊢;omega) v2 ov2
   have sos2:∀c,s2.ok (fun j=>decide (j<h.length+c))=true:=fun c=>AV.ok_mono (fun i q=>by simp only[decide_eq_true_eq]at q ⊢;omega) s2 os2
   have rv1:∀sel,Wk (v1.ren (selN h.length sel)) v1:=fun sel=>Wk.ren (fun i hi=>qMB hi) ov1
   have rs1:∀sel,Wk (s1.ren (selN h.length sel)) s1:=fun sel=>Wk.ren (fun i hi=>qMB hi) os1
   have rv2:∀sel,Wk (v2.ren (selN h.length sel)) v2:=fun sel=>Wk.ren (fun i hi=>qMB hi) ov2
   have rs2:∀sel,Wk (s2.ren (selN h.length sel)) s2:=fun sel=>Wk.ren (fun i hi=>qMB hi) os2
   exact Bt.sel [0,1] hh (by decide) (by simp only[Ztz,FrSel,BlkSel,AV.ren,renL,AV.ok,okL,Option.some.injEq,exists_eq_left',List.length_cons,List.length_nil,Nat.reduceAdd,Nat.reduceLT,reduceCtorEq,implies_true,exists_eq',sov1,sos1,sov2,sos2,rv1,rs1,rv2,rs2]) (by simp only[tp_0,tp_s,List.cons_append,List.nil_append,Ztz,FrSel,BlkSel,AV.ren,renL,AV.ok,okL,Option.some.injEq,exists_eq_left',List.length_cons,List.length_nil,Nat.reduceAdd,Nat.reduceLT,reduceCtorEq,implies_true,exists_eq'])
  have gj':((j:Int)<(tx.length:Int))=True:=eq_true (by omega)
  have gjy:j<ty.length:=by omega
  have gjz:((0:Int)<=(j:Int)/\(j:Int)<(ty.length:Int))=True:=eq_true (by omega)
  have ej:IntKind.i64.wrap ((j:Int)+1)=((j+1:Nat):Int):=Q7p (by unfold In64;omega)
  obtain ⟨dgx,rgx,ogx⟩:=htx.at gj
  obtain ⟨dgy,rgy,ogy⟩:=hty.at gjy
  have hgx2:(tx.map (·.2))[j]'(by rw[kx2];exact gj)=tx[j].2:=by rw[List.getElem_map]
  have hgy2:(ty.map (·.2))[j]'(by rw[ky2];exact gjy)=ty[j].2:=by rw[List.getElem_map]
  have hts2:=qCM (l:=tx.map (·.2)) (m:=ty.map (·.2)) (i:=j) (by rw[kx2];exact gj) (by rw[ky2];exact gjy)
  have htn2:=YID (l:=tx.map (·.2)) (m:=ty.map (·.2)) (i:=j) (by rw[kx2];exact gj) (by rw[ky2];exact gjy)
  rw[hgx2,hgy2]at hts2 htn2
  generalize tx[j]=ex at *
  generalize ty[j]=ey at *
  obtain ⟨a,A⟩:=ex
  obtain ⟨b,B⟩:=ey
  dsimp only at *
  obtain ⟨na,ha2⟩:=J9V rgx
  obtain ⟨nb,hb2⟩:=J9V rgy
  rw[QMV]at dgx dgy ogx ogy
  rw[q2E]at ogx ogy
  simp only[ZiP,q0E,ok_s,Bool.and_eq_true,and_true,true_and]at ogx ogy
  have fga:=ha2.fx ogx (sz:=34) rfl
  have fgb:=hb2.fx ogy (sz:=34) rfl
  have hne:A≠B->X≠Y:=fun z w=>htn2 z (by rw[<-etx,<-ety,w])
  rcases emG (a.name=b.name) with q6|q6
  rotate_left
  ·have:A≠B:=fun z=>of_eq_false q6 (by rw[na,nb,z])
   simp only[z49,Qs3,XtK,K1H,JS3,simprocAttr,CO.tmps,Opd.tmps,optT,fv1,fv2,fs1,fs2,fmx,fmy,ftx,fty,gj,gjy,gj',gjz,dgx,dgy,QMV,q2E,q6,zWx,fga,fgb,c1,QpH,Kej,Option.bind_some,List.getElem?_cons_zero,List.getElem?_cons_succ,Nat.reduceLT,Bool.not_true,Bool.not_false,oW hh hz,oD,ne_eq,forall_const]
   exact Bt.dropB _ hh (by simp [htn (hne this)])
  rcases emG (A.held=B.held) with q7|q7
  rotate_left
  ·have:A≠B:=fun z=>of_eq_false q7 (by rw[z])
   simp only[z49,Qs3,XtK,K1H,JS3,simprocAttr,CO.tmps,Opd.tmps,optT,fv1,fv2,fs1,fs2,fmx,fmy,ftx,fty,gj,gjy,gj',gjz,dgx,dgy,QMV,q2E,q6,q7,zWx,fga,fgb,c1,QpH,Kej,Option.bind_some,List.getElem?_cons_zero,List.getElem?_cons_succ,Nat.reduceLT,Bool.not_true,Bool.not_false,oW hh hz,oD,ne_eq,forall_const]
   exact Bt.dropB _ hh (by simp [htn (hne this)])
  have hAB:A=B:=by
   obtain ⟨_,_⟩:=A
   obtain ⟨_,_⟩:=B
   have q6':=of_eq_true q6
   have q7':=of_eq_true q7
   dsimp only at na nb q7'
   rw[<-na,<-nb,q6',q7']
  simp only[z49,Qs3,XtK,K1H,JS3,simprocAttr,CO.tmps,Opd.tmps,optT,fv1,fv2,fs1,fs2,fmx,fmy,ftx,fty,gj,gjy,gj',gjz,dgx,dgy,QMV,q2E,q6,q7,zWx,fga,fgb,ej,c1,QpH,Kej,Option.bind_some,List.getElem?_cons_zero,List.getElem?_cons_succ,Nat.reduceLT,Bool.not_true,Bool.not_false,oW hh hz,oD,ne_eq,forall_const]
  refine ⟨j+1,⟨gj,hts2.2 ⟨hj2,hAB⟩⟩,by dsimp only;omega,?_⟩
  dsimp only
  refine Bt.wk ?_
  simp only[XtK,JS3,simprocAttr]
 ·cases e
end
section
set_option maxRecDepth 100000
section
variable {T:Env} {fr:List AV} {h:List AB}
def itr (l:List UInt8) (pos:Nat):AB:=.iter ⟨l.toArray⟩ pos
theorem Jpp (x:Opd):opR T (.rng x) fr h=(match x.ev fr with
  | .s l=>some (.p h.length 0,h++[itr l 0])
  | _=>none):=oI rfl
noncomputable def nxV (h:List AB) (v:AV):Option (AV×List AB):=match v with
 | .p id 0=>match h[id]? with
  | some (.iter s pos)=>if pos<s.size then some (.tu [.b true,.i .i64 (pos:Int),.i .i32 ((Utf8.decode s pos).1:Int)],h.set id (.iter s (pos+(Utf8.decode s pos).2))) else some (.tu [.b false],h)
  | _=>none
 | _=>none
theorem Jcy (x:Opd):opR T (.nxt x) fr h=nxV h (x.ev fr):=by
 show nxV h (x.ev fr)=_
 rfl
theorem zSE (L:List AB) (k:Nat) (l:List UInt8) (pos:Nat) (hb:L[k]?=some (itr l pos)):nxV (h++L) (.p (h.length+k) 0)=if pos<l.length then some (.tu [.b true,.i .i64 (pos:Int),.i .i32 ((Utf8.decode ⟨l.toArray⟩ pos).1:Int)],h++L.set k (itr l (pos+(Utf8.decode ⟨l.toArray⟩ pos).2))) else some (.tu [.b false],h++L):=by
 have hg:(h++L)[h.length+k]?=some (.iter ⟨l.toArray⟩ pos):=by
  rw[List.getElem?_append_right (by omega),Nat.add_sub_cancel_left]
  exact hb
 have hs:(⟨l.toArray⟩:ByteArray).size=l.length:=by simp [ByteArray.size]
 simp only[nxV,hg,hs]
 rw[List.set_append_right _ _ (by omega),Nat.add_sub_cancel_left]
 rfl
end
theorem Qc5 {l:List UInt8} {pos:Nat} (h:pos<l.length) (ha:(l[pos]).toNat<128):Utf8.decode ⟨l.toArray⟩ pos=((l[pos]).toNat,1):=by
 have hs:pos<(⟨l.toArray⟩:ByteArray).size:=by simpa [ByteArray.size] using h
 exact decode_ascii ⟨l.toArray⟩ pos hs ha
end
section
set_option maxRecDepth 100000
set_option maxHeartbeats 4000000
def lowP (c:Int):Prop:=(97<=c/\c<=122)\/(48<=c/\c<=57)
instance (c:Int):Decidable (lowP c):=inferInstanceAs (Decidable (_\/_))
def Jc0:List AV->List AB->Option (AV×List AB)
 | [.i .i32 c],h=>some (.b (decide (lowP c)),h)
 | _,_=>none
theorem Zv0:Spec Tryz.prog 259 Jc0:=by
 intro args h v h' e
 unfold Jc0 at e
 split at e
 ·rename_i c
  cases e
  refine FnAt.c (FnAt.run (by kernel_rfl) (T:=⟨[],[]⟩) ⟨trivial,trivial⟩ Tryz.func259 XBD fun ho hh=>?_)
  unfold w259
  by_cases h1:97<=c <;> by_cases h2:c<=122 <;> by_cases h3:48<=c <;> by_cases h4:c<=57 <;>
   (simp only[z49,Qs3,XtK,K1H,JS3,simprocAttr,CO.tmps,Opd.tmps,optT,h1,h2,h3,h4,decide_true,decide_false];exact Bt.dropB _ hh (by simp [lowP,h1,h2,h3,h4]))
 ·cases e
inductive RK where
 | w
 | i
 | s
 | d
deriving DecidableEq
structure RQ where
 left:Nat
 k:RK
deriving DecidableEq
def QQW (n:Nat) (c:Int):Option RQ:=if lowP c then some ⟨n,.i⟩ else none
def qe3 (q:RQ) (c:Int):Option RQ:=
 match q.k with
 | .w=>QQW q.left c
 | .i=>if c=47/\0<q.left then some ⟨q.left-1,.w⟩ else if c=46 then some ⟨q.left,.w⟩ else if c=95 then some ⟨q.left,.s⟩ else if c=45 then some ⟨q.left,.d⟩ else QQW q.left c
 | .s=>if c=95 then some ⟨q.left,.w⟩ else QQW q.left c
 | .d=>if c=45 then some ⟨q.left,.d⟩ else QQW q.left c
def fnR:RK->Nat
 | .w=>261
 | .i=>304
 | .s=>332
 | .d=>333
def stR (q:RQ):AB:=.blk false true [.f (.func (fnR q.k)) [.ag [.i .i64 q.left]] [],.b (decide (q.k=.i))]
theorem ZIj (n:Nat):stR ⟨n,.w⟩=.blk false true [.f (.func 261) [.ag [.i .i64 n]] [],.b false]:=oI rfl
theorem YX4 (n:Nat):stR ⟨n,.i⟩=.blk false true [.f (.func 304) [.ag [.i .i64 n]] [],.b true]:=oI rfl
theorem K3G (n:Nat):stR ⟨n,.s⟩=.blk false true [.f (.func 332) [.ag [.i .i64 n]] [],.b false]:=oI rfl
theorem QDk (n:Nat):stR ⟨n,.d⟩=.blk false true [.f (.func 333) [.ag [.i .i64 n]] [],.b false]:=oI rfl
def ansR (h:List AB):Option RQ->Option (AV×List AB)
 | some q=>some (.p h.length 0,h++[stR q])
 | none=>some (.np,h)
def KWt (k:RK):List AV->List AB->Option (AV×List AB)
 | [.ag [.i .i64 n],.i .i32 c],h=>if 0<=n/\n<=1000 then ansR h (qe3 ⟨n.toNat,k⟩ c) else none
 | _,_=>none
def KcO:List AV->List AB->Option (AV×List AB)
 | [.ag [.i .i64 n]],h=>if 0<=n/\n<=1000 then some (.p h.length 0,h++[stR ⟨n.toNat,.w⟩]) else none
 | _,_=>none
theorem YUi:Spec Tryz.prog 181 KcO:=by
 intro args h v h' e
 unfold KcO at e
 split at e
 ·rename_i n
  split at e
  ·rename_i hn
   cases e
   refine FnAt.c (FnAt.run (by kernel_rfl) (T:=⟨[],[]⟩) ⟨trivial,trivial⟩ Tryz.func181 zZ1 fun ho hh=>?_)
   have en:((n.toNat:Nat):Int)=n:=by omega
   unfold w181
   simp only[z49,Qs3,XtK,K1H,JS3,simprocAttr,CO.tmps,Opd.tmps,optT]
   rw[ZIj,en]
   exact Bt.sel [1] hh (by decide) (by simp only[Ztz,FrSel,BlkSel,AV.ren,renL,AV.ok,okL,Option.some.injEq,exists_eq_left',List.length_cons,List.length_nil,Nat.reduceAdd,Nat.reduceLT,reduceCtorEq,implies_true,exists_eq']) (by simp only[Ztz,FrSel,BlkSel,AV.ren,renL,AV.ok,okL,Option.some.injEq,exists_eq_left',List.length_cons,List.length_nil,Nat.reduceAdd,Nat.reduceLT,reduceCtorEq,implies_true,exists_eq'])
  ·cases e
 ·cases e
theorem Xlq:Spec Tryz.prog 261 (KWt .w):=by
 intro args h v h' e
 unfold KWt at e
 split at e
 ·rename_i n c
  split at e
  ·rename_i hn
   have en:((n.toNat:Nat):Int)=n:=by omega
   refine FnAt.c (FnAt.run (by kernel_rfl) (T:=⟨[⟨259,Jc0,fun _=>[]⟩],[]⟩) ⟨⟨Zv0,trivial⟩,trivial⟩ Tryz.func261 XCu fun ho hh=>?_)
   unfold w261
   simp only[qe3,QQW]at e
   by_cases h1:lowP c
   ·rw[if_pos h1]at e
    cases e
    simp only[z49,Qs3,XtK,K1H,JS3,simprocAttr,CO.tmps,Opd.tmps,optT,Jc0,eq_true h1,oD,ne_eq,forall_const]
    rw[YX4,en]
    exact Bt.sel [1] hh (by decide) (by simp only[Ztz,FrSel,BlkSel,AV.ren,renL,AV.ok,okL,Option.some.injEq,exists_eq_left',List.length_cons,List.length_nil,Nat.reduceAdd,Nat.reduceLT,reduceCtorEq,implies_true,exists_eq']) (by simp only[Ztz,FrSel,BlkSel,AV.ren,renL,AV.ok,okL,Option.some.injEq,exists_eq_left',List.length_cons,List.length_nil,Nat.reduceAdd,Nat.reduceLT,reduceCtorEq,implies_true,exists_eq'])
   ·rw[if_neg h1]at e
    cases e
    simp only[z49,Qs3,XtK,K1H,JS3,simprocAttr,CO.tmps,Opd.tmps,optT,Jc0,eq_false h1,oD,ne_eq,forall_const]
    exact Bt.drop _ hh rfl rfl
  ·cases e
 ·cases e
theorem zn7 {h:List AB} {o:Option RQ} {v:AV} {h':List AB} (e:ansR h o=some (v,h')):(∃q,o=some q/\v=.p h.length 0/\h'=h++[stR q])\/(o=none/\v=.np/\h'=h):=by
 cases o with
 | some q=>cases e;exact .inl ⟨q,rfl,rfl,rfl⟩
 | none=>cases e;exact .inr ⟨rfl,rfl,rfl⟩
theorem z8p:Spec Tryz.prog 332 (KWt .s):=by
 intro args h v h' e
 unfold KWt at e
 split at e
 ·rename_i n c
  split at e
  ·rename_i hn
   have en:((n.toNat:Nat):Int)=n:=by omega
   have hn':=eq_true hn
   refine FnAt.c (FnAt.run (by kernel_rfl) (T:=⟨[⟨261,KWt .w,fun _=>[]⟩],[]⟩) ⟨⟨Xlq,trivial⟩,trivial⟩ Tryz.func332 X7D fun ho hh=>?_)
   unfold w332
   simp only[qe3]at e
   by_cases h1:c=95
   ·rw[if_pos h1]at e
    cases e
    simp only[z49,Qs3,XtK,K1H,JS3,simprocAttr,CO.tmps,Opd.tmps,optT,eq_true h1,oD,ne_eq,forall_const]
    rw[ZIj,en]
    exact Bt.sel [1] hh (by decide) (by simp only[Ztz,FrSel,BlkSel,AV.ren,renL,AV.ok,okL,Option.some.injEq,exists_eq_left',List.length_cons,List.length_nil,Nat.reduceAdd,Nat.reduceLT,reduceCtorEq,implies_true,exists_eq']) (by simp only[Ztz,FrSel,BlkSel,AV.ren,renL,AV.ok,okL,Option.some.injEq,exists_eq_left',List.length_cons,List.length_nil,Nat.reduceAdd,Nat.reduceLT,reduceCtorEq,implies_true,exists_eq'])
   ·rw[if_neg h1]at e
    have es:∀H,KWt .w [.ag [.i .i64 n],.i .i32 c] H=ansR H (QQW n.toNat c):=fun H=>by
     show (if 0<=n/\n<=1000 then ansR H (qe3 ⟨n.toNat,.w⟩ c) else none)=_
     rw[if_pos hn]
     rfl
    rcases zn7 e with ⟨q,q1,rfl,rfl⟩|⟨q1,rfl,rfl⟩
    ·simp only[z49,Qs3,XtK,K1H,JS3,simprocAttr,CO.tmps,Opd.tmps,optT,eq_false h1,es,q1,ansR,oD,ne_eq,forall_const]
     exact Bt.sel [1] hh (by decide) (by simp only[Ztz,FrSel,BlkSel,AV.ren,renL,AV.ok,okL,Option.some.injEq,exists_eq_left',List.length_cons,List.length_nil,Nat.reduceAdd,Nat.reduceLT,reduceCtorEq,implies_true,exists_eq',stR]) (by simp only[Ztz,FrSel,BlkSel,AV.ren,renL,AV.ok,okL,Option.some.injEq,exists_eq_left',List.length_cons,List.length_nil,Nat.reduceAdd,Nat.reduceLT,reduceCtorEq,implies_true,exists_eq'])
    ·simp only[z49,Qs3,XtK,K1H,JS3,simprocAttr,CO.tmps,Opd.tmps,optT,eq_false h1,es,q1,ansR,oD,ne_eq,forall_const]
     exact Bt.drop _ hh rfl rfl
  ·cases e
 ·cases e
theorem Yid:Spec Tryz.prog 333 (KWt .d):=by
 intro args h v h' e
 unfold KWt at e
 split at e
 ·rename_i n c
  split at e
  ·rename_i hn
   have en:((n.toNat:Nat):Int)=n:=by omega
   have hn':=eq_true hn
   refine FnAt.c (FnAt.run (by kernel_rfl) (T:=⟨[⟨261,KWt .w,fun _=>[]⟩],[]⟩) ⟨⟨Xlq,trivial⟩,trivial⟩ Tryz.func333 qWY fun ho hh=>?_)
   unfold w333
   simp only[qe3]at e
   by_cases h1:c=45
   ·rw[if_pos h1]at e
    cases e
    simp only[z49,Qs3,XtK,K1H,JS3,simprocAttr,CO.tmps,Opd.tmps,optT,eq_true h1,oD,ne_eq,forall_const]
    rw[QDk,en]
    exact Bt.sel [1] hh (by decide) (by simp only[Ztz,FrSel,BlkSel,AV.ren,renL,AV.ok,okL,Option.some.injEq,exists_eq_left',List.length_cons,List.length_nil,Nat.reduceAdd,Nat.reduceLT,reduceCtorEq,implies_true,exists_eq']) (by simp only[Ztz,FrSel,BlkSel,AV.ren,renL,AV.ok,okL,Option.some.injEq,exists_eq_left',List.length_cons,List.length_nil,Nat.reduceAdd,Nat.reduceLT,reduceCtorEq,implies_true,exists_eq'])
   ·rw[if_neg h1]at e
    have es:∀H,KWt .w [.ag [.i .i64 n],.i .i32 c] H=ansR H (QQW n.toNat c):=fun H=>by
     show (if 0<=n/\n<=1000 then ansR H (qe3 ⟨n.toNat,.w⟩ c) else none)=_
     rw[if_pos hn]
     rfl
    rcases zn7 e with ⟨q,q1,rfl,rfl⟩|⟨q1,rfl,rfl⟩
    ·simp only[z49,Qs3,XtK,K1H,JS3,simprocAttr,CO.tmps,Opd.tmps,optT,eq_false h1,es,q1,ansR,oD,ne_eq,forall_const]
     exact Bt.sel [1] hh (by decide) (by simp only[Ztz,FrSel,BlkSel,AV.ren,renL,AV.ok,okL,Option.some.injEq,exists_eq_left',List.length_cons,List.length_nil,Nat.reduceAdd,Nat.reduceLT,reduceCtorEq,implies_true,exists_eq',stR]) (by simp only[Ztz,FrSel,BlkSel,AV.ren,renL,AV.ok,okL,Option.some.injEq,exists_eq_left',List.length_cons,List.length_nil,Nat.reduceAdd,Nat.reduceLT,reduceCtorEq,implies_true,exists_eq'])
    ·simp only[z49,Qs3,XtK,K1H,JS3,simprocAttr,CO.tmps,Opd.tmps,optT,eq_false h1,es,q1,ansR,oD,ne_eq,forall_const]
     exact Bt.drop _ hh rfl rfl
  ·cases e
 ·cases e
theorem KFV:Spec Tryz.prog 304 (KWt .i):=by
 intro args h v h' e
 unfold KWt at e
 split at e
 ·rename_i n c
  split at e
  ·rename_i hn
   have en:((n.toNat:Nat):Int)=n:=by omega
   refine FnAt.c (FnAt.run (by kernel_rfl) (T:=⟨[⟨261,KWt .w,fun _=>[]⟩,⟨181,KcO,fun _=>[]⟩],[]⟩) ⟨⟨Xlq,YUi,trivial⟩,trivial⟩ Tryz.func304 qRY fun ho hh=>?_)
   unfold w304
   have es:∀H,KWt .w [.ag [.i .i64 n],.i .i32 c] H=ansR H (QQW n.toNat c):=fun H=>by
    show (if 0<=n/\n<=1000 then ansR H (qe3 ⟨n.toNat,.w⟩ c) else none)=_
    rw[if_pos hn]
    rfl
   simp only[qe3]at e
   by_cases h1:c=47
   ·subst h1
    by_cases h0:0<n
    ·rw[if_pos ⟨rfl,by omega⟩]at e
     cases e
     have ew:IntKind.i64.wrap (n-1)=n-1:=Q7p (by unfold In64;omega)
     have ep:∀H,KcO [.ag [.i .i64 (n-1)]] H=some (.p H.length 0,H++[stR ⟨n.toNat-1,.w⟩]):=fun H=>by
      show (if 0<=n-1/\n-1<=1000 then some (AV.p H.length 0,H++[stR ⟨(n-1).toNat,.w⟩]) else none)=_
      rw[if_pos (by omega),show (n-1).toNat=n.toNat-1 by omega]
     have h0':=eq_true h0
     simp only[z49,Qs3,XtK,K1H,JS3,simprocAttr,CO.tmps,Opd.tmps,optT,h0',ew,ep,oD,ne_eq,forall_const]
     exact Bt.sel [1] hh (by decide) (by simp only[Ztz,FrSel,BlkSel,AV.ren,renL,AV.ok,okL,Option.some.injEq,exists_eq_left',List.length_cons,List.length_nil,Nat.reduceAdd,Nat.reduceLT,reduceCtorEq,implies_true,exists_eq',stR]) (by simp only[Ztz,FrSel,BlkSel,AV.ren,renL,AV.ok,okL,Option.some.injEq,exists_eq_left',List.length_cons,List.length_nil,Nat.reduceAdd,Nat.reduceLT,reduceCtorEq,implies_true,exists_eq'])
    ·rw[if_neg (fun q=>h0 (by omega)),if_neg (by decide),if_neg (by decide),if_neg (by decide)]at e
     have h0':=eq_false h0
     rcases zn7 e with ⟨q,q1,rfl,rfl⟩|⟨q1,rfl,rfl⟩
     ·simp only[z49,Qs3,XtK,K1H,JS3,simprocAttr,CO.tmps,Opd.tmps,optT,h0',es,q1,ansR,oD,ne_eq,forall_const]
      exact Bt.sel [1] hh (by decide) (by simp only[Ztz,FrSel,BlkSel,AV.ren,renL,AV.ok,okL,Option.some.injEq,exists_eq_left',List.length_cons,List.length_nil,Nat.reduceAdd,Nat.reduceLT,reduceCtorEq,implies_true,exists_eq',stR]) (by simp only[Ztz,FrSel,BlkSel,AV.ren,renL,AV.ok,okL,Option.some.injEq,exists_eq_left',List.length_cons,List.length_nil,Nat.reduceAdd,Nat.reduceLT,reduceCtorEq,implies_true,exists_eq'])
     ·simp only[z49,Qs3,XtK,K1H,JS3,simprocAttr,CO.tmps,Opd.tmps,optT,h0',es,q1,ansR,oD,ne_eq,forall_const]
      exact Bt.drop _ hh rfl rfl
   have h1':=eq_false h1
   rw[if_neg (fun q=>h1 q.1)]at e
   by_cases h2:c=46
   ·rw[if_pos h2]at e
    cases e
    simp only[z49,Qs3,XtK,K1H,JS3,simprocAttr,CO.tmps,Opd.tmps,optT,h1',eq_true h2,oD,ne_eq,forall_const]
    rw[ZIj,en]
    exact Bt.sel [1] hh (by decide) (by simp only[Ztz,FrSel,BlkSel,AV.ren,renL,AV.ok,okL,Option.some.injEq,exists_eq_left',List.length_cons,List.length_nil,Nat.reduceAdd,Nat.reduceLT,reduceCtorEq,implies_true,exists_eq']) (by simp only[Ztz,FrSel,BlkSel,AV.ren,renL,AV.ok,okL,Option.some.injEq,exists_eq_left',List.length_cons,List.length_nil,Nat.reduceAdd,Nat.reduceLT,reduceCtorEq,implies_true,exists_eq'])
   have h2':=eq_false h2
   rw[if_neg h2]at e
   by_cases h3:c=95
   ·rw[if_pos h3]at e
    cases e
    simp only[z49,Qs3,XtK,K1H,JS3,simprocAttr,CO.tmps,Opd.tmps,optT,h1',h2',eq_true h3,oD,ne_eq,forall_const]
    rw[K3G,en]
    exact Bt.sel [1] hh (by decide) (by simp only[Ztz,FrSel,BlkSel,AV.ren,renL,AV.ok,okL,Option.some.injEq,exists_eq_left',List.length_cons,List.length_nil,Nat.reduceAdd,Nat.reduceLT,reduceCtorEq,implies_true,exists_eq']) (by simp only[Ztz,FrSel,BlkSel,AV.ren,renL,AV.ok,okL,Option.some.injEq,exists_eq_left',List.length_cons,List.length_nil,Nat.reduceAdd,Nat.reduceLT,reduceCtorEq,implies_true,exists_eq'])
   have h3':=eq_false h3
   rw[if_neg h3]at e
   by_cases h4:c=45
   ·rw[if_pos h4]at e
    cases e
    simp only[z49,Qs3,XtK,K1H,JS3,simprocAttr,CO.tmps,Opd.tmps,optT,h1',h2',h3',eq_true h4,oD,ne_eq,forall_const]
    rw[QDk,en]
    exact Bt.sel [1] hh (by decide) (by simp only[Ztz,FrSel,BlkSel,AV.ren,renL,AV.ok,okL,Option.some.injEq,exists_eq_left',List.length_cons,List.length_nil,Nat.reduceAdd,Nat.reduceLT,reduceCtorEq,implies_true,exists_eq']) (by simp only[Ztz,FrSel,BlkSel,AV.ren,renL,AV.ok,okL,Option.some.injEq,exists_eq_left',List.length_cons,List.length_nil,Nat.reduceAdd,Nat.reduceLT,reduceCtorEq,implies_true,exists_eq'])
   have h4':=eq_false h4
   rw[if_neg h4]at e
   rcases zn7 e with ⟨q,q1,rfl,rfl⟩|⟨q1,rfl,rfl⟩
   ·simp only[z49,Qs3,XtK,K1H,JS3,simprocAttr,CO.tmps,Opd.tmps,optT,h1',h2',h3',h4',es,q1,ansR,oD,ne_eq,forall_const]
    exact Bt.sel [1] hh (by decide) (by simp only[Ztz,FrSel,BlkSel,AV.ren,renL,AV.ok,okL,Option.some.injEq,exists_eq_left',List.length_cons,List.length_nil,Nat.reduceAdd,Nat.reduceLT,reduceCtorEq,implies_true,exists_eq',stR]) (by simp only[Ztz,FrSel,BlkSel,AV.ren,renL,AV.ok,okL,Option.some.injEq,exists_eq_left',List.length_cons,List.length_nil,Nat.reduceAdd,Nat.reduceLT,reduceCtorEq,implies_true,exists_eq'])
   ·simp only[z49,Qs3,XtK,K1H,JS3,simprocAttr,CO.tmps,Opd.tmps,optT,h1',h2',h3',h4',es,q1,ansR,oD,ne_eq,forall_const]
    exact Bt.drop _ hh rfl rfl
  ·cases e
 ·cases e
end
end Go.Proofs.YtekeoichmdiiiaaGreat
