/- Part 26 of what the laws' proofs rest on. No condition. -/
import Derived.Test.YtekeoichmdiiiaaGreatTh25
set_option linter.all false
namespace Go.Proofs.YtekeoichmdiiiaaGreat
section
set_option maxRecDepth 100000
set_option maxHeartbeats 8000000
section
variable {σ:Type}
def itP (C:List AB->List AB) (g:σ->σ) (fl:σ->Prop) [DecidablePred fl]:Nat->List AB×σ->List AB×σ
 | 0,x=>x
 | n+1,x=>if fl x.2 then x else itP C g fl n (C x.1,g x.2)
def itS (g:σ->σ) (fl:σ->Prop) [DecidablePred fl]:Nat->σ->σ
 | 0,x=>x
 | n+1,x=>if fl x then x else itS g fl n (g x)
theorem zjd {C:List AB->List AB} {g:σ->σ} {fl:σ->Prop} [DecidablePred fl] {I:Nat->List AB->σ->Prop} {K:Nat} {B:Prop} (hs:∀k H x,k<K->B->I k H x->¬fl x->I (k+1) (C H) (g x)):∀(n k:Nat) (x:List AB×σ),k+n=K->(B\/fl x.2)->I k x.1 x.2->∃k',k'<=K/\(B\/k'=k)/\I k' (itP C g fl n x).1 (itS g fl n x.2)
 | 0,k,_,hk,hb,h=>⟨k,by omega,.inr rfl,h⟩
 | n+1,k,x,hk,hb,h=>by
  rw[itP,itS]
  split
  ·exact ⟨k,by omega,.inr rfl,h⟩
  ·rename_i q
   have b:=hb.resolve_right q
   obtain ⟨k',h1,_,h3⟩:=zjd hs n (k+1) (C x.1,g x.2) (by omega) (.inl b) (hs k _ _ (by omega) b h q)
   exact ⟨k',h1,.inl b,h3⟩
end
theorem QE5 (S:List Nat) (H:List AB):JkA [] (qRB S [] 0 H) 0 H=H:=by
 refine List.ext_getElem? fun k=>?_
 rw[Xwm,Nat.zero_add]
 split
 ·rfl
 ·rename_i q
  rw[List.getElem?_eq_none (by rw[ZOs];omega),List.getElem?_eq_none (by omega)]
theorem RI.restM {h:List AB} {i j xi:Nat} {s:AV} {bs:List UInt8} {st:RFt} (e:RI i j xi s bs st h) (c anc n:Nat) (past:List Pt) (hn:n=h.length):ZTf [.p i 0] (qRB (seen (h.length+c) anc past n) [] 0 h)=some (.i .i64 (YnR bs st.1),qRB (seen (h.length+c) anc past n) [] 0 h):=by
 have hp:=e.pos
 have h1:=YFq (x:=st.1) e.R [] c anc n past (by rw[hn];rfl)
 rw[e.asis,List.append_nil]at h1
 have h2:Rd X0d (qRB (seen (h.length+c) anc past n) [] 0 h) s bs:=Rd.mask e.R.rd fun k hk=>by
  have:=e.R.lt k hk
  exact z7v (by omega) (by omega)
 show (rdr _ i).bind _=_
 rw[h1,Option.bind_some]
 dsimp only
 rw[h2.get,Option.bind_some,if_pos ⟨by omega,by omega⟩,Int.toNat_natCast]
def qn0 (bs:List UInt8) (H:List AB) (i j xi:Nat) (s:AV) (st:RFt):List AB:=if (bs.length:Int)<(KqA bs st.1).1 then (rB H i j s (KqA bs st.1).2).set xi (xB i bs (4,(st.1.pos:Int))) else rB H i j s (KqA bs st.1).2
theorem X5C {σ:Type} {c:Nat} {C:List AV->List AB->Option (AV×List AB)} (hC:Spec Tryz.prog c C) (hc1:(203=c)=False) (hc2:(204=c)=False) (hc3:(202=c)=False) {cap:List AV} {i j xi:Nat} {s:AV} {bs:List UInt8} (hl:bs.length<=1000000000) {I:Nat->List AB->σ->Prop} {rs:σ->RFt} {g:σ->σ} (hR:∀k H x,I k H x->RI i j xi s bs (rs x) H) {h:List AB} {st:RFt} (hs:∀k H x,k<(manS bs st).1->(manS bs st).1<=bs.length->I k H x->¬flsV (rs x)->∃H',C cap H=some (.tu [],H')/\I (k+1) H' (g x)) (r0:RI i j xi s bs st h) {x0:σ} (h0:¬flsV st->I 0 (qn0 bs h i j xi s st) x0) (hx0:rs x0=(manS bs st).2) :
  FnC Tryz.prog 102 [.p xi 0,.f (.func c) [] cap] h (.tu []) (if flsV st then h else (itP (fun H=>((C cap H).map (·.2)).getD H) g (fun x=>flsV (rs x)) (manS bs st).1 (qn0 bs h i j xi s st,x0)).1):=by
 refine FnAt.c (FnAt.run (by kernel_rfl) (T:=⟨[⟨203,zCT,fun _=>[]⟩,⟨204,ZTf,fun _=>[]⟩,⟨202,ZRt,fun _=>[]⟩,⟨c,C,fun _=>[]⟩],[]⟩) ⟨⟨Jas,qz4,qHy,hC,trivial⟩,trivial⟩ Tryz.func102 Z8y fun ho hh=>?_)
 rw[List.append_nil]
 have f1:=r0.fls
 have f2:=r0.ld
 have f3:∀anc past,ZTf [.p i 0] (qRB (seen h.length anc past h.length) [] 0 h)=some (.i .i64 (YnR bs st.1),qRB (seen h.length anc past h.length) [] 0 h):=fun anc past=>r0.restM 0 anc h.length past rfl
 have x1:=eq_true r0.xlt
 have x2:=eq_true r0.R.hi
 have f4:=r0.num
 have hp:=r0.pos
 unfold w102
 rcases emG (flsV st) with q|q
 ·rw[if_pos (of_eq_true q)]
  simp only[z49,Qs3,XtK,K1H,JS3,simprocAttr,CO.tmps,Opd.tmps,optT,f1,f2,q,List.getElem?_cons_zero,List.getElem?_cons_succ,oD,ne_eq,forall_const]
  exact Bt.refl _ _ _
 ·rw[if_neg (of_eq_false q)]
  have he:st.1.err=0:=Decidable.byContradiction fun z=>(of_eq_false q) (Or.inr z)
  have rb:YnR bs st.1=((bs.length:Int)-(st.1.pos:Int)):=by unfold YnR;rw[if_pos he]
  have w1:IntKind.i64.wrap ((bs.length:Int)-((bs.length:Int)-(st.1.pos:Int)))=(st.1.pos:Int):=by
   rw[show (bs.length:Int)-((bs.length:Int)-(st.1.pos:Int))=(st.1.pos:Int) by omega]
   exact Q7p (by unfold In64;omega)
  have hf:st.2=(0,0):=Decidable.byContradiction fun z=>(of_eq_false q) (Or.inl z)
  obtain ⟨N,r',hN⟩:=ZBN bs st.1
  have ok1:RFok bs ((KqA bs st.1).2,st.2):=⟨Or.inl hf,Xzd bs st.1 r0.ok.e,r0.ok.g.num⟩
  have hm1:(manS bs st).1=N:=by unfold manS;rw[hN];exact Int.toNat_natCast N
  have hNm:N<=9223372036854775807:=by
   have:=(zpc bs st.1).2
   rw[hN]at this
   dsimp only at this
   omega
  rw[hN]at f4 ok1
  have r1:=r0.rB ok1
  have l1:=r1.ld
  have s1:=r1.sto
  have hHH:=eq_true hh
  have hI:=h0 (of_eq_false q)
  rw[hm1]
  obtain ⟨C',hC'⟩:∃C',C'=fun H=>((C cap H).map (·.2)).getD H:=⟨_,rfl⟩
  rw[<-hC']
  rw[hm1]at hs
  have hCs:∀k H x,k<N->N<=bs.length->I k H x->¬flsV (rs x)->C cap H=some (.tu [],C' H)/\I (k+1) (C' H) (g x):=fun k H x hk hb hx hq=>by
   obtain ⟨H',e1,e2⟩:=hs k H x hk hb hx hq
   have e3:C' H=H':=by rw[hC'];dsimp only;rw[e1];rfl
   rw[e3]
   exact ⟨e1,e2⟩
  clear hC' hs
  have hfl:N<=bs.length\/flsV (rs x0):=by
   rcases Nat.lt_or_ge bs.length N with z|z
   ·right
    rw[hx0]
    unfold manS flsV
    rw[hN]
    dsimp only
    rw[if_pos (by omega)]
    exact .inl (by simp)
   ·exact .inl z
  rcases emG ((bs.length:Int)<(N:Int)) with q2|q2
  all_goals
   have hH:qn0 bs h i j xi s st=if (bs.length:Int)<(N:Int) then (rB h i j s r').set xi (xB i bs (4,(st.1.pos:Int))) else rB h i j s r':=by unfold qn0;rw[hN]
   simp only[q2,if_true,if_false]at hH
   simp only[z49,Qs3,XtK,K1H,JS3,simprocAttr,CO.tmps,Opd.tmps,optT,f1,f2,f3,f4,x1,x2,rb,w1,l1,s1,q2,hHH,JW9,QE5,ZOs,if_true,q,List.getElem?_cons_zero,List.getElem?_cons_succ,oD,ne_eq,forall_const]
   rw[<-hH]
   clear hH
   refine JLk (S:=Nat×List AB×σ) (fun τ=>N-τ.1) (fun τ=>[.p xi 0,.f (.func c) [] cap]++tp 32++[.i .i64 (N:Int),.i .i64 (τ.1:Int)]++tp 6) (fun τ=>τ.2.1) (fun τ=>τ.1<=N/\(N<=bs.length\/flsV (rs τ.2.2))/\I τ.1 τ.2.1 τ.2.2/\itP C' g (fun x=>flsV (rs x)) (N-τ.1) τ.2=itP C' g (fun x=>flsV (rs x)) N (qn0 bs h i j xi s st,x0)) (0,qn0 bs h i j xi s st,x0) ⟨Nat.zero_le _,hfl,hI,rfl⟩ (Bt.wk (by simp only[XtK,JS3,simprocAttr])) fun τ hτ=>?_
   obtain ⟨k,H,x⟩:=τ
   obtain ⟨t1,t0,t2,t3⟩:=hτ
   dsimp only at t1 t0 t2 t3 ⊢
   have v1:=(hR k H x t2).fls
   rw[<-t3]
   by_cases g1:k<N
   ·have g':((k:Int)<(N:Int))=True:=eq_true (by omega)
    have e1:IntKind.i64.wrap ((k:Int)+1)=((k+1:Nat):Int):=Q7p (by unfold In64;omega)
    rcases emG (flsV (rs x)) with q3|q3
    ·have hE:itP C' g (fun x=>flsV (rs x)) (N-k) (H,x)=(H,x):=by
      rw[show N-k=(N-(k+1))+1 by omega,itP,if_pos (of_eq_true q3)]
     rw[hE]
     simp only[XtK,K1H,JS3,simprocAttr,CO.tmps,Opd.tmps,optT,v1,q3,g',hc1,hc2,hc3,List.getElem?_cons_zero,List.getElem?_cons_succ,oD,ne_eq,forall_const]
     exact Bt.refl _ _ _
    ·have t0':=t0.resolve_right (of_eq_false q3)
     obtain ⟨u1,u2⟩:=hCs k H x g1 t0' t2 (of_eq_false q3)
     have hE:itP C' g (fun x=>flsV (rs x)) (N-k) (H,x)=itP C' g (fun x=>flsV (rs x)) (N-(k+1)) (C' H,g x):=by
      rw[show N-k=(N-(k+1))+1 by omega,itP,if_neg (of_eq_false q3)]
     simp only[XtK,K1H,JS3,simprocAttr,CO.tmps,Opd.tmps,optT,v1,u1,q3,g',e1,hc1,hc2,hc3,List.append_nil,List.getElem?_cons_zero,List.getElem?_cons_succ,oD,ne_eq,forall_const]
     exact ⟨(k+1,C' H,g x),⟨g1,.inl t0',u2,hE.symm⟩,by dsimp only;omega,Bt.wk (by simp only[XtK,JS3,simprocAttr])⟩
   ·have g':((k:Int)<(N:Int))=False:=eq_false (by omega)
    have hE:itP C' g (fun x=>flsV (rs x)) (N-k) (H,x)=(H,x):=by
     rw[show N-k=0 by omega,itP]
    rw[hE]
    simp only[XtK,K1H,JS3,simprocAttr,CO.tmps,Opd.tmps,optT,v1,g',hc1,hc2,hc3,List.getElem?_cons_zero,List.getElem?_cons_succ,oD,ne_eq,forall_const]
    exact Bt.refl _ _ _
end
section
theorem q7P {q:Nat->Bool}:∀ {l l':List AV},okL q l=true->okL q l'=true->okL q (l++l')=true
 | [],_,_,h2=>h2
 | a::l,l',h1,h2=>by
  rw[ZiP,Bool.and_eq_true]at h1
  rw[List.cons_append,ZiP,Bool.and_eq_true]
  exact ⟨h1.1,q7P h1.2 h2⟩
section
variable {α δ:Type}
def StayD (D:DRow α δ) (H:List AB) (lo hi:Nat) (e:α×δ):Prop:=∀H',H.length<=H'.length->(∀k,lo<=k->k<hi->zZU H' k=zZU H k)->D.get H' e.1=some e.2/\okL (fun i=>decide (i<H'.length)) (D.r.f e.1)=true
theorem StayD.to {D:DRow α δ} {H H2:List AB} {lo hi lo2 hi2:Nat} {e:α×δ} (a:StayD D H lo hi e) (h1:lo2<=lo) (h2:hi<=hi2) (hl:H.length<=H2.length) (hb:∀k,lo<=k->k<hi->zZU H2 k=zZU H k):StayD D H2 lo2 hi2 e:=fun H' g1 g2=>a H' (Nat.le_trans hl g1) fun k k1 k2=>(g2 k (by omega) (by omega)).trans (hb k k1 k2)
variable {D:DRow α δ} {fl:Bool} {i j xi ob:Nat} {s:AV} {bs:List UInt8} {mk:AV->List AV} {H0 H:List AB} {k:Nat} {st:RFt} {m:List (α×δ)} {id:Nat}
structure LR (D:DRow α δ) (fl:Bool) (i j xi:Nat) (s:AV) (bs:List UInt8) (ob:Nat) (mk:AV->List AV) (H0:List AB) (k:Nat) (H:List AB) (st:RFt) (m:List (α×δ)) (id:Nat):Prop where
 ri:RI i j xi s bs st H
 fr:Fr [i,j,xi,ob] H0 H
 b0:i<H0.length/\j<H0.length/\xi<H0.length/\ob<H0.length
 b1:ob≠i/\ob≠j/\ob≠xi
 b2:∀k∈idOf s,k<H0.length/\k≠ob
 len:m.length=k
 ob:H[ob]?=some (.blk false true (mk (apS D.r id (m.map (·.1)))))
 own:m.length≠0->H0.length<=id/\H[id]?=some (.blk fl true (D.r.cells (m.map (·.1))))
 rows:∀e∈m,StayD D H H0.length id e
theorem LR.idlt (e:LR D fl i j xi s bs ob mk H0 k H st m id) (hm:m.length≠0):id<H.length:=(List.getElem?_eq_some_iff.1 (e.own hm).2).1
theorem LR.to (e:LR D fl i j xi s bs ob mk H0 k H st m id) {H2:List AB} {st2:RFt} (f:Fr [i,j,xi] H H2) (r:RI i j xi s bs st2 H2):LR D fl i j xi s bs ob mk H0 k H2 st2 m id:=by
 have hle:=e.fr.le
 have hb:=e.b0
 refine ⟨r,e.fr.trans (f.mono fun k hk=>?_),e.b0,e.b1,e.b2,e.len,?_,fun hm=>⟨(e.own hm).1,?_⟩,fun a ha=>?_⟩
 ·simp only[List.mem_cons,List.not_mem_nil,or_false]at hk ⊢
  rcases hk with h|h|h
  ·exact .inl h
  ·exact .inr (.inl h)
  ·exact .inr (.inr (.inl h))
 ·rw[f.eq ob (by omega) (by simp only[List.mem_cons,List.not_mem_nil,or_false,not_or];exact e.b1)]
  exact e.ob
 ·have:=(e.own hm).1
  rw[f.eq id (e.idlt hm) (by simp only[List.mem_cons,List.not_mem_nil,or_false,not_or];omega)]
  exact (e.own hm).2
 ·have hm:m.length≠0:=by
   intro q
   rw[List.eq_nil_of_length_eq_zero q]at ha
   simp at ha
  have hi:=e.idlt hm
  refine (e.rows a ha).to (Nat.le_refl _) (Nat.le_refl _) f.le fun k k1 k2=>?_
  unfold zZU
  rw[f.eq k (by omega) (by simp only[List.mem_cons,List.not_mem_nil,or_false,not_or];omega)]
theorem LR.app (e:LR D fl i j xi s bs ob mk H0 k H st m id) {sz by_:Nat} (hz:D.r.sz=sz) (ys:List AV) (h1:(k+1)*by_<=140737488355328) (h2:k+1<=maxLen):appW H fl sz by_ (apS D.r id (m.map (·.1))) 1 ys=some (.sl H.length 0 (k+1) (k+1) (some sz),qBs (apS D.r id (m.map (·.1))) H++[.blk fl true (D.r.cells (m.map (·.1))++ys)]):=by
 subst hz
 have hk:=e.len
 by_cases hm:m.length=0
 ·have:=List.eq_nil_of_length_eq_zero hm
  subst this
  have k0:k=0:=by rw[<-hk];rfl
  subst k0
  show appW H fl D.r.sz by_ .ns 1 ys=_
  unfold appW
  dsimp only
  rw[if_neg (by decide),if_pos ⟨by omega,by omega⟩]
  rfl
 ·have hl:(m.map (·.1)).length=k:=by rw[List.length_map];exact hk
  have ha:apS D.r id (m.map (·.1))=.sl id 0 k k (some D.r.sz):=by
   unfold apS
   rw[if_neg (by rw[hl,<-hk];exact hm),hl]
  have hp:=D.r.pos
  rw[ha]
  unfold appW
  dsimp only
  rw[if_neg (by decide),if_neg (by omega),(e.own hm).2]
  dsimp only
  rw[if_pos ⟨rfl,by rw[D.r.cells_len,hl];omega,h1,h2⟩,if_neg (by simp),if_pos ⟨rfl,by omega,rfl,by rw[D.r.cells_len,hl];omega⟩,List.drop_zero]
  rfl
theorem LR.push (e:LR D fl i j xi s bs ob mk H0 k H st m id) {Hs:List AB} (hid:m.length≠0->id<Hs.length) (a:α) (d:δ) (hd:StayD D H Hs.length H.length (a,d)) (h0:H0.length<=Hs.length) :
  LR D fl i j xi s bs ob mk H0 (k+1) ((qBs (apS D.r id (m.map (·.1))) H).set ob (.blk false true (mk (.sl H.length 0 (k+1) (k+1) (some D.r.sz))))++[.blk fl true (D.r.cells (m.map (·.1))++D.r.f a)]) st (m++[(a,d)]) H.length:=by
 have hle:=e.fr.le
 have hb:=e.b0
 have hk:=e.len
 obtain ⟨G,hG⟩:∃G,G=qBs (apS D.r id (m.map (·.1))) H:=⟨_,rfl⟩
 have gl:G.length=H.length:=by rw[hG,JA8]
 have ge:∀q,(m.length≠0->q≠id)->G[q]?=H[q]?:=fun q hq=>by
  rw[hG]
  by_cases hm:m.length=0
  ·have:=List.eq_nil_of_length_eq_zero hm
   subst this
   rfl
  ·unfold apS
   rw[if_neg (by rw[List.length_map];exact hm)]
   exact List.getElem?_set_ne (Ne.symm (hq hm))
 obtain ⟨F,hF⟩:∃F,F=G.set ob (.blk false true (mk (.sl H.length 0 (k+1) (k+1) (some D.r.sz))))++[.blk fl true (D.r.cells (m.map (·.1))++D.r.f a)]:=⟨_,rfl⟩
 have fe:∀q,q<H.length->q≠ob->(m.length≠0->q≠id)->F[q]?=H[q]?:=fun q q1 q2 q3=>by
  rw[hF,List.getElem?_append_left (by rw[List.length_set,gl];exact q1),List.getElem?_set_ne (Ne.symm q2),ge q q3]
 have fl':F.length=H.length+1:=by rw[hF,List.length_append,List.length_set,gl];rfl
 have lo:∀q,q<H0.length->m.length≠0->q≠id:=fun q q1 hm=>by have:=(e.own hm).1;omega
 rw[<-hG,<-hF]
 have hap:apS D.r H.length ((m++[(a,d)]).map (·.1))=.sl H.length 0 (k+1) (k+1) (some D.r.sz):=by
  unfold apS
  rw[if_neg (by simp)]
  simp only[List.length_map,List.length_append,List.length_cons,List.length_nil,hk,Nat.zero_add]
 refine ⟨e.ri.oth (by omega) fun q hq=>?_,⟨by omega,fun q q1 q2=>?_⟩,e.b0,e.b1,e.b2,by rw[List.length_append,hk];rfl,?_,fun _=>⟨hle,?_⟩,fun c hc=>?_⟩
 ·have h1:q<H0.length/\q≠ob:=by
   rcases hq with rfl|rfl|rfl|hq
   ·exact ⟨hb.1,Ne.symm e.b1.1⟩
   ·exact ⟨hb.2.1,Ne.symm e.b1.2.1⟩
   ·exact ⟨hb.2.2.1,Ne.symm e.b1.2.2⟩
   ·exact e.b2 q hq
  exact fe q (by omega) h1.2 (lo q h1.1)
 ·have h2:q≠ob:=fun z=>q2 (by rw[z];simp)
  rw[fe q (by omega) h2 (lo q q1)]
  exact e.fr.eq q q1 q2
 ·rw[hap,hF,List.getElem?_append_left (by rw[List.length_set,gl];omega),List.getElem?_set_self (by rw[gl];omega)]
 ·rw[hF,List.getElem?_append_right (by rw[List.length_set,gl];exact Nat.le_refl _),List.length_set,gl,Nat.sub_self]
  simp only[List.getElem?_cons_zero,List.map_append,List.map_cons,List.map_nil,Row.cells,List.flatMap_append,List.flatMap_cons,List.flatMap_nil,List.append_nil]
 ·rcases List.mem_append.1 hc with hc|hc
  ·have hm:m.length≠0:=by
    intro q
    rw[List.eq_nil_of_length_eq_zero q]at hc
    simp at hc
   have hi:=e.idlt hm
   refine (e.rows c hc).to (Nat.le_refl _) (by omega) (by omega) fun q k1 k2=>?_
   unfold zZU
   rw[fe q (by omega) (by omega) fun _=>by omega]
  ·rw[List.mem_singleton]at hc
   subst hc
   refine hd.to h0 (Nat.le_refl _) (by omega) fun q k1 k2=>?_
   unfold zZU
   rw[fe q (by omega) (by omega) fun hm=>by have:=hid hm;omega]
theorem HOk.set1 (hh:HOk H) {q:Nat} {B:AB} (hB:B.ok (fun i=>decide (i<H.length))=true):HOk (H.set q B):=fun i C hC=>by
 rw[List.length_set]
 by_cases h1:q=i
 ·subst h1
  have hq:q<H.length:=by
   have:=(List.getElem?_eq_some_iff.1 hC).1
   rwa [List.length_set]at this
  rw[List.getElem?_set_self hq]at hC
  cases hC
  exact hB
 ·rw[List.getElem?_set_ne h1]at hC
  exact hh i C hC
theorem HOk.app1 (hh:HOk H) {L:List AB} (hL:∀B∈L,B.ok (fun i=>decide (i<H.length+L.length))=true):HOk (H++L):=by
 rw[Kvx hh]
 exact List.all_eq_true.2 hL
theorem HOk.kill (hh:HOk H) (v:AV):HOk (qBs v H):=by
 unfold qBs
 split
 ·exact hh.set1 rfl
 ·exact hh
theorem LR.push_ok (e:LR D fl i j xi s bs ob mk H0 k H st m id) (hh:HOk H) (hmk:∀(q:Nat->Bool) v w,okL q (mk v)=true->w.ok q=true->okL q (mk w)=true) {a:α} (ha:okL (fun i=>decide (i<H.length)) (D.r.f a)=true) (sz:Option Nat):HOk ((qBs (apS D.r id (m.map (·.1))) H).set ob (.blk false true (mk (.sl H.length 0 (k+1) (k+1) sz)))++[.blk fl true (D.r.cells (m.map (·.1))++D.r.f a)]):=by
 have up:∀ {l:List AV},okL (fun i=>decide (i<H.length)) l=true->okL (fun i=>decide (i<H.length+1)) l=true:=fun {l} ho=>Yit (fun i q=>by simp only[decide_eq_true_eq]at q ⊢;omega) l ho
 have hb:=hh _ _ e.ob
 have hk:=hh.kill (apS D.r id (m.map (·.1)))
 intro q B hB
 have hl:((qBs (apS D.r id (m.map Prod.fst)) H).set ob (AB.blk false true (mk (.sl H.length 0 (k+1) (k+1) sz)))++[AB.blk fl true (D.r.cells (m.map Prod.fst)++D.r.f a)]).length=H.length+1:=by rw[List.length_append,List.length_set,JA8];rfl
 rw[hl]
 rw[List.getElem?_append]at hB
 split at hB
 ·rename_i hq
  rw[List.length_set,JA8]at hq
  by_cases h1:ob=q
  ·subst h1
   rw[List.getElem?_set_self (by rw[JA8];exact hq)]at hB
   cases hB
   exact hmk _ _ _ (up hb) (YJG _ _ _ _ _ _ (decide_eq_true (by omega)))
  ·rw[List.getElem?_set_ne h1]at hB
   have:=hk q B hB
   rw[JA8]at this
   exact AB.ok_mono (fun i z=>by simp only[decide_eq_true_eq]at z ⊢;omega) B this
 ·rename_i hq
  rw[List.length_set,JA8]at hq hB
  have hq0:q-H.length=0:=by
   have:=(List.getElem?_eq_some_iff.1 hB).1
   simp only[List.length_cons,List.length_nil]at this
   omega
  rw[hq0,List.getElem?_cons_zero]at hB
  cases hB
  cases fl
  ·have hc:okL (fun i=>decide (i<H.length)) (D.r.cells (m.map (·.1)))=true:=by
    by_cases hm:m.length=0
    ·have:=List.eq_nil_of_length_eq_zero hm
     subst this
     rfl
    ·have:=hh _ _ (e.own hm).2
     simpa only[AB.ok] using this
   simp only[AB.ok]
   exact up (q7P hc ha)
  ·simp only[AB.ok]
theorem LR.rd (e:LR D fl i j xi s bs ob mk H0 k H st m id) (hk:k<=maxLen):RdP D H (apS D.r id (m.map (·.1))) m:=by
 have hl:(m.map (·.1)).length=m.length:=List.length_map _
 refine ⟨⟨?_,by rw[hl,e.len];exact hk⟩,fun a ha=>?_,fun a ha=>?_⟩
 ·unfold apS
  by_cases hm:m.length=0
  ·have:=List.eq_nil_of_length_eq_zero hm
   subst this
   rfl
  ·rw[if_neg (by rw[hl];exact hm)]
   simp only[rdS]
   rw[if_neg (by rw[hl];exact hm),QKY (e.own hm).2,Option.bind_some,if_pos (by rw[D.r.cells_len];omega),List.drop_zero,List.take_of_length_le (by rw[D.r.cells_len];exact Nat.le_refl _)]
 ·exact (e.rows a ha H (Nat.le_refl _) fun _ _ _=>rfl).1
 ·exact (e.rows a ha H (Nat.le_refl _) fun _ _ _=>rfl).2
end
end
section
theorem q47 {bs:List UInt8} {st:RFt} {N:Nat} {r':RSt} (hN:KqA bs st.1=((N:Int),r')):manS bs st=(N,(r',if (bs.length:Int)<(N:Int) then (4,(st.1.pos:Int)) else st.2)):=by
 unfold manS
 rw[hN]
 simp only[Int.toNat_natCast]
theorem KcW {bs:List UInt8} {h:List AB} {i j xi:Nat} {s:AV} {st:RFt} (r0:RI i j xi s bs st h) (q:¬flsV st):RI i j xi s bs (manS bs st).2 (qn0 bs h i j xi s st)/\Fr [i,j,xi] h (qn0 bs h i j xi s st):=by
 obtain ⟨N,r',hN⟩:=ZBN bs st.1
 have ok:=(YTO r0.ok q).2.2
 have hf:st.2=(0,0):=Decidable.byContradiction fun z=>q (Or.inl z)
 have ok1:RFok bs ((KqA bs st.1).2,st.2):=⟨Or.inl hf,Xzd bs st.1 r0.ok.e,r0.ok.g.num⟩
 rw[q47 hN]at ok ⊢
 rw[hN]at ok1
 have r1:=r0.rB ok1
 unfold qn0
 rw[hN]
 dsimp only at ok ⊢
 by_cases z:(bs.length:Int)<(N:Int)
 ·rw[if_pos z]at ok ⊢
  rw[if_pos z]
  exact ⟨r1.setx ok,(Fr.rB (by simp) (by simp) h s r').trans (Fr.set (by simp) _ _)⟩
 ·rw[if_neg z]at ok ⊢
  rw[if_neg z]
  exact ⟨r1,Fr.rB (by simp) (by simp) h s r'⟩
theorem XvZ {bs:List UInt8} {h:List AB} {i j xi:Nat} {s:AV} {st:RFt} (r0:RI i j xi s bs st h) (hh:HOk h):HOk (qn0 bs h i j xi s st):=by
 have hb:HOk (rB h i j s (KqA bs st.1).2):=qMc r0.R (qC8 hh r0.hi) hh _
 unfold qn0
 split
 ·have hi:=r0.R.hi
  refine hb.set1 ?_
  rw[Kz5]
  show okL _ [AV.p i 0,_,_,_]=true
  simp only[ZiP,q0E,ok_p,ok_i,Bool.and_true]
  exact decide_eq_true hi
 ·exact hb
section
variable {α δ:Type} {D:DRow α δ} {fl:Bool} {i j xi ob:Nat} {s:AV} {bs:List UInt8} {mk:AV->List AV}
theorem QQS {gS:RFt->δ×RFt}:∀(n:Nat) (st:RFt) (acc:List δ),itS (fun x:RFt×List δ=>((gS x.1).2,x.2++[(gS x.1).1])) (fun x=>flsV x.1) n (st,acc)=((lstS gS n st acc).2,(lstS gS n st acc).1)
 | 0,_,_=>rfl
 | n+1,st,acc=>by
  rw[itS,lstS]
  by_cases q:flsV st
  ·rw[if_pos q,if_pos q]
  ·rw[if_neg q,if_neg q]
   exact QQS n _ _
theorem LR.uniq (hmk:∀x y,mk x=mk y->x=y) {h H:List AB} {k k':Nat} {st st':RFt} {m m':List (α×δ)} {id id':Nat} (e:LR D fl i j xi s bs ob mk h k H st m id) (e':LR D fl i j xi s bs ob mk h k' H st' m' id') (hk:k<=maxLen) (hk':k'<=maxLen):k=k'/\st=st'/\m=m':=by
 have h1:=e.ob.symm.trans e'.ob
 simp only[Option.some.injEq,AB.blk.injEq,true_and]at h1
 have h2:=hmk _ _ h1
 have h3:=(e.rd hk).get
 have h4:=(e'.rd hk').get
 rw[h2,h4]at h3
 have h5:=Option.some.inj h3
 exact ⟨by rw[<-e.len,<-e'.len,h5],(e.ri.inj e'.ri).2.2.2.2,h5.symm⟩
theorem XpL {c:Nat} (hc1:(203=c)=False) (hc2:(204=c)=False) (hc3:(202=c)=False) {cap:List AV} {gS:RFt->δ×RFt} (hl:bs.length<=1000000) (hmk:∀x y,mk x=mk y->x=y) {h:List AB} {st:RFt} (L0:LR D fl i j xi s bs ob mk h 0 h st [] 0) (hh:HOk h)
  (hcl:∀k H st m id,k<bs.length->LR D fl i j xi s bs ob mk h k H st m id->HOk H->¬flsV st->∃H',FnC Tryz.prog c cap H (.tu []) H'/\HOk H'/\∃m' id',LR D fl i j xi s bs ob mk h (k+1) H' (gS st).2 m' id'/\m'.map (·.2)=m.map (·.2)++[(gS st).1]) :
  ∃H',FnC Tryz.prog 102 [.p xi 0,.f (.func c) [] cap] h (.tu []) H'/\HOk H'/\∃k m id,k<=bs.length/\LR D fl i j xi s bs ob mk h k H' (seqS bs gS st).2 m id/\(seqS bs gS st).1=m.map (·.2):=by
 obtain ⟨I1,hI1⟩:∃I1:List AV->List AB->Nat×RFt×List δ->Prop,I1=fun args H x=>args=cap/\∃m id,LR D fl i j xi s bs ob mk h x.1 H x.2.1 m id/\x.2.2=m.map (·.2)/\x.1<bs.length:=⟨_,rfl⟩
 obtain ⟨O1,hO1⟩:∃O1:Nat×RFt×List δ->List AB->AV->List AB->Prop,O1=fun x _ v H'=>v=.tu []/\HOk H'/\∃m' id',LR D fl i j xi s bs ob mk h (x.1+1) H' (gS x.2.1).2 m' id'/\m'.map (·.2)=x.2.2++[(gS x.2.1).1]:=⟨_,rfl⟩
 have hmx:bs.length<=maxLen:=by unfold maxLen;omega
 have hu:∀H x y,I1 cap H x->I1 cap H y->x=y:=fun H x y hx hy=>by
  rw[hI1]at hx hy
  obtain ⟨_,m,id,e,e2,e3⟩:=hx
  obtain ⟨_,m',id',e',e2',e3'⟩:=hy
  obtain ⟨q1,q2,q3⟩:=e.uniq hmk e' (by omega) (by omega)
  exact Prod.ext q1 (Prod.ext q2 (by rw[e2,e2',q3]))
 have key:=X5C (σ:=RFt×List δ) (C:=TQ Tryz.prog c I1 O1) (Z7n _ _ _ _) hc1 hc2 hc3 (cap:=cap) (by omega) (I:=fun k H x=>∃m id,LR D fl i j xi s bs ob mk h k H x.1 m id/\x.2=m.map (·.2)/\HOk H) (rs:=(·.1)) (g:=fun x:RFt×List δ=>((gS x.1).2,x.2++[(gS x.1).1])) (fun k H x hx=>by
   obtain ⟨m,id,e,_,_⟩:=hx
   exact e.ri) (h:=h) (st:=st) ?_ L0.ri (x0:=((manS bs st).2,[])) ?_ rfl
 ·by_cases q:flsV st
  ·rw[if_pos q]at key
   refine ⟨_,key,hh,0,[],0,Nat.zero_le _,?_,?_⟩
   ·unfold seqS
    rw[if_pos q]
    exact L0
   ·unfold seqS
    rw[if_pos q]
    rfl
  ·rw[if_neg q]at key
   refine ⟨_,key,?_⟩
   have hi:=zjd (σ:=RFt×List δ) (C:=fun H=>((TQ Tryz.prog c I1 O1 cap H).map (·.2)).getD H) (g:=fun x:RFt×List δ=>((gS x.1).2,x.2++[(gS x.1).1])) (fl:=fun x=>flsV x.1) (I:=fun k H x=>∃m id,LR D fl i j xi s bs ob mk h k H x.1 m id/\x.2=m.map (·.2)/\HOk H) (K:=(manS bs st).1) (B:=(manS bs st).1<=bs.length) (fun k H x hk hb hx hq=>by
    obtain ⟨m,id,e,e2,e3⟩:=hx
    obtain ⟨H',f1,f0,m',id',f2,f3⟩:=hcl k H x.1 m id (by omega) e e3 hq
    obtain ⟨v,H2,t1,t2⟩:=XsQ (I:=I1) (O:=O1) (x:=(k,x.1,x.2)) (hu H) (by rw[hI1];exact ⟨rfl,m,id,e,e2,by omega⟩) f1 (by rw[hO1];exact ⟨rfl,f0,m',id',f2,by rw[f3,e2]⟩)
    rw[hO1]at t2
    obtain ⟨_,t0,m2,id2,t3,t4⟩:=t2
    dsimp only
    rw[t1]
    exact ⟨m2,id2,t3,t4.symm,t0⟩) (manS bs st).1 0 (qn0 bs h i j xi s st,((manS bs st).2,[])) (by omega) ?_ ⟨[],0,L0.to (KcW L0.ri q).2 (KcW L0.ri q).1,rfl,XvZ L0.ri hh⟩
   ·obtain ⟨k',h1,h2,m,id,h3,h4,h5⟩:=hi
    rw[QQS]at h3 h4
    have hs:seqS bs gS st=lstS gS (manS bs st).1 (manS bs st).2 []:=by unfold seqS;rw[if_neg q]
    rw[hs]
    exact ⟨h5,k',m,id,by rcases h2 with h2|h2 <;> omega,h3,h4⟩
   ·obtain ⟨N,r',hN⟩:=ZBN bs st.1
    rw[q47 hN]
    dsimp only
    rcases Nat.lt_or_ge bs.length N with z|z
    ·right
     rw[if_pos (by omega)]
     exact Or.inl (by simp)
    ·exact .inl z
 ·intro k H x hk hb hx hq
  obtain ⟨m,id,e,e2,e3⟩:=hx
  obtain ⟨H',f1,f0,m',id',f2,f3⟩:=hcl k H x.1 m id (by omega) e e3 hq
  obtain ⟨v,H2,t1,t2⟩:=XsQ (I:=I1) (O:=O1) (x:=(k,x.1,x.2)) (hu H) (by rw[hI1];exact ⟨rfl,m,id,e,e2,by omega⟩) f1 (by rw[hO1];exact ⟨rfl,f0,m',id',f2,by rw[f3,e2]⟩)
  rw[hO1]at t2
  obtain ⟨rfl,t0,m2,id2,t3,t4⟩:=t2
  exact ⟨H2,t1,m2,id2,t3,t4.symm,t0⟩
 ·intro q
  exact ⟨[],0,L0.to (KcW L0.ri q).2 (KcW L0.ri q).1,rfl,XvZ L0.ri hh⟩
end
end
section
set_option maxRecDepth 100000
set_option maxHeartbeats 8000000
noncomputable def Kqf:DRow Hd Hd:=⟨zEN,fun _ a=>some a,fun _ e=>e,fun e=>e⟩
theorem znm:Kqf.r=zEN:=oI rfl
theorem YBA {l:List UInt8} (h:l.length=32):(mkDg l).l=l:=by unfold mkDg;rw[dif_pos h]
theorem qtC (q:Nat->Bool) (x:Hd):okL q (zEN.f x)=true:=by
 rw[XvD]
 simp only[ZiP,ok_i,Bool.true_and]
 exact QMm q x.2.l
theorem ov32 {U:List AV} (h:U.length=32):over [oZ,oZ,oZ,oZ,oZ,oZ,oZ,oZ,oZ,oZ,oZ,oZ,oZ,oZ,oZ,oZ,oZ,oZ,oZ,oZ,oZ,oZ,oZ,oZ,oZ,oZ,oZ,oZ,oZ,oZ,oZ,oZ] 0 U=U:=XA7 _ _ (by rw[h];rfl)
theorem JrH (bs:List UInt8) (x:RSt):(Z3k bs x).2=(KqA bs (KqA bs x).2).2:=by
 unfold Z3k
 split <;> rfl
section
variable {h H:List AB} {i j xi a b:Nat} {s:AV} {bs:List UInt8}
theorem zV3 {i j:Nat} {s:AV} {y:RSt} {k:Nat} (h1:k≠i) (h2:k≠j) (hk:k<H.length) (L:List AB):(rB H i j s y++L)[k]?=H[k]?:=by
 rw[List.getElem?_append_left (by rw[Kz5];exact hk),qO8 h1 h2]
theorem qGa {o:Nat} {G:List AB} {fl m:Bool} {xs:List AV} {v:AV} (e:G[a]?=some (.blk fl m xs)) (ev:xs[o]?=some v):ldV G none (.p a o)=some v:=by
 simp only[ldV,QKY e,Option.bind_some]
 exact ev
theorem YIu {α δ:Type} {D:DRow α δ} {fl:Bool} {ob:Nat} {mk:AV->List AV} {k:Nat} {st:RFt} {m:List (α×δ)} {id:Nat} (e:LR D fl i j xi s bs ob mk h k H st m id):(qBs (apS D.r id (m.map (·.1))) H)[ob]?=some (.blk false true (mk (apS D.r id (m.map (·.1))))):=by
 have hb:=e.b0
 conv=>rhs;rw[<-e.ob]
 unfold apS
 split
 ·rfl
 ·rename_i hm
  rw[List.length_map]at hm
  have:=(e.own hm).1
  exact List.getElem?_set_ne (by omega)
theorem XRn (hl:bs.length<=1000000) {ma fa:Bool} (ha:h[a]?=some (.blk fa ma [.p xi 0])) (na:a≠i/\a≠j/\a≠xi/\a≠b) {k:Nat} {st:RFt} {m:List (Hd×Hd)} {id:Nat} (hk:k<bs.length) (e:LR Kqf true i j xi s bs b (fun v=>[v]) h k H st m id) (hh:HOk H) (q:¬flsV st) :
  ∃H',FnC Tryz.prog 206 [.p a 0,.p b 0] H (.tu []) H'/\HOk H'/\∃m' id',LR Kqf true i j xi s bs b (fun v=>[v]) h (k+1) H' (hdS bs st).2 m' id'/\m'.map (·.2)=m.map (·.2)++[(hdS bs st).1]:=by
 have ri:=e.ri
 have hle:=e.fr.le
 have hb:=e.b0
 obtain ⟨hf,hv⟩:=zSM q
 have ok2:=(XpZ bs st ri.ok q).2.2
 have hlt:a<h.length:=(List.getElem?_eq_some_iff.1 ha).1
 have haH:H[a]?=some (.blk fa ma [.p xi 0]):=by
  rw[e.fr.eq a hlt (by simp only[List.mem_cons,List.not_mem_nil,or_false,not_or];exact na)]
  exact ha
 obtain ⟨slc,hslc⟩:∃slc,slc=apS Kqf.r id (m.map (·.1)):=⟨_,rfl⟩
 have obH:=e.ob
 rw[<-hslc]at obH
 obtain ⟨z,hz⟩:∃z,z=Z3k bs st.1:=⟨_,rfl⟩
 obtain ⟨w,hw⟩:∃w,w=rdID bs z.2:=⟨_,rfl⟩
 have e1:rdHd bs st.1=((z.1,mkDg w.1),w.2):=by unfold rdHd;rw[hw,hz]
 have e2:hdS bs st=((z.1,mkDg w.1),(w.2,st.2)):=by unfold hdS;rw[e1]
 have wl:w.1.length=32:=by rw[hw];exact ZIz _ _
 rw[e2]at ok2 ⊢
 dsimp only at ok2 ⊢
 have zp:z.2.pos<=bs.length:=by rw[hz,JrH];exact Qu8 (Qu8 ri.pos)
 obtain ⟨d,hd⟩:∃d:Hd,d=(z.1,mkDg w.1):=⟨_,rfl⟩
 have hdf:zEN.f d=.i .i64 z.1.1::.i .i64 z.1.2::w.1.map u8A:=by rw[XvD,hd];simp only[idR,YBA wl]
 obtain ⟨B1,hB1⟩:∃B1,B1=AB.blk true true (zEN.f d):=⟨_,rfl⟩
 have L1:∀L,LR Kqf true i j xi s bs b (fun v=>[v]) h k (rB H i j s w.2++L) (w.2,st.2) m id:=fun L=>e.to ((Fr.rB (by simp) (by simp) H s w.2).trans (Fr.app _ _ L)) ((ri.rB ok2).app L)
 have P1:=(L1 [B1,B1]).push (Hs:=H) (fun hm=>e.idlt hm) d d (fun H' _ _=>⟨rfl,qtC _ d⟩) hle
 have hok:=qC8 hh ri.hi
 have B1ok:∀q:Nat->Bool,AB.ok q B1=true:=fun q=>by rw[hB1];simp only[AB.ok]
 have K1:HOk (rB H i j s w.2++[B1,B1]):=(qMc ri.R hok hh w.2).app1 fun B hB=>by
  simp only[List.mem_cons,List.not_mem_nil,or_false,or_self]at hB
  rw[hB]
  exact B1ok _
 have P2:=(L1 [B1,B1]).push_ok K1 (fun q v w _ hw=>by simp only[ZiP,q0E,hw,Bool.and_true]) (a:=d) (qtC _ d) (some Kqf.r.sz)
 rw[<-hslc,znm]at P1 P2
 rw[<-hd]
 refine ⟨_,?_,P2,_,_,P1,by rw[List.map_append];rfl⟩
 refine FnAt.c (FnAt.run (by kernel_rfl) (T:=⟨[⟨207,Kmg,fun _=>[]⟩,⟨208,Kuo,fun _=>[]⟩],[]⟩) ⟨⟨XL5,Zqe,trivial⟩,trivial⟩ Tryz.func206 Jly fun _ _=>?_)
 have e0:H++[]=rB H i j s st.1++[]:=by rw[ri.asis]
 rw[e0]
 have f1:=XLI ri.R hok
 have f4:=fun x=>Zuy (x:=x) ri.R
 have ga:∀y L,ldV (rB H i j s y++L) none (.p a 0)=some (.p xi 0):=fun y L=>qGa ((zV3 na.1 na.2.1 (by omega) L).trans haH) rfl
 have gx:∀y L,ldV (rB H i j s y++L) none (.p xi 0)=some (.p i 0):=fun y L=>qGa ((zV3 ri.nx.1 ri.nx.2.1 ri.xlt L).trans ri.hx) rfl
 have gb:∀y L,ldV (rB H i j s y++L) none (.p b 0)=some slc:=fun y L=>qGa ((zV3 e.b1.1 e.b1.2.1 (by omega) L).trans obH) rfl
 have r0:=qdK ri.R ri.pos
 have r1:=qdK ri.R zp
 have g2:=eq_true hl
 have fapp:∀L ys,appW (rB H i j s w.2++L) true 34 48 slc 1 ys=some (.sl (rB H i j s w.2++L).length 0 (k+1) (k+1) (some 34),qBs slc (rB H i j s w.2++L)++[.blk true true (zEN.cells (m.map (·.1))++ys)]):=fun L ys=>by
  rw[hslc]
  exact (L1 L).app (D:=Kqf) rfl ys (by omega) (by unfold maxLen;omega)
 obtain ⟨u1,u2,u3,u4,u5⟩:=YTo wl
 have u6:=ov32 u1
 have stb:∀L B v,stV (qBs slc (rB H i j s w.2++L)++[B]) none (.p b 0) v=if v.one=true then some ((qBs slc (rB H i j s w.2++L)).set b (.blk false true [v])++[B]) else none:=fun L B v=>by
  have hbl:b<(qBs slc (rB H i j s w.2++L)).length:=by rw[JA8,List.length_append,Kz5];omega
  have g:(qBs slc (rB H i j s w.2++L)++[B])[b]?=some (.blk false true [slc]):=by
   rw[List.getElem?_append_left hbl,hslc]
   exact YIu (L1 L)
  simp only[stV,stB,g]
  split
  ·rename_i hv
   rw[if_pos ⟨by simp,by simp [wrOk,hv]⟩,List.set_append_left _ _ hbl]
   rfl
  ·rfl
 unfold w206
 simp only[z49,Qs3,XtK,K1H,JS3,simprocAttr,CO.tmps,Opd.tmps,optT,qRn,qSM,YNH,KMT,XrP,zEY,zrQ,f1,f4,ga,gx,gb,r0,r1,g2,u1,u2,u3,u5,u6,stb,<-hz,<-hw,fapp,Kmg,Kuo,Option.bind_some,List.getElem?_cons_zero,List.getElem?_cons_succ,oD,ne_eq,forall_const]
 rw[hB1,hdf]
 exact Bt.refl _ _ _
end
def q4E {α:Type} (r:Row α) (H:List AB) (lo:Nat) (v:AV) (l:List α):Prop:=∀H',H.length<=H'.length->(∀k,lo<=k->k<H.length->zZU H' k=zZU H k)->Rd r H' v l/\v.ok (fun i=>decide (i<H'.length))=true
theorem LR.stay {α δ:Type} {D:DRow α δ} {fl:Bool} {h H:List AB} {i j xi ob:Nat} {s:AV} {bs:List UInt8} {mk:AV->List AV} {k:Nat} {st:RFt} {m:List (α×δ)} {id lo:Nat} (e:LR D fl i j xi s bs ob mk h k H st m id) (hk:k<=maxLen) (hlo:lo<=h.length):q4E D.r H lo (apS D.r id (m.map (·.1))) (m.map (·.1)):=fun H'' g1 g2=>by
 have hml:(m.map (·.1)).length<=maxLen:=by rw[List.length_map,e.len];exact hk
 by_cases hm:m.length=0
 ·have:=List.eq_nil_of_length_eq_zero hm
  subst this
  exact ⟨⟨rfl,Nat.zero_le _⟩,rfl⟩
 ·have hi:=e.idlt hm
  have h0:=(e.own hm).1
  have hr:zZU H'' id=some (D.r.cells (m.map (·.1))):=(g2 id (by omega) hi).trans (QKY (e.own hm).2)
  have hml0:(m.map (·.1)).length≠0:=by rw[List.length_map];exact hm
  refine ⟨⟨?_,hml⟩,JRX _ _ _ (decide_eq_true (by omega))⟩
  unfold apS
  rw[if_neg hml0]
  simp only[rdS]
  rw[if_neg hml0,hr,Option.bind_some,if_pos (by rw[D.r.cells_len];omega),List.drop_zero,List.take_of_length_le (by rw[D.r.cells_len];exact Nat.le_refl _)]
noncomputable def T1 (A:List AV) (X:List AB) (v:AV) (X':List AB):List AV->List AB->Option (AV×List AB):=fun args H=>open Classical in if args=A/\H=X then some (v,X') else none
theorem Y2x {P:Program} {g:Nat} {A:List AV} {X:List AB} {v:AV} {X':List AB} (e:FnC P g A X v X'):Spec P g (T1 A X v X'):=by
 intro args h v2 h' q
 unfold T1 at q
 split at q
 ·rename_i c
  cases q
  rw[c.1,c.2]
  exact e
 ·cases q
theorem YEj (A:List AV) (X:List AB) (v:AV) (X':List AB):T1 A X v X' A X=some (v,X'):=by
 unfold T1
 rw[if_pos ⟨rfl,rfl⟩]
theorem Q0d {H:List AB} {i j xi:Nat} {s:AV} {bs:List UInt8} {st:RFt} (hl:bs.length<=1000000) (ri:RI i j xi s bs st H) (hh:HOk H) :
  ∃sl:SlA,∃H',FnC Tryz.prog 106 [.p xi 0] H sl.a H'/\HOk H'/\RI i j xi s bs (seqS bs (hdS bs) st).2 H'/\Fr [i,j,xi] H H'/\q4E zEN H' H.length sl.a (seqS bs (hdS bs) st).1:=by
 obtain ⟨X,hX⟩:∃X,X=H++[.blk false true [.p xi 0],.blk false true [.ns]]:=⟨_,rfl⟩
 have xl:X.length=H.length+2:=by rw[hX,List.length_append];rfl
 have hil:=ri.R.hi
 have hjl:=ri.R.hj
 have hxl:=ri.xlt
 have hX0:X[H.length+0]?=some (.blk false true [.p xi 0]):=by rw[hX,List.getElem?_append_right (by omega),Nat.add_sub_cancel_left];rfl
 have hX1:X[H.length+1]?=some (.blk false true [.ns]):=by rw[hX,List.getElem?_append_right (by omega),Nat.add_sub_cancel_left];rfl
 have L0:LR Kqf true i j xi s bs (H.length+1) (fun v=>[v]) X 0 X st [] 0:=⟨by rw[hX];exact ri.app _,Fr.refl _ _,by omega,by omega,fun k hk=>by have:=ri.R.lt k hk;omega,rfl,hX1,fun q=>absurd rfl q,fun e he=>by simp at he⟩
 have hhX:HOk X:=by
  rw[hX]
  refine hh.app1 fun B hB=>?_
  simp only[List.mem_cons,List.not_mem_nil,or_false]at hB
  rcases hB with rfl|rfl
  ·show okL _ [AV.p xi 0]=true
   simp only[ZiP,q0E,ok_p,Bool.and_true]
   exact decide_eq_true (by omega)
  ·rfl
 obtain ⟨X',c1,hhX',k,m,id,hk,L1,e1⟩:=XpL (c:=206) (eq_false (by decide)) (eq_false (by decide)) (eq_false (by decide)) (cap:=[.p (H.length+0) 0,.p (H.length+1) 0]) (gS:=hdS bs) hl (fun x y e=>by simpa using e) L0 hhX fun k H2 st2 m id hk e hh2 q=>XRn hl hX0 (by omega) hk e hh2 q
 have hmax:bs.length<=maxLen:=by unfold maxLen;omega
 have hob:=L1.ob
 have hmax':k<=maxLen:=by omega
 have hm2:m.map (·.2)=m.map (·.1):=List.map_congr_left fun e he=>by
  have:=(L1.rows e he X' (Nat.le_refl _) fun _ _ _=>rfl).1
  exact (Option.some.inj this).symm
 have hml:(m.map (·.1)).length<=maxLen:=by rw[List.length_map,L1.len];omega
 refine ⟨⟨apS zEN id (m.map (·.1)),zMR _ _⟩,X',?_,hhX',L1.ri,?_,fun H'' g1 g2=>?_⟩
 ·have gl:ldV X' none (.p (H.length+1) 0)=some (apS zEN id (m.map (·.1))):=qGa hob rfl
  have gs:stV X' none (.p (H.length+1) 0) (apS zEN id (m.map (·.1)))=some X':=by
   have o1:(apS zEN id (m.map (·.1))).one=true:=by unfold apS;split <;> rfl
   simp only[stV,stB,hob,o1,if_true]
   rw[if_pos ⟨by simp,by simp [wrOk,o1]⟩]
   congr 1
   refine List.ext_getElem? fun q=>?_
   rw[List.getElem?_set]
   split
   ·rename_i hq
    subst hq
    rw[if_pos (List.getElem?_eq_some_iff.1 hob).1,hob]
    rfl
   ·rfl
  refine FnAt.c (FnAt.run (by kernel_rfl) (T:=⟨[⟨102,T1 [.p xi 0,.f (.func 206) [] [.p (H.length+0) 0,.p (H.length+1) 0]] X (.tu []) X',fun _=>[]⟩],[]⟩) ⟨⟨Y2x c1,trivial⟩,trivial⟩ Tryz.func106 zSk fun _ _=>?_)
  have t1:T1 [.p xi 0,.f (.func 206) [] [.p (H.length+0) 0,.p (H.length+1) 0]] X (.tu []) X' [.p xi 0,.f (.func 206) [] [.p (H.length+0) 0,.p (H.length+1) 0]] (H++[.blk false true [.p xi 0],.blk false true [.ns]])=some (.tu [],X'):=by
   rw[<-hX]
   exact YEj _ _ _ _
  have hxT:=eq_true hxl
  unfold w106
  simp only[z49,Qs3,XtK,K1H,JS3,simprocAttr,CO.tmps,Opd.tmps,optT,gl,gs,t1,hxT,if_true,List.getElem?_cons_zero,List.getElem?_cons_succ,oD,ne_eq,forall_const]
  exact Bt.refl _ _ _
 ·refine ⟨by have:=L1.fr.le;omega,fun q q1 q2=>?_⟩
  rw[L1.fr.eq q (by omega) (by simp only[List.mem_cons,List.not_mem_nil,or_false,not_or]at q2 ⊢;omega),hX,List.getElem?_append_left q1]
 ·rw[e1,hm2]
  exact L1.stay hmax' (by omega) H'' g1 g2
end
section
set_option maxRecDepth 100000
set_option maxHeartbeats 8000000
theorem JNy {a o n:Nat} {G:List AB} {fl m:Bool} {xs vs:List AV} (e:G[a]?=some (.blk fl m xs)) (hl:o+n<=xs.length) (ev:(xs.drop o).take n=vs):ldV G (some n) (.p a o)=some (.ag vs):=by
 simp only[ldV,QKY e,Option.bind_some]
 rw[if_pos hl,ev]
theorem JqM {a o:Nat} {G:List AB} {xs vs:List AV} {v:AV} (e:G[a]?=some (.blk false true xs)) (ho:o<xs.length) (hv:v.one=true) (ev:over xs o [v]=vs):stV G none (.p a o) v=some (G.set a (.blk false true vs)):=by
 simp only[stV,stB,e,hv,if_true]
 rw[if_pos ⟨by simp only[List.length_cons,List.length_nil];omega,by simp [wrOk,hv]⟩,ev]
theorem SlA.one' (x:SlA):x.a.one=true:=by
 obtain ⟨a,h⟩:=x
 cases a <;> first|rfl|cases h
section
variable {h H:List AB} {i j xi a1 a2 x:Nat} {s:AV} {bs:List UInt8}
theorem XT2 (hl:bs.length<=1000000) {m1 f1 m2 f2:Bool} (ha1:h[a1]?=some (.blk f1 m1 [.p i 0])) (n1:a1≠i/\a1≠j/\a1≠xi/\a1≠x) (ha2:h[a2]?=some (.blk f2 m2 [.p xi 0])) (n2:a2≠i/\a2≠j/\a2≠xi/\a2≠x) {nm:List UInt8} {k:Nat} {st:RFt} {m:List (TagA×TgD)} {id:Nat} (hk:k<bs.length) (e:LR tagD false i j xi s bs x (fun v=>[.s nm,v,.ns]) h k H st m id) (hh:HOk H) (q:¬flsV st) :
  ∃H',FnC Tryz.prog 105 [.p a1 0,.p a2 0,.p x 0] H (.tu []) H'/\HOk H'/\∃m' id',LR tagD false i j xi s bs x (fun v=>[.s nm,v,.ns]) h (k+1) H' (tgS bs st).2 m' id'/\m'.map (·.2)=m.map (·.2)++[(tgS bs st).1]:=by
 have ri:=e.ri
 have hle:=e.fr.le
 have hb:=e.b0
 obtain ⟨hf,hv⟩:=zSM q
 have hlt1:a1<h.length:=(List.getElem?_eq_some_iff.1 ha1).1
 have hlt2:a2<h.length:=(List.getElem?_eq_some_iff.1 ha2).1
 have ha1H:H[a1]?=some (.blk f1 m1 [.p i 0]):=by
  rw[e.fr.eq a1 hlt1 (by simp only[List.mem_cons,List.not_mem_nil,or_false,not_or];exact n1)]
  exact ha1
 have ha2H:H[a2]?=some (.blk f2 m2 [.p xi 0]):=by
  rw[e.fr.eq a2 hlt2 (by simp only[List.mem_cons,List.not_mem_nil,or_false,not_or];exact n2)]
  exact ha2
 obtain ⟨slc,hslc⟩:∃slc,slc=apS tagD.r id (m.map (·.1)):=⟨_,rfl⟩
 have obH:=e.ob
 rw[<-hslc]at obH
 obtain ⟨t,y,hty⟩:∃t y,JrE bs st.1 64=(t,y):=⟨_,_,rfl⟩
 have ok1:RFok bs (y,st.2):=by
  have:=XFH ri.ok hf 64
  rw[hty]at this
  exact this
 have e2:tgS bs st=(⟨t,(seqS bs (hdS bs) (y,st.2)).1⟩,(seqS bs (hdS bs) (y,st.2)).2):=by unfold tgS;rw[hty]
 rw[e2]
 obtain ⟨X,hX⟩:∃X,X=rB H i j s y++[.blk false true [.s t,.ns]]:=⟨_,rfl⟩
 have xl:X.length=H.length+1:=by rw[hX,List.length_append,Kz5];rfl
 have riX:RI i j xi s bs (y,st.2) X:=by rw[hX];exact (ri.rB ok1).app _
 have hok:=qC8 hh ri.hi
 have hhX:HOk X:=by
  rw[hX]
  refine (qMc ri.R hok hh y).app1 fun B hB=>?_
  simp only[List.mem_cons,List.not_mem_nil,or_false]at hB
  rw[hB]
  simp only[AB.ok,ZiP,q0E,ok_s,Bool.true_and]
  rfl
 obtain ⟨sl,X',c1,hhX',riX',frX,stX⟩:=Q0d hl riX hhX
 obtain ⟨st2,hst2⟩:∃st2,st2=(seqS bs (hdS bs) (y,st.2)).2:=⟨_,rfl⟩
 obtain ⟨ls,hls⟩:∃ls,ls=(seqS bs (hdS bs) (y,st.2)).1:=⟨_,rfl⟩
 rw[<-hst2]at riX' ⊢
 rw[<-hls]at stX ⊢
 have hil:=ri.R.hi
 have hjl:=ri.R.hj
 have hxl:=ri.xlt
 have xle:=frX.le
 have gX:X'[H.length+0]?=some (.blk false true [.s t,.ns]):=by
  rw[frX.eq (H.length+0) (by omega) (by simp only[List.mem_cons,List.not_mem_nil,or_false,not_or];omega),hX,List.getElem?_append_right (by rw[Kz5];omega),Kz5,Nat.add_sub_cancel_left]
  rfl
 obtain ⟨X2,hX2⟩:∃X2,X2=X'.set (H.length+0) (.blk false true [.s t,sl.a]):=⟨_,rfl⟩
 have x2l:X2.length=X'.length:=by rw[hX2,List.length_set]
 have x2o:∀q,q≠H.length->X2[q]?=X'[q]?:=fun q hq=>by rw[hX2,List.getElem?_set_ne (by omega)]
 have gX2:X2[H.length+0]?=some (.blk false true [.s t,sl.a]):=by rw[hX2,List.getElem?_set_self (by omega)]
 obtain ⟨B,hB⟩:∃B,B=AB.blk false true [.s t,sl.a]:=⟨_,rfl⟩
 have frH:Fr [i,j,xi] H (X2++[B]):=⟨by rw[List.length_append];omega,fun q q1 q2=>by
  rw[List.getElem?_append_left (by omega),x2o q (by omega),frX.eq q (by omega) q2,hX]
  simp only[List.mem_cons,List.not_mem_nil,or_false,not_or]at q2
  exact zV3 q2.1 q2.2.1 q1 _⟩
 have ri2:RI i j xi s bs st2 (X2++[B]):=(riX'.oth (H':=X2) (by omega) fun q hq=>x2o q (by
  rcases hq with z|z|z|z
  ·omega
  ·omega
  ·omega
  ·have:=ri.R.lt q z
   omega)).app _
 have L1:=e.to frH ri2
 have P1:=L1.push (Hs:=H) (fun hm=>e.idlt hm) ⟨t,sl⟩ ⟨t,ls⟩ (fun H' g1 g2=>by
  rw[List.length_append]at g1 g2
  have hx':=stX H' (by omega) fun k k1 k2=>(g2 k (by omega) (by omega)).trans (by
   unfold zZU
   rw[List.getElem?_append_left (by omega),x2o k (by omega)])
  refine ⟨Qaj hx'.1,?_⟩
  show okL _ (tagR.f ⟨t,sl⟩)=true
  rw[q2E]
  simp only[ZiP,q0E,ok_s,Bool.true_and,Bool.and_true]
  exact hx'.2) hle
 have slo:=(stX X' (Nat.le_refl _) fun _ _ _=>rfl).2
 have hh2:HOk X2:=by
  rw[hX2]
  refine hhX'.set1 ?_
  simp only[AB.ok,ZiP,q0E,ok_s,Bool.true_and,Bool.and_true]
  exact slo
 have slo2:∀n,X'.length<=n->okL (fun i=>decide (i<n)) (tagR.f ⟨t,sl⟩)=true:=fun n hn=>by
  rw[q2E]
  simp only[ZiP,q0E,ok_s,Bool.true_and,Bool.and_true]
  exact AV.ok_mono (fun i z=>by simp only[decide_eq_true_eq]at z ⊢;omega) sl.a slo
 have hh3:HOk (X2++[B]):=hh2.app1 fun C hC=>by
  simp only[List.mem_cons,List.not_mem_nil,or_false]at hC
  rw[hC,hB]
  simp only[AB.ok]
  exact slo2 _ (by omega)
 have P2:=L1.push_ok hh3 (fun q v w h1 hw=>by simp only[ZiP,q0E,ok_s,hw,Bool.and_true,Bool.true_and];rfl) (a:=⟨t,sl⟩) (slo2 _ (by rw[List.length_append];omega)) (some tagD.r.sz)
 rw[<-hslc,QMV]at P1 P2
 refine ⟨_,?_,P2,_,_,P1,by rw[List.map_append];rfl⟩
 refine FnAt.c (FnAt.run (by kernel_rfl) (T:=⟨[⟨104,JRM,fun _=>[]⟩,⟨106,T1 [.p xi 0] X sl.a X',fun _=>[]⟩],[]⟩) ⟨⟨KPa,Y2x c1,trivial⟩,trivial⟩ Tryz.func105 Jlc fun _ _=>?_)
 have e0:H++[]=rB H i j s st.1++[]:=by rw[ri.asis]
 rw[e0]
 have f4:=fun x=>Zuy (x:=x) ri.R
 have rl:∀y,(rB H i j s y).length=H.length:=fun y=>Kz5
 have ga1:∀y L,ldV (rB H i j s y++L) none (.p a1 0)=some (.p i 0):=fun y L=>qGa ((zV3 n1.1 n1.2.1 (by omega) L).trans ha1H) rfl
 have ga2:∀y L,ldV (rB H i j s y++L) none (.p a2 0)=some (.p xi 0):=fun y L=>qGa ((zV3 n2.1 n2.2.1 (by omega) L).trans ha2H) rfl
 have r0:=qdK ri.R ri.pos
 have g2:=eq_true hl
 have t1:T1 [.p xi 0] X sl.a X' [.p xi 0] (rB H i j s y++[.blk false true [.s t,.ns]])=some (sl.a,X'):=by
  rw[<-hX]
  exact YEj _ _ _ _
 have so:=sl.one'
 have s1:stV X' none (.p (H.length+0) 1) sl.a=some X2:=by
  rw[hX2]
  exact JqM gX (by simp) so rfl
 have obX2:X2[x]?=some (.blk false true [.s nm,slc,.ns]):=by
  have:=L1.ob
  rw[List.getElem?_append_left (by omega),<-hslc]at this
  exact this
 have d1:ldV X2 none (.p x 1)=some slc:=qGa obX2 rfl
 have d2:ldV X2 (some 2) (.p (H.length+0) 0)=some (.ag [.s t,sl.a]):=JNy gX2 (by simp) rfl
 have fapp:∀ys,appW (X2++[B]) false 2 40 slc 1 ys=some (.sl (X2++[B]).length 0 (k+1) (k+1) (some 2),qBs slc (X2++[B])++[.blk false true (tagR.cells (m.map (·.1))++ys)]):=fun ys=>by
  rw[hslc]
  exact L1.app (D:=tagD) rfl ys (by omega) (by unfold maxLen;omega)
 subst hB
 have sv:srcV (X2++[.blk false true [.s t,sl.a]]) 2 (.sl X2.length 0 1 1 none)=some (1,[.s t,sl.a]):=by
  have:=YBM (h:=X2) [.blk false true [.s t,sl.a]] 0 0 1 1 2 none
  rw[Nat.add_zero]at this
  rw[this]
  rfl
 have sw:[AV.s t,sl.a].all (wrOk false)=true:=Z4X ⟨t,sl⟩
 have stb:∀N v,stV (qBs slc (X2++[.blk false true [.s t,sl.a]])++[N]) none (.p x 1) v=if v.one=true then some ((qBs slc (X2++[.blk false true [.s t,sl.a]])).set x (.blk false true [.s nm,v,.ns])++[N]) else none:=fun N v=>by
  have hbl:x<(qBs slc (X2++[.blk false true [.s t,sl.a]])).length:=by rw[JA8,List.length_append];omega
  have g:(qBs slc (X2++[.blk false true [.s t,sl.a]])++[N])[x]?=some (.blk false true [.s nm,slc,.ns]):=by
   rw[List.getElem?_append_left hbl,hslc]
   exact YIu L1
  split
  ·rename_i hv
   rw[JqM g (by simp) hv rfl,List.set_append_left _ _ hbl]
   rfl
  ·rename_i hv
   simp only[stV]
   rw[if_neg hv]
 unfold w105
 simp only[z49,Qs3,XtK,K1H,JS3,simprocAttr,CO.tmps,Opd.tmps,optT,qRn,qSM,YNH,KMT,XrP,zEY,zrQ,rl,f4,ga1,ga2,r0,g2,hty,t1,so,s1,d1,d2,sv,sw,fapp,stb,JRM,Option.bind_some,List.getElem?_cons_zero,List.getElem?_cons_succ,oD,ne_eq,forall_const]
 exact Bt.refl _ _ _
end
end
end Go.Proofs.YtekeoichmdiiiaaGreat
