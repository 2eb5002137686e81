/- Part 33 of what the laws' proofs rest on. No condition. -/
import Derived.Test.YtekeoichmdiiiaaGreatTh32
set_option linter.all false
namespace Go.Proofs.YtekeoichmdiiiaaGreat
section
set_option maxRecDepth 100000
set_option maxHeartbeats 8000000
def wVc (lim:Int) (st:List UInt8×Int) (v:List Int):List UInt8×Int:=wput lim st.1 st.2 (qkv v.length++qBw v) (decide (¬ ∃x∈v,x<0))
def wTg (lim:Int) (st:List UInt8×Int) (g:TgD):List UInt8×Int:=wHn lim (wTx lim st g.name) g.held
def wTs (lim:Int) (st:List UInt8×Int) (l:List TgD):List UInt8×Int:=l.foldl (wTg lim) st
def wRp (lim:Int) (st:List UInt8×Int) (r:RpD):List UInt8×Int:=wHn lim (wTs lim (wN lim (wTx lim st r.name) r.tags.length) r.tags) r.mans
def wRs (lim:Int) (st:List UInt8×Int) (l:List RpD):List UInt8×Int:=l.foldl (wRp lim) st
theorem ZO9 (v:List Int):FOk fun lim st=>wVc lim st v:=⟨fun lim st h=>zvB _ _ _ _ _ h,fun lim st=>JLo _ _ _ _⟩
theorem QK8 (g:TgD):FOk fun lim st=>wTg lim st g:=(z3a _).seq (Xgc _)
theorem XD2:∀l:List TgD,FOk fun lim st=>wTs lim st l
 | []=>Zon
 | x::l=>(QK8 x).seq (XD2 l)
theorem QEL (r:RpD):FOk fun lim st=>wRp lim st r:=(((z3a r.name).seq (zX3 r.tags.length)).seq (XD2 r.tags)).seq (Xgc r.mans)
theorem XsC:∀l:List RpD,FOk fun lim st=>wRs lim st l
 | []=>Zon
 | x::l=>(QEL x).seq (XsC l)
theorem XhB (lim:Int) (st:List UInt8×Int) (L:List TgD) {k:Nat} (hk:k<L.length):wTs lim st (L.take (k+1))=wTg lim (wTs lim st (L.take k)) L[k]:=by
 unfold wTs
 rw[List.take_succ_eq_append_getElem hk,List.foldl_append]
 rfl
theorem zvf (lim:Int) (st:List UInt8×Int) (L:List RpD) {k:Nat} (hk:k<L.length):wRs lim st (L.take (k+1))=wRp lim (wRs lim st (L.take k)) L[k]:=by
 unfold wRs
 rw[List.take_succ_eq_append_getElem hk,List.foldl_append]
 rfl
section
variable {lim:Int} {r:List UInt8×Int} {t:List UInt8}
theorem WS.hd (h:WS lim r t) {x:Hd} (h0:0<=x.1.1) (h1:0<=x.1.2):WS lim (wHd lim r x) (t++qq2 x):=by
 have a:=h.put (qkv x.1.1++qkv x.1.2)
 have e:wDt lim r x.1=wput lim r.1 r.2 (qkv x.1.1++qkv x.1.2) true:=by unfold wDt;rw[decide_eq_true ⟨h0,h1⟩]
 rw[<-e]at a
 have b:=a.id x.2.l
 unfold wHd qq2
 simpa [List.append_assoc] using b
theorem WS.hs:∀(l:List Hd) {r:List UInt8×Int} {t:List UInt8},WS lim r t->(∀x∈l,0<=x.1.1/\0<=x.1.2)->WS lim (wHs lim r l) (t++l.flatMap qq2)
 | [],_,t,h,_=>by simpa [wHs] using h
 | x::l,_,t,h,hd=>by
  have:=WS.hs l (h.hd (hd x List.mem_cons_self).1 (hd x List.mem_cons_self).2) fun y hy=>hd y (List.mem_cons_of_mem _ hy)
  simpa [wHs,List.append_assoc] using this
theorem WS.hn (h:WS lim r t) {l:List Hd} (hd:∀x∈l,0<=x.1.1/\0<=x.1.2):WS lim (wHn lim r l) (t++encL qq2 l):=by
 have:=WS.hs l (h.num (n:=(l.length:Nat)) (by omega)) hd
 unfold wHn encL
 simpa [List.append_assoc] using this
theorem WS.tg (h:WS lim r t) {g:TgD} (hd:∀x∈g.held,0<=x.1.1/\0<=x.1.2):WS lim (wTg lim r g) (t++YvM g):=by
 have:=(h.txt g.name).hn hd
 unfold wTg YvM qMO
 simpa [List.append_assoc] using this
theorem WS.ts:∀(l:List TgD) {r:List UInt8×Int} {t:List UInt8},WS lim r t->(∀g∈l,∀x∈g.held,0<=x.1.1/\0<=x.1.2)->WS lim (wTs lim r l) (t++l.flatMap YvM)
 | [],_,t,h,_=>by simpa [wTs] using h
 | x::l,_,t,h,hd=>by
  have:=WS.ts l (h.tg (hd x List.mem_cons_self)) fun y hy=>hd y (List.mem_cons_of_mem _ hy)
  simpa [wTs,List.append_assoc] using this
def posR (r:RpD):Prop:=(∀g∈r.tags,∀x∈g.held,0<=x.1.1/\0<=x.1.2)/\∀x∈r.mans,0<=x.1.1/\0<=x.1.2
theorem WS.rp (h:WS lim r t) {x:RpD} (hd:posR x):WS lim (wRp lim r x) (t++Jpu x):=by
 have:=(WS.ts x.tags ((h.txt x.name).num (n:=(x.tags.length:Nat)) (by omega)) hd.1).hn hd.2
 unfold wRp Jpu qMO encL
 unfold encL at this
 simpa [List.append_assoc] using this
theorem WS.rs:∀(l:List RpD) {r:List UInt8×Int} {t:List UInt8},WS lim r t->(∀g∈l,posR g)->WS lim (wRs lim r l) (t++l.flatMap Jpu)
 | [],_,t,h,_=>by simpa [wRs] using h
 | x::l,_,t,h,hd=>by
  have:=WS.rs l (h.rp (hd x List.mem_cons_self)) fun y hy=>hd y (List.mem_cons_of_mem _ hy)
  simpa [wRs,List.append_assoc] using this
theorem J6J {t:TbD} (hv:∀x∈t.v,0<=x) (hr:∀r∈t.repos,posR r) (hl:((encT t).length:Int)<=lim) (h0:0<=lim):wRs lim (wN lim (wVc lim ([],0) t.v) t.repos.length) t.repos=(encT t,0):=by
 have w0:WS lim ([],0) []:=.inl ⟨rfl,by simpa using h0⟩
 have a:=w0.put (qkv t.v.length++qBw t.v)
 have e:wVc lim ([],0) t.v=wput lim ([]:List UInt8) 0 (qkv t.v.length++qBw t.v) true:=by
  unfold wVc
  rw[decide_eq_true]
  rintro ⟨x,hx,q⟩
  have:=hv x hx
  omega
 rw[<-e]at a
 have b:=WS.rs t.repos (a.num (n:=(t.repos.length:Nat)) (by omega)) hr
 have e2:[]++(qkv t.v.length++qBw t.v)++qkv (t.repos.length:Int)++t.repos.flatMap Jpu=encT t:=by
  unfold encT encL
  simp [List.append_assoc]
 rw[e2]at b
 rcases b with b|b
 ·exact b.1
 ·have:=b.2
  omega
end
theorem KvU {t:TbD} (h:chkT t=0):(∀x∈t.v,0<=x/\x<=1048576)/\(∀r∈t.repos,∀x∈qEk r,1<=x.held.1.1/\x.held.1.1<=16/\1<=x.held.1.2/\x.held.1.2<=1048576):=by
 obtain ⟨hv,_,hf⟩:=Qbs.1 h
 refine ⟨hv.2.2,fun r hr x hx=>?_⟩
 have hh:=hf.vec x (Yg4.2 ⟨r,hr,hx⟩)
 obtain ⟨a,b,c⟩:=hh
 have hn:=hv.2.1
 unfold atV at c
 split at c
 ·omega
 ·rename_i q
  have hlt:(x.held.1.1-1).toNat<t.v.length:=by omega
  have hm:t.v.getD (x.held.1.1-1).toNat 0∈t.v:=by
   rw[List.getD_eq_getElem?_getD,List.getElem?_eq_getElem hlt]
   exact List.getElem_mem hlt
  have:=hv.2.2 _ hm
  omega
theorem ZqD {t:TbD} (h:chkT t=0) {r:RpD} (hr:r∈t.repos):(∀g∈r.tags,∀x∈g.held,1<=x.1.1/\x.1.1<=16/\1<=x.1.2/\x.1.2<=1048576)/\∀x∈r.mans,1<=x.1.1/\x.1.1<=16/\1<=x.1.2/\x.1.2<=1048576:=by
 have:=(KvU h).2 r hr
 exact ⟨fun g hg x hx=>this ⟨r.name,g.name,false,x⟩ (List.mem_append_left _ (Qn2.2 ⟨g,hg,x,hx,rfl⟩)),fun x hx=>this ⟨r.name,[],true,x⟩ (List.mem_append_right _ (KZf.2 ⟨x,hx,rfl⟩))⟩
theorem WrH.done {h:List AB} {i j:Nat} {lim:Int} {s:AV} {bs:List UInt8} (H:WrH h i j lim s bs 0) (hl:bs.length<=1000000):Jhs [.p i 0] h=some (.tu [rsl X0d h.length bs,.i .i64 0],h++[resB X0d true bs]):=by
 have g:getS X0d h s=some bs:=by
  rcases H.hs with ⟨q1,q2⟩|⟨q,q1,q2,q3⟩
  ·rw[q1,q2,QXw]
  ·rw[q1]
   exact (KKk (m:=true) q3 (by unfold maxLen;omega)).get
 have w:wtr h i=some (j,lim,s,0,0):=by
  unfold wtr
  rw[H.hi]
  show (match zZU h j with|some [.i .i64 e,.i .i64 a]=>some (j,lim,s,e,a)|_=>none)=_
  rw[rd_j H]
 simp only[Jhs,w,Option.bind_some,g,if_pos hl,if_true]
open Classical in
noncomputable def zbU:List AV->List AB->Option (AV×List AB)
 | [a],h=>(getT h a).bind fun t=>if BdT t/\(encT t).length<=1000000 then (if chkT t=0 then some (.tu [rsl X0d h.length (encT t),.i .i64 0],h++[resB X0d true (encT t)]) else some (.tu [.ns,.i .i64 (chkT t)],h)) else none
 | _,_=>none
open Classical in
theorem QeA:Spec Tryz.prog 14 zbU:=by
 intro args h v h' e
 unfold zbU at e
 split at e
 ·obtain ⟨v1,s1,n1,m,rfl,ha,e2⟩:=JfV e
  clear e
  split at e2
  case isFalse=>cases e2
  rename_i hB
  obtain ⟨hB,hL⟩:=hB
  have gT:∀L,getT (h++L) (.ag [v1,s1])=some ⟨n1,m.map (·.2)⟩:=fun L=>(ha.app L).get
  have hBt:=eq_true hB
  have c1:∀l:List AV,(AV.ag l).cells=l:=fun _=>rfl
  have vone:=Zcq ha.v.isSl
  have sone:=Zcq ha.s.s.isSl
  split at e2
  case isFalse =>
   rename_i hc
   cases e2
   refine FnAt.c (FnAt.run (by kernel_rfl) (T:=⟨[⟨18,YeC,fun _=>[]⟩],[]⟩) ⟨⟨qha,trivial⟩,trivial⟩ Tryz.func14 sw14 fun ho hh=>?_)
   have hc':=eq_false hc
   unfold w14
   simp only[z49,Qs3,XtK,K1H,JS3,simprocAttr,CO.tmps,Opd.tmps,optT,YeC,gT,hBt,hc',c1,vone,sone,Option.bind_some,if_true,oD,ne_eq,forall_const]
   exact Bt.drop _ hh rfl rfl
  rename_i hc
  cases e2
  refine FnAt.c (FnAt.run (by kernel_rfl) (T:=⟨[⟨18,YeC,fun _=>[]⟩,⟨68,JK7,fun _=>[]⟩,⟨69,Kir,fun _=>[]⟩,⟨70,XoS,fun _=>[]⟩,⟨71,JqN,fun _=>[]⟩,⟨72,zCa,fun _=>[]⟩,⟨73,Jhs,fun _=>[]⟩],[]⟩) ⟨⟨qha,z8R,ZVY,Yy2,KtZ,Zbk,qih,trivial⟩,trivial⟩ Tryz.func14 sw14 fun ho hh=>?_)
  simp only[ZiP,q0E,JL2,Bool.and_eq_true,and_true]at ho
  obtain ⟨ov,os⟩:=ho
  have hp1:=KvU hc
  have hp2:=fun r hr=>ZqD hc (r:=r) hr
  have hc':=eq_true hc
  obtain ⟨H0,hH0⟩:∃H0,H0=h++[.blk false true [v1,s1],blkW (h.length+2) 67108864 .ns,blkF 0]:=⟨_,rfl⟩
  have hl0:H0.length=h.length+3:=by rw[hH0,List.length_append];rfl
  have W:WrH H0 (h.length+1) (h.length+2) 67108864 .ns [] 0:=⟨by rw[hH0,JNS];rfl,by rw[hH0,JNS];rfl,by decide,by decide,.inl ⟨rfl,rfl⟩⟩
  have hh0:HOk H0:=by
   rw[hH0,Kvx hh]
   simp only[List.all_cons,List.all_nil,blkW,blkF,AB.ok,ZiP,q0E,ok_p,ok_i,KE7,Bool.and_true,Bool.and_eq_true,decide_eq_true_eq,List.length_cons,List.length_nil]
   exact ⟨⟨AV.ok_mono (fun i q=>by simp only[decide_eq_true_eq]at q ⊢;omega) v1 ov,AV.ok_mono (fun i q=>by simp only[decide_eq_true_eq]at q ⊢;omega) s1 os⟩,by omega⟩
  have ha0:RdT H0 v1 s1 n1 m:=by rw[hH0];exact ha.app _
  have bvn:n1.length<=100000:=by have:=(Qbs.1 hc).1.2.1;dsimp only at this;omega
  have bvc:(n1.length<=100000/\∀x∈n1,In64 x)=True:=eq_true ⟨bvn,fun x hx=>by have:=hp1.1 x hx;unfold In64;omega⟩
  have gv:getS intR H0 v1=some n1:=ha0.v.get
  obtain ⟨k0,R0,q0,I0,b0,_,_⟩:=Ynn W (st:=([],0)) (k:=none) (R:=[]) rfl W.hlen (qkv n1.length++qBw n1) (decide (¬ ∃x∈n1,x<0))
  obtain ⟨k1,R1,q1,I1,b1,_,_⟩:=Ynn W I0 b0 (qkv (m.length:Int)) true
  rw[wX_0 W]at q0
  simp only[List.append_nil]at q0
  dsimp only at q0 q1 I0 I1 b0 b1
  have hE:h++[.blk false true [v1,s1],.blk false true [.p (h.length+2) 0,.i .i64 67108864,.ns],.blk true true [.i .i64 0,.i .i64 0]]=H0:=by rw[hH0];rfl
  have q0':=(congrArg (fun G=>wPut G (h.length+1) (qkv n1.length++qBw n1) (decide (¬ ∃x∈n1,x<0))) hE).trans q0
  have gv':getS intR (h++[.blk false true [v1,s1],.blk false true [.p (h.length+2) 0,.i .i64 67108864,.ns],.blk true true [.i .i64 0,.i .i64 0]]) v1=some n1:=by rw[hE];exact gv
  have hml:=hB.repos
  rw[List.length_map]at hml
  have l64:(In64 (m.length:Int))=True:=eq_true (by unfold In64;omega)
  have hX:=fun st k=>XqL (h:=H0) (i:=h.length+1) (j:=h.length+2) (lim:=67108864) (s:=.ns) st k
  have lbx:∀st k R o,ldV (wX H0 (h.length+1) (h.length+2) 67108864 .ns st k++R) none (.p (h.length+0) o)=[v1,s1][o]?:=fun st k R o=>by
   have:zZU (wX H0 (h.length+1) (h.length+2) 67108864 .ns st k++R) (h.length+0)=some [v1,s1]:=by
    refine Qbo st k R ?_ ⟨by omega,by omega,by simp [idOf]⟩
    unfold zZU
    rw[hH0,JNS]
    rfl
   simp only[ldV,this,Option.bind_some]
  have sstr:=QP8 ha.s.s.isSl
  have slen:=ha.s.s.len
  rw[List.length_map]at slen
  have hsl:=ha0.s.s
  rw[XBQ]at hsl
  have siad:∀k n,iadV 3 s1 (.i k n)=if 0<=n/\n<(m.length:Int) then some (elP 3 s1 n.toNat 0) else none:=fun k n=>by
   have:=hsl.iad k n
   rwa [List.length_map]at this
  have sld:∀st k R n,n<m.length->ldV (wX H0 (h.length+1) (h.length+2) 67108864 .ns st k++R) (some 3) (elP 3 s1 n 0)=some (.ag (repR.f ((m.map (·.1)).getD n repR.d))):=fun st k R n hn=>(ZVz (lim:=67108864) (i:=h.length+1) (j:=h.length+2) (s:=.ns) st k R hsl (Xxf W hsl fun x=>⟨x.name,rfl⟩)).lda n (by rw[List.length_map];exact hn)
  have sok:∀c,s1.ok (fun i=>decide (i<H0.length+c))=true:=fun c=>AV.ok_mono (fun i q=>by simp only[decide_eq_true_eq]at q ⊢;omega) s1 os
  have sok0:s1.ok (fun i=>decide (i<H0.length))=true:=sok 0
  have sor:∀sel,Wk (s1.ren (selN H0.length sel)) s1:=fun sel=>Wk.ren (fun i hi=>qMB hi) sok0
  have pi1:∀sel,selN H0.length sel (h.length+1)=h.length+1:=fun sel=>qMB (by omega)
  have pi2:∀c,(h.length+1<H0.length+c)=True:=fun c=>eq_true (by omega)
  have pi3:(h.length+1<H0.length)=True:=eq_true (by omega)
  obtain ⟨f,hfd⟩:∃f:Nat->List UInt8×Int,f=fun n=>wRs 67108864 (wN 67108864 (wVc 67108864 ([],0) n1) m.length) ((m.map (·.2)).take n):=⟨_,rfl⟩
  have hf:∀n,FOk fun lim st=>wRs lim (wN lim (wVc lim st n1) m.length) ((m.map (·.2)).take n):=fun n=>((ZO9 n1).seq (zX3 _)).seq (XsC _)
  have hfl:∀n,((f n).1.length:Int)<=67108864:=fun n=>by rw[hfd];exact (hf n).le 67108864 ([],0) (by decide)
  have hfg:∀n,(f n).1=[]\/([]:List UInt8).length<(f n).1.length:=fun n=>by rw[hfd];exact (hf n).grow 67108864 ([],0)
  have hf0:f 0=wput 67108864 (wVc 67108864 ([],0) n1).1 (wVc 67108864 ([],0) n1).2 (qkv (m.length:Int)) true:=by
   rw[hfd]
   show wput 67108864 (wVc 67108864 ([],0) n1).1 (wVc 67108864 ([],0) n1).2 (qkv (m.length:Int)) (decide ((0:Int)<=m.length))=_
   rw[decide_eq_true (by omega)]
  unfold w14
  simp only[z49,Qs3,XtK,K1H,JS3,simprocAttr,CO.tmps,Opd.tmps,optT,YeC,gT,hBt,hc',c1,vone,sone,JK7,Kir,gv',bvc,q0',XoS,l64,lbx,q1,sstr,slen,List.getElem?_cons_zero,List.getElem?_cons_succ,decide_true,decide_false,ne_eq,not_false_eq_true,not_true_eq_false,false_implies,forall_const,and_true,true_and,Option.bind_some,if_true]
  have I1':WInv 0 [] (f 0) R1 k1:=by rw[hf0];exact I1
  rw[show wput 67108864 (wput 67108864 [] 0 (qkv n1.length++qBw n1) (decide (¬ ∃x∈n1,x<0))).1 (wput 67108864 [] 0 (qkv n1.length++qBw n1) (decide (¬ ∃x∈n1,x<0))).2 (qkv (m.length:Int)) true=f 0 from hf0.symm]
  refine JLk (S:=Nat) (fun n=>m.length-n) (fun n=>tp 5++[.p (h.length+1) 0]++tp 24++[s1,.i .i64 (m.length:Int),.i .i64 (n:Int)]++tp 37) (fun n=>wOuD H0 (h.length+1) (h.length+2) 67108864 .ns [] [] (f n)) (fun n=>n<=m.length) 0 (Nat.zero_le _) ?_ fun n hn=>?_
  ·refine Bt.low (p':=H0.length) (Zhe W hh0 I1' [] rfl (fun m hm=>by cases hm) (by simp) (fun x=>trivial) (fun x=>by simp only[tp_0,tp_s,List.cons_append,List.nil_append,Ztz,FrSel,BlkSel,AV.ren,renL,AV.ok,okL,Option.some.injEq,exists_eq_left',List.length_cons,List.length_nil,Nat.reduceAdd,Nat.reduceLT,reduceCtorEq,implies_true,exists_eq',sok,sok0,sor,pi1,pi2,pi3,Int.natCast_zero])) (by show h.length<=H0.length;omega) (by rw[List.length_append,hX];omega)
  by_cases g:n<m.length
  rotate_left
  ·have g':((n:Int)<(m.length:Int))=False:=eq_false (by omega)
   have hfn:f n=(encT ⟨n1,m.map (·.2)⟩,0):=by
    rw[hfd]
    show wRs 67108864 (wN 67108864 (wVc 67108864 ([],0) n1) m.length) ((m.map (·.2)).take n)=_
    rw[List.take_of_length_le (by rw[List.length_map];omega)]
    have:=J6J (t:=⟨n1,m.map (·.2)⟩) (lim:=67108864) (fun x hx=>(hp1.1 x hx).1) (fun r hr=>⟨fun g hg x hx=>by have:=(hp2 r hr).1 g hg x hx;omega,fun x hx=>by have:=(hp2 r hr).2 x hx;omega⟩) (by omega) (by decide)
    dsimp only at this
    rwa [List.length_map]at this
   obtain ⟨k,c0,hR,I,hkz,hc0⟩:=KKc (h:=H0) (i:=h.length+1) (j:=h.length+2) (lim:=67108864) (s:=.ns) (bs:=[]) [] (f n) (hfg n)
   have W2:=KnG W (d:=0) (k:=k) (L:=[c0]) (by simpa using I) (hfl n)
   rw[hR]
   rw[hfn]at W2 ⊢
   have dn:=W2.done hL
   obtain ⟨X,Y,hXY⟩:∃X Y,wX H0 (h.length+1) (h.length+2) 67108864 .ns (encT ⟨n1,m.map (·.2)⟩,0) k=h++[.blk false true [v1,s1],X,Y]:=by
    cases k with
    | none=>exact ⟨_,_,by simp only[wX];rw[hH0,KSf];rfl⟩
    | some k=>exact ⟨_,_,by simp only[wX,qBs];rw[hH0,KSf,KSf];rfl⟩
   simp only[List.nil_append]
   rw[hXY]at dn ⊢
   simp only[List.append_assoc,List.cons_append,List.nil_append,List.length_append,List.length_cons,List.length_nil]at dn ⊢
   simp only[z49,Qs3,XtK,K1H,JS3,simprocAttr,CO.tmps,Opd.tmps,optT,g',dn,List.getElem?_cons_zero,List.getElem?_cons_succ,decide_true,decide_false,ne_eq,not_false_eq_true,not_true_eq_false,false_implies,forall_const,and_true,true_and,Option.bind_some,if_true]
   exact Bt.sel [4] hh (by decide) ⟨⟨_,rfl,of_eq_true (ZHy _ _ _ _)⟩,trivial⟩ ⟨.inr ⟨by rw[Zlu,ZiP,YhM _ _ _ (decide_eq_true (by simp))];rfl,by simp only[AV.ren,renL,QSL];rw[show selN h.length [4] h.length=h.length+4 from qtm 0];exact Wk.refl _⟩,trivial⟩
  have g':((n:Int)<(m.length:Int))=True:=eq_true (by omega)
  have gz:((0:Int)<=(n:Int)/\(n:Int)<(m.length:Int))=True:=eq_true (by omega)
  have e1:IntKind.i64.wrap ((n:Int)+1)=((n+1:Nat):Int):=Q7p (by unfold In64;omega)
  obtain ⟨dx,rx,ox⟩:=ha0.s.at g
  have hfs:f (n+1)=wRp 67108864 (f n) m[n].2:=by
   rw[hfd]
   have:=zvf 67108864 (wN 67108864 (wVc 67108864 ([],0) n1) m.length) (m.map (·.2)) (k:=n) (by rw[List.length_map];exact g)
   rw[List.getElem_map]at this
   exact this
  have hin:m[n].2∈m.map (·.2):=List.mem_map.2 ⟨_,List.getElem_mem g,rfl⟩
  generalize m[n]=ex at *
  obtain ⟨x,X⟩:=ex
  dsimp only at *
  have hbX:=hB.r X hin
  have hpX:=hp2 X hin
  obtain ⟨nx,⟨tx,htx,etx⟩,mx⟩:=Xxg rx
  rw[XBQ]at dx ox
  have wx:=zUA x
  rw[X6g]at ox wx
  simp only[ZiP,q0E,ok_s,Bool.and_eq_true,and_true,true_and]at ox
  have ltx:X.tags.length=tx.length:=by rw[etx,List.length_map]
  have tstr:=QP8 htx.s.isSl
  have tlen:=htx.s.len
  rw[List.length_map]at tlen
  have htl:=htx.s
  rw[QMV]at htl
  have tiad:∀k n,iadV 2 x.tags.a (.i k n)=if 0<=n/\n<(tx.length:Int) then some (elP 2 x.tags.a n.toNat 0) else none:=fun k n=>by
   have:=htl.iad k n
   rwa [List.length_map]at this
  have tld:∀st k R n,n<tx.length->ldV (wX H0 (h.length+1) (h.length+2) 67108864 .ns st k++R) (some 2) (elP 2 x.tags.a n 0)=some (.ag (tagR.f ((tx.map (·.1)).getD n tagR.d))):=fun st k R n hn=>(ZVz (lim:=67108864) (i:=h.length+1) (j:=h.length+2) (s:=.ns) st k R htl (Xxf W htl fun x=>⟨x.name,rfl⟩)).lda n (by rw[List.length_map];exact hn)
  have tok:∀c,x.tags.a.ok (fun i=>decide (i<H0.length+c))=true:=fun c=>AV.ok_mono (fun i q=>by simp only[decide_eq_true_eq]at q ⊢;omega) x.tags.a ox.1
  have tor:∀sel,Wk (x.tags.a.ren (selN H0.length sel)) x.tags.a:=fun sel=>Wk.ren (fun i hi=>qMB hi) ox.1
  have mok:∀c,x.mans.a.ok (fun i=>decide (i<H0.length+c))=true:=fun c=>AV.ok_mono (fun i q=>by simp only[decide_eq_true_eq]at q ⊢;omega) x.mans.a ox.2
  have mor:∀sel,Wk (x.mans.a.ren (selN H0.length sel)) x.mans.a:=fun sel=>Wk.ren (fun i hi=>qMB hi) ox.2
  have ovR:∀(zs:List AV) (a b c:AV),zs.length=3->over zs 0 [a,b,c]=[a,b,c]:=fun zs a b c hz=>JRk (by rw[hz];rfl)
  have ovG:∀(zs:List AV) (a b:AV),zs.length=2->over zs 0 [a,b]=[a,b]:=fun zs a b hz=>JRk (by rw[hz];rfl)
  obtain ⟨T8,hT8⟩:∃B:AB,B=.blk false true [.s x.name,x.tags.a,x.mans.a]:=⟨_,rfl⟩
  have bT8:∀n sel,BWk (fun i=>decide (i<H0.length+n)) (selN H0.length sel) T8 T8:=fun n sel=>by
   rw[hT8]
   refine ⟨_root_.id,?_,⟨Wk.refl _,tor sel,mor sel,trivial⟩⟩
   simp only[ZiP,q0E,ok_s,tok,mok,Bool.and_self]
  obtain ⟨k,c0,hR,I,hkz,_⟩:=KKc (h:=H0) (i:=h.length+1) (j:=h.length+2) (lim:=67108864) (s:=.ns) (bs:=[]) [] (f n) (hfg n)
  rw[hR]
  simp only[List.nil_append]at I ⊢
  have I1:=I.app [T8]
  obtain ⟨k1,R1,p1,J1,d1,_,z1⟩:=Ynn W I1 (hfl n) (qkv x.name.length++x.name) true
  obtain ⟨t1,t2⟩:=z1 1 T8 (fun q=>by have:=hkz 1 q;cases this) rfl
  obtain ⟨k2,R2,p2,J2,d2,_,z2⟩:=Ynn W J1 d1 (qkv (tx.length:Int)) true
  obtain ⟨t3,t4⟩:=z2 1 T8 t2 t1
  simp only[List.cons_append,List.nil_append]at p1
  rw[hT8]at p1
  have l8:∀(st:List UInt8×Int) (k:Option Nat) (R:List AB) (q:Nat),R[q]?=some T8->∀o,ldV (wX H0 (h.length+1) (h.length+2) 67108864 .ns st k++R) none (.p (H0.length+q) o)=[.s x.name,x.tags.a,x.mans.a][o]?:=fun st k R q hq o=>by
   have:zZU (wX H0 (h.length+1) (h.length+2) 67108864 .ns st k++R) (H0.length+q)=some [.s x.name,x.tags.a,x.mans.a]:=by
    unfold zZU
    rw[List.getElem?_append_right (by rw[hX];omega),hX,Nat.add_sub_cancel_left,hq,hT8]
   simp only[ldV,this,Option.bind_some]
  have l81:=fun st=>l8 st k1 R1 1 t1
  have l82:=fun st=>l8 st k2 R2 1 t3
  have xl:(x.name.length<=1000000)=True:=eq_true (by rw[nx];exact hbX.name)
  have tl64:(In64 (tx.length:Int))=True:=eq_true (by have:=hbX.tags;unfold In64;omega)
  simp only[z49,Qs3,XtK,K1H,JS3,simprocAttr,CO.tmps,Opd.tmps,optT,qRn,qSM,YNH,KMT,zGW,hX,siad,g,g',gz,sld,dx,X6g,ovR,wx,JqN,xl,p1,l81,XoS,tl64,p2,l82,tstr,tlen,List.length_cons,List.length_nil,List.drop_zero,List.getElem?_cons_zero,List.getElem?_cons_succ,decide_true,decide_false,ne_eq,not_false_eq_true,not_true_eq_false,false_implies,forall_const,and_true,true_and,Option.bind_some,if_true]
  obtain ⟨gg,hgd⟩:∃gg:Nat->List UInt8×Int,gg=fun a=>wTs 67108864 (wN 67108864 (wTx 67108864 (f n) X.name) X.tags.length) (X.tags.take a):=⟨_,rfl⟩
  have hgf:∀a,FOk fun lim st=>wTs lim (wN lim (wTx lim (wRs lim (wN lim (wVc lim st n1) m.length) ((m.map (·.2)).take n)) X.name) X.tags.length) (X.tags.take a):=fun a=>(((hf n).seq (z3a _)).seq (zX3 _)).seq (XD2 _)
  have hgl:∀a,((gg a).1.length:Int)<=67108864:=fun a=>by rw[hgd,hfd];exact (hgf a).le 67108864 ([],0) (by decide)
  have hgg:∀a,(gg a).1=[]\/([]:List UInt8).length<(gg a).1.length:=fun a=>by rw[hgd,hfd];exact (hgf a).grow 67108864 ([],0)
  have hg0:gg 0=wput 67108864 (wput 67108864 (f n).1 (f n).2 (qkv x.name.length++x.name) true).1 (wput 67108864 (f n).1 (f n).2 (qkv x.name.length++x.name) true).2 (qkv (tx.length:Int)) true:=by
   rw[hgd,nx,<-ltx]
   show wput 67108864 (wTx 67108864 (f n) X.name).1 (wTx 67108864 (f n) X.name).2 (qkv (X.tags.length:Int)) (decide ((0:Int)<=X.tags.length))=_
   rw[decide_eq_true (by omega)]
   rfl
  rw[<-hg0]at J2 ⊢
  refine JLk (S:=Nat) (fun a=>tx.length-a) (fun a=>tp 5++[.p (h.length+1) 0]++tp 2++[.p (H0.length+0) 0]++tp 21++[s1,.i .i64 (m.length:Int),.i .i64 (n:Int)]++tp 13++[x.tags.a,.i .i64 (tx.length:Int),.i .i64 (a:Int)]++tp 21) (fun a=>wOuD H0 (h.length+1) (h.length+2) 67108864 .ns [] [T8] (gg a)) (fun a=>a<=tx.length) 0 (Nat.zero_le _) ?_ fun a hna=>?_
  ·refine Bt.low (p':=H0.length) (Zhe W hh0 J2 (D:=[T8]) [1] rfl (fun m hm=>by rw[List.mem_singleton]at hm;rw[hm];exact t4) (by simp) (fun x=>⟨⟨_,t3,bT8 _ _⟩,trivial⟩) (fun x=>by simp only[tp_0,tp_s,List.cons_append,List.nil_append,Ztz,FrSel,BlkSel,AV.ren,renL,AV.ok,okL,Option.some.injEq,exists_eq_left',List.length_cons,List.length_nil,Nat.reduceAdd,Nat.reduceLT,reduceCtorEq,implies_true,exists_eq',sok,sok0,sor,tok,tor,ox.1,pi1,pi2,pi3,Int.natCast_zero])) (by show h.length<=H0.length;omega) (by rw[List.length_append,hX];omega)
  by_cases ga:a<tx.length
  rotate_left
  ·have ga':((a:Int)<(tx.length:Int))=False:=eq_false (by omega)
   obtain ⟨k,c0,hR,I,hkz,_⟩:=KKc (h:=H0) (i:=h.length+1) (j:=h.length+2) (lim:=67108864) (s:=.ns) (bs:=[]) [T8] (gg a) (hgg a)
   rw[hR]
   obtain ⟨k5,R5,p5,J5,d5,_,z5⟩:=Qa9 W (Xgc X.mans) I (hgl a)
   simp only[List.cons_append,List.nil_append]at p5 ⊢
   rw[hT8]at p5 ⊢
   have gm:∀st k R,getS zEN (wX H0 (h.length+1) (h.length+2) 67108864 .ns st k++R) x.mans.a=some X.mans:=fun st k R=>(ZVz (lim:=67108864) (i:=h.length+1) (j:=h.length+2) (s:=.ns) st k R mx (qxR W mx)).get
   have hmb:(X.mans.length<=1000000/\∀x∈X.mans,In64 x.1.1/\In64 x.1.2)=True:=eq_true ⟨hbX.mans,fun y hy=>by have:=hpX.2 y hy;unfold In64;omega⟩
   simp only[z49,Qs3,XtK,K1H,JS3,simprocAttr,CO.tmps,Opd.tmps,optT,qRn,qSM,hX,ga',zCa,gm,hmb,p5,e1,List.getElem?_cons_zero,List.getElem?_cons_succ,decide_true,decide_false,ne_eq,not_false_eq_true,not_true_eq_false,false_implies,forall_const,and_true,true_and,Option.bind_some,if_true]
   refine ⟨n+1,g,by dsimp only;omega,?_⟩
   dsimp only
   have hfe:f (n+1)=wHn 67108864 (gg a) X.mans:=by
    rw[hfs,hgd]
    show _=wHn 67108864 (wTs 67108864 (wN 67108864 (wTx 67108864 (f n) X.name) X.tags.length) (X.tags.take a)) X.mans
    rw[List.take_of_length_le (by omega)]
    rfl
   rw[hfe]
   exact Bt.low (p':=H0.length) (Zhe W hh0 J5 [] rfl (fun m hm=>by cases hm) (by simp) (fun x=>trivial) (fun x=>by simp only[tp_0,tp_s,List.cons_append,List.nil_append,Ztz,FrSel,BlkSel,AV.ren,renL,AV.ok,okL,Option.some.injEq,exists_eq_left',List.length_cons,List.length_nil,Nat.reduceAdd,Nat.reduceLT,reduceCtorEq,implies_true,exists_eq',sok,sok0,sor,pi1,pi2,pi3])) (by show h.length<=H0.length;omega) (by rw[List.length_append,hX];omega)
  have ga':((a:Int)<(tx.length:Int))=True:=eq_true (by omega)
  have gaz:((0:Int)<=(a:Int)/\(a:Int)<(tx.length:Int))=True:=eq_true (by omega)
  have ea:IntKind.i64.wrap ((a:Int)+1)=((a+1:Nat):Int):=Q7p (by have:=hbX.tags;unfold In64;omega)
  obtain ⟨dgx,rgx,ogx⟩:=htx.at ga
  have hgs:gg (a+1)=wTg 67108864 (gg a) tx[a].2:=by
   rw[hgd]
   have:=XhB 67108864 (wN 67108864 (wTx 67108864 (f n) X.name) X.tags.length) X.tags (k:=a) (by omega)
   have e:X.tags[a]'(by omega)=tx[a].2:=by simp only[etx,List.getElem_map]
   rw[e]at this
   exact this
  have hjn:tx[a].2∈X.tags:=by rw[etx];exact List.mem_map.2 ⟨_,List.getElem_mem ga,rfl⟩
  generalize tx[a]=ey at *
  obtain ⟨y,Y⟩:=ey
  dsimp only at *
  obtain ⟨ny,hy⟩:=J9V rgx
  rw[QMV]at dgx ogx
  have wy:=Z4X y
  rw[q2E]at wy
  have hbY:=hbX.tag Y hjn
  have hpY:=hpX.1 Y hjn
  obtain ⟨k,c0,hR,I,hkz,_⟩:=KKc (h:=H0) (i:=h.length+1) (j:=h.length+2) (lim:=67108864) (s:=.ns) (bs:=[]) [T8] (gg a) (hgg a)
  rw[hR]
  simp only[List.cons_append,List.nil_append]at I ⊢
  obtain ⟨T10,hT10⟩:∃B:AB,B=.blk false true [.s y.name,y.held.a]:=⟨_,rfl⟩
  have I1:=I.app [T10]
  obtain ⟨k3,R3,p3,J3,d3,_,z3⟩:=Ynn W I1 (hgl a) (qkv y.name.length++y.name) true
  obtain ⟨t5,t6⟩:=z3 0 T8 (fun q=>by have:=hkz 0 q;cases this) rfl
  obtain ⟨t7,t8⟩:=z3 2 T10 (fun q=>by have:=hkz 2 q;cases this) rfl
  obtain ⟨k4,R4,p4,J4,d4,_,z4⟩:=Qa9 W (Xgc Y.held) J3 d3
  obtain ⟨t9,t10⟩:=z4 0 T8 t6 t5
  simp only[List.cons_append,List.nil_append]at p3
  rw[hT10]at p3
  have l10:∀(st:List UInt8×Int) o,ldV (wX H0 (h.length+1) (h.length+2) 67108864 .ns st k3++R3) none (.p (H0.length+2) o)=[.s y.name,y.held.a][o]?:=fun st o=>by
   have:zZU (wX H0 (h.length+1) (h.length+2) 67108864 .ns st k3++R3) (H0.length+2)=some [.s y.name,y.held.a]:=by
    unfold zZU
    rw[List.getElem?_append_right (by rw[hX];omega),hX,Nat.add_sub_cancel_left,t7,hT10]
   simp only[ldV,this,Option.bind_some]
  have gy:∀st k R,getS zEN (wX H0 (h.length+1) (h.length+2) 67108864 .ns st k++R) y.held.a=some Y.held:=fun st k R=>(ZVz (lim:=67108864) (i:=h.length+1) (j:=h.length+2) (s:=.ns) st k R hy (qxR W hy)).get
  have hmb:(Y.held.length<=1000000/\∀x∈Y.held,In64 x.1.1/\In64 x.1.2)=True:=eq_true ⟨hbY.2,fun z hz=>by have:=hpY z hz;unfold In64;omega⟩
  have yl:(y.name.length<=1000000)=True:=eq_true (by rw[ny];exact hbY.1)
  simp only[z49,Qs3,XtK,K1H,JS3,simprocAttr,CO.tmps,Opd.tmps,optT,qRn,qSM,YNH,KMT,zGW,hX,tiad,ga,ga',gaz,tld,dgx,q2E,ovG,wy,JqN,yl,p3,l10,zCa,gy,hmb,p4,ea,List.length_cons,List.length_nil,List.drop_zero,List.getElem?_cons_zero,List.getElem?_cons_succ,decide_true,decide_false,ne_eq,not_false_eq_true,not_true_eq_false,false_implies,forall_const,and_true,true_and,Option.bind_some,if_true]
  refine ⟨a+1,ga,by dsimp only;omega,?_⟩
  dsimp only
  rw[hgs]
  have hge:wTg 67108864 (gg a) Y=wHn 67108864 (wput 67108864 (gg a).1 (gg a).2 (qkv y.name.length++y.name) true) Y.held:=by rw[ny];rfl
  rw[hge]
  exact Bt.low (p':=H0.length) (Zhe W hh0 J4 (D:=[T8]) [0] rfl (fun m hm=>by rw[List.mem_singleton]at hm;rw[hm];exact t10) (by simp) (fun x=>⟨⟨_,t9,bT8 _ _⟩,trivial⟩) (fun x=>by simp only[tp_0,tp_s,List.cons_append,List.nil_append,Ztz,FrSel,BlkSel,AV.ren,renL,AV.ok,okL,Option.some.injEq,exists_eq_left',List.length_cons,List.length_nil,Nat.reduceAdd,Nat.reduceLT,reduceCtorEq,implies_true,exists_eq',sok,sok0,sor,tok,tor,ox.1,pi1,pi2,pi3])) (by show h.length<=H0.length;omega) (by rw[List.length_append,hX];omega)
 ·cases e
end
section
set_option maxRecDepth 100000
set_option maxHeartbeats 8000000
def Y0W:List AV->List AB->Option (AV×List AB)
 | [],h=>some (.b true,h)
 | _,_=>none
theorem Jtn:Spec Tryz.prog 4 Y0W:=by
 intro args h v h' e
 unfold Y0W at e
 split at e
 ·cases e
  exact fc4 h
 ·cases e
theorem KoM {a:AV} (e:a.isSl=true):a.one=true/\a.cells=[a]/\a.known=true/\wrOk false a=true:=by
 have h1:=SlA.one' ⟨a,e⟩
 have h2:=SlA.fx' ⟨a,e⟩
 refine ⟨h1,h2.1,h2.2,?_⟩
 simp only[wrOk]
 exact h1
theorem qau (H:List AB):getT H (.ag [.ns,.ns])=some ⟨[],[]⟩:=(RdT.get (h:=H) (v:=.ns) (s:=.ns) (n:=[]) (m:=[]) ⟨⟨rfl,Nat.zero_le _⟩,⟨rfl,Nat.zero_le _⟩,fun e he=>by simp at he,fun e he=>by simp at he⟩)
theorem zI0 {bs:List UInt8} (hl:bs.length<=1000000):((tdec chkT bs).2.1≠0->(tdec chkT bs).1=⟨[],[]⟩)/\0<=(tdec chkT bs).2.2/\(tdec chkT bs).2.2<=bs.length/\((tdec chkT bs).2.1=0->encT (tdec chkT bs).1=bs/\chkT (tdec chkT bs).1=0/\BdT (tdec chkT bs).1):=by
 refine ⟨zGh,(ZQa chkT bs).1,(ZQa chkT bs).2,fun q=>⟨(K9T q).1,(K9T q).2.1,?_⟩⟩
 have hb:=ZBw hl
 rw[(QtM bs).1]at hb
 unfold tdec at q ⊢
 split
 ·rename_i w
  rw[if_pos w]at q
  split
  ·exact hb
  ·rename_i w2
   rw[if_neg w2]at q
   exact absurd q w2
 ·exact ⟨Nat.zero_le _,Nat.zero_le _,fun r hr=>by simp at hr⟩
theorem JAH {h:List AB} (hz:h.map AB.freeze=h) {v s:AV} {n:List Int} {m:List (RepA×RpD)} (hT:RdT h v s n m) {b:AV} {bs:List UInt8} (hb:Rd X0d h b bs) :
  FnAt Tryz.prog 7 [.ag [v,s],b] h (.b true) h:=by
 refine FnAt.run (by kernel_rfl) (T:=⟨[⟨4,Y0W,fun _=>[]⟩,⟨9,QQx,fun _=>[]⟩,⟨14,zbU,fun _=>[]⟩,⟨18,YeC,fun _=>[]⟩,⟨37,zPL,fun _=>[]⟩,⟨16,QIA,fun _=>[]⟩,⟨17,qtz,fun _=>[]⟩],[]⟩) ⟨⟨Jtn,qPQ,QeA,qha,XDX,zdk,Xbw,trivial⟩,trivial⟩ Tryz.func7 sw7 fun ho hh=>?_
 simp only[ZiP,q0E,JL2,Bool.and_eq_true,Bool.and_true]at ho
 have fb:=hb.fx ho.2 (sz:=1) rfl
 have fv:=hT.v.fx ho.1.1 (sz:=1) rfl
 have fs:=hT.s.s.fx ho.1.2 (sz:=3) rfl
 obtain ⟨t,ht⟩:∃t:TbD,t=⟨n,m.map (·.2)⟩:=⟨_,rfl⟩
 have gT:∀L,getT (h++L) (.ag [v,s])=some t:=fun L=>by rw[ht];exact (hT.app L).get
 unfold w7
 rcases emG (KHX t) with c1|c1
 ·simp only[z49,Qs3,XtK,K1H,JS3,simprocAttr,CO.tmps,Opd.tmps,optT,fb,fv,fs,gT,c1,Y0W,QQx,Option.bind_some,Kvx hh,if_true,oD,ne_eq,forall_const]
  exact Bt.dropB _ hh rfl
 rcases emG ((800:Int)<(bs.length:Int)) with c2|c2
 ·simp only[z49,Qs3,XtK,K1H,JS3,simprocAttr,CO.tmps,Opd.tmps,optT,fb,fv,fs,gT,c1,c2,Y0W,QQx,Option.bind_some,Kvx hh,if_true,oD,ne_eq,forall_const]
  exact Bt.dropB _ hh rfl
 have hbl:bs.length<=1000000:=by have:=of_eq_false c2;omega
 have bd:=qFt (of_eq_false c1)
 have en:=znJ (of_eq_false c1)
 have bde:=eq_true (p:=BdT t/\(encT t).length<=1000000) ⟨bd,en⟩
 have bd':=eq_true bd
 have en':=eq_true en
 have bl':=eq_true hbl
 obtain ⟨say1,say2,say3,say4⟩:=zI0 hbl
 rcases emG (chkT t=0) with c3|c3
 ·have hE:(encT t).length≠0:=fun q=>qjB t (List.eq_nil_of_length_eq_zero q)
  have hE':=eq_false hE
  have ck:=of_eq_true c3
  obtain ⟨E,hEe⟩:∃E,E=encT t:=⟨_,rfl⟩
  rw[<-hEe]at hE hE' en en' bde
  have el:IntKind.i64.wrap ((E.length:Int)-1)=((E.length-1:Nat):Int):=by
   rw[show (E.length:Int)-1=((E.length-1:Nat):Int) by omega]
   exact Q7p (by unfold In64;omega)
  have up:∀(x:AV) (n n':Nat),n<=n'->x.ok (fun i=>decide (i<n))=true->x.ok (fun i=>decide (i<n'))=true:=fun x n n' hn hx=>AV.ok_mono (fun i z=>by simp only[decide_eq_true_eq]at z ⊢;omega) x hx
  obtain ⟨X1,hX1⟩:∃X,X=h++[.blk false true [v,s],resB X0d true E]:=⟨_,rfl⟩
  have x1l:X1.length=h.length+2:=by rw[hX1,List.length_append];rfl
  have hhX1:HOk X1:=by
   rw[hX1]
   refine HOk.app1 hh fun B hB=>?_
   simp only[List.mem_cons,List.not_mem_nil,or_false]at hB
   rcases hB with rfl|rfl
   ·simp only[AB.ok,ZiP,q0E,Bool.and_true,Bool.and_eq_true]
    exact ⟨up v _ _ (by omega) ho.1.1,up s _ _ (by omega) ho.1.2⟩
   ·exact KjL _ _ _
  have xg1:X1[h.length+1]?=some (resB X0d true E):=by rw[hX1,JNS];rfl
  have rE:Rd X0d X1 (rsl X0d (h.length+1) E) E:=qIg xg1 (by unfold maxLen;omega)
  obtain ⟨L1,vs1,rs1,n1,m1,e1,p1,a1,a2,a3,a4,a5⟩:=XXR rE (by omega) hhX1 (YhM _ _ _ (decide_eq_true (by omega)))
  have hin:=zGX (of_eq_true c3) bd
  rw[hEe,J74 hin (of_eq_true c3)]at a5
  simp only[Prod.mk.injEq]at a5
  obtain ⟨a5,rfl,rfl⟩:=a5
  obtain ⟨Y1,hY1⟩:∃Y,Y=X1++L1:=⟨_,rfl⟩
  rw[<-hY1]at a1 a2 a3 a4
  have hY1h:∃L,Y1=h++L:=⟨_,by rw[hY1,hX1,List.append_assoc]⟩
  have a1:zPL [rsl X0d (h.length+1) E] (h++[.blk false true [v,s],resB X0d true E])=some (.tu [.ag [vs1,rs1],.ag [.i .i64 0,.i .i64 0]],Y1++[]):=by rw[<-hX1,List.append_nil];exact a1
  have rs1':rsl X0d (h.length+1) E=.sl (h.length+1) 0 E.length E.length (some 1):=Kcb _ hE
  rw[rs1']at a1
  have lv:lenV (.sl (h.length+1) 0 E.length E.length (some 1))=some (E.length:Int):=rfl
  obtain ⟨k1,k2,k3,k4⟩:=KoM a4.v.isSl
  obtain ⟨k5,k6,k7,k8⟩:=KoM a4.s.s.isSl
  have hEi:((E.length:Int)=0)=False:=eq_false (by omega)
  obtain ⟨cs,hcs⟩:∃cs,cs=AV.sl (h.length+1) 0 (E.length-1) E.length (some 1):=⟨_,rfl⟩
  have sl1:slL 1 (.sl (h.length+1) 0 E.length E.length (some 1)) none (some (.i .i64 ((E.length-1:Nat):Int))) none=some cs:=by
   rw[hcs]
   simp only[slL,bnd,Option.map_some,if_true]
   rw[if_pos (by omega)]
   simp
  obtain ⟨X2,hX2⟩:∃X,X=Y1++[.blk false true [vs1,rs1],.blk true true [.i .i64 0,.i .i64 0]]:=⟨_,rfl⟩
  have y1l:X1.length<=Y1.length:=by rw[hY1,List.length_append];omega
  have x2l:X2.length=Y1.length+2:=by rw[hX2,List.length_append];rfl
  have hhX2:HOk X2:=by
   rw[hX2]
   refine a2.app1 fun B hB=>?_
   simp only[List.mem_cons,List.not_mem_nil,or_false]at hB
   simp only[ZiP,q0E,Bool.and_true,Bool.and_eq_true]at a3
   rcases hB with rfl|rfl
   ·simp only[AB.ok,ZiP,q0E,Bool.and_true,Bool.and_eq_true]
    exact ⟨up _ _ _ (by omega) a3.1,up _ _ _ (by omega) a3.2⟩
   ·rfl
  have yg1:Y1[h.length+1]?=some (resB X0d true E):=by rw[hY1,List.getElem?_append_left (by omega)];exact xg1
  have yg0:Y1[h.length+0]?=some (.blk false true [v,s]):=by rw[hY1,List.getElem?_append_left (by omega),hX1,JNS];rfl
  have x2g1:X2[h.length+1]?=some (resB X0d true E):=by rw[hX2,List.getElem?_append_left (by omega)];exact yg1
  have x2g0:X2[h.length+0]?=some (.blk false true [v,s]):=by rw[hX2,List.getElem?_append_left (by omega)];exact yg0
  have x2a:X2[Y1.length+0]?=some (.blk false true [vs1,rs1]):=by rw[hX2,JNS];rfl
  have x2b:X2[Y1.length+1]?=some (.blk true true [.i .i64 0,.i .i64 0]):=by rw[hX2,JNS];rfl
  have rC:Rd X0d X2 cs (E.take (E.length-1)):=by
   have tl:(E.take (E.length-1)).length=E.length-1:=by rw[List.length_take];omega
   refine ⟨?_,by rw[tl];unfold maxLen;omega⟩
   rw[hcs,tl]
   simp only[rdS]
   by_cases z:E.length-1=0
   ·rw[if_pos z,z]
    rfl
   ·rw[if_neg z]
    have hr:zZU X2 (h.length+1)=some (X0d.cells E):=by
     unfold zZU
     rw[x2g1]
     unfold resB
     rw[if_neg hE]
    rw[hr,Option.bind_some,if_pos (by rw[X0d.cells_len,YPl];omega),List.drop_zero,YPl,Nat.mul_one,YG4,YG4,List.map_take]
  obtain ⟨L2,vs2,rs2,n2,m2,e2,p2,b1,b2,b3,b4,b5⟩:=XXR rC (by rw[List.length_take];omega) hhX2 (by rw[hcs];exact YJG _ _ _ _ _ _ (decide_eq_true (by omega)))
  have ne2:e2≠0:=by
   have:=zyv (c:=chkT) hin (k:=E.length-1) (by rw[<-hEe];omega)
   rw[<-hEe,<-b5]at this
   exact this
  have c5:(e2=0)=False:=eq_false ne2
  obtain ⟨Y2,hY2⟩:∃Y,Y=X2++L2:=⟨_,rfl⟩
  rw[<-hY2]at b1 b2 b3 b4
  have b1:zPL [cs] (Y1++[.blk false true [vs1,rs1],.blk true true [.i .i64 0,.i .i64 0]])=some (.tu [.ag [vs2,rs2],.ag [.i .i64 e2,.i .i64 p2]],Y2++[]):=by rw[<-hX2,List.append_nil];exact b1
  obtain ⟨q1,q2,q3,q4⟩:=KoM b4.v.isSl
  obtain ⟨q5,q6,q7,q8⟩:=KoM b4.s.s.isSl
  have y2l:X2.length<=Y2.length:=by rw[hY2,List.length_append];omega
  obtain ⟨X,hX⟩:∃X,X=Y2++[.blk false true [vs2,rs2],.blk true true [.i .i64 e2,.i .i64 p2]]:=⟨_,rfl⟩
  have hhX:HOk X:=by
   rw[hX]
   refine b2.app1 fun B hB=>?_
   simp only[List.mem_cons,List.not_mem_nil,or_false]at hB
   simp only[ZiP,q0E,Bool.and_true,Bool.and_eq_true]at b3
   rcases hB with rfl|rfl
   ·simp only[AB.ok,ZiP,q0E,Bool.and_true,Bool.and_eq_true]
    exact ⟨up _ _ _ (by omega) b3.1,up _ _ _ (by omega) b3.2⟩
   ·rfl
  have at2:∀(q:Nat) (B:AB) (L:List AB),X2[q]?=some B->(Y2++L)[q]?=some B:=fun q B L hq=>by
   have hl:=(List.getElem?_eq_some_iff.1 hq).1
   rw[List.getElem?_append_left (by omega),hY2,List.getElem?_append_left hl]
   exact hq
  have ld9:∀L,ldV (Y2++L) (some 2) (.p (Y1.length+1) 0)=some (.ag [.i .i64 0,.i .i64 0]):=fun L=>JNy (at2 _ _ L x2b) (by simp) rfl
  have ld8:∀L,ldV (Y2++L) (some 2) (.p (Y1.length+0) 0)=some (.ag [vs1,rs1]):=fun L=>JNy (at2 _ _ L x2a) (by simp) rfl
  have ld2:∀L,ldV (Y2++L) (some 2) (.p (h.length+0) 0)=some (.ag [v,s]):=fun L=>JNy (at2 _ _ L x2g0) (by simp) rfl
  have h12:∃L,Y2=h++L:=⟨_,by rw[hY2,hX2,hY1,hX1,List.append_assoc,List.append_assoc,List.append_assoc]⟩
  have gT2:∀L,getT (Y2++L) (.ag [v,s])=some t:=fun L=>by
   obtain ⟨L',hL'⟩:=h12
   rw[hL',List.append_assoc]
   exact gT _
  have gT1:∀L,getT (Y2++L) (.ag [vs1,rs1])=some t:=fun L=>by
   rw[hY2,hX2,List.append_assoc,List.append_assoc,<-a5]
   exact (a4.app _).get
  have hbX:Rd X0d X b bs:=by
   obtain ⟨L',hL'⟩:=h12
   rw[hX,hL',List.append_assoc]
   exact hb.app _
  obtain ⟨L3,vs3,rs3,n3,m3,e3,p3,d1,d2,d3,d4,d5⟩:=XXR hbX hbl hhX (up _ _ _ (by rw[hX,List.length_append];omega) ho.2)
  obtain ⟨Y,hY⟩:∃Y,Y=X++L3:=⟨_,rfl⟩
  rw[<-hY]at d1 d2 d3 d4
  have hYh:∃L,Y=h++L:=by
   obtain ⟨L',hL'⟩:=h12
   exact ⟨_,by rw[hY,hX,hL',List.append_assoc,List.append_assoc]⟩
  have d1:zPL [b] (Y2++[.blk false true [vs2,rs2],.blk true true [.i .i64 e2,.i .i64 p2]])=some (.tu [.ag [vs3,rs3],.ag [.i .i64 e3,.i .i64 p3]],Y++[]):=by rw[<-hX,List.append_nil];exact d1
  obtain ⟨w1,w2,w3,w4⟩:=KoM d4.v.isSl
  obtain ⟨w5,w6,w7,w8⟩:=KoM d4.s.s.isSl
  obtain ⟨t3,ht3⟩:∃t3:TbD,t3=⟨n3,m3.map (·.2)⟩:=⟨_,rfl⟩
  have g3:∀L,getT (Y++L) (.ag [vs3,rs3])=some t3:=fun L=>by rw[ht3];exact (d4.app L).get
  have g0:∀L,getT (Y++L) (.ag [.ns,.ns])=some ⟨[],[]⟩:=fun L=>qau _
  have gb:∀L,getS X0d (Y++L) b=some bs:=fun L=>by rw[hY];exact ((hbX.app L3).app L).get
  rw[<-ht3]at d5
  rw[<-d5]at say1 say2 say3 say4
  dsimp only at say1 say2 say3 say4
  have u1:=eq_true say2
  have u2:=eq_true say3
  rcases emG (e3=0) with c4|c4
  ·obtain ⟨z1,z2,z3⟩:=say4 (of_eq_true c4)
   have z4:=eq_true (p:=BdT t3/\bs.length<=1000000) ⟨z3,hbl⟩
   have z5:=eq_true z3
   have z6:=eq_true z2
   have gr:∀B0 B1,getS X0d (Y++[B0,B1,resB X0d true bs]) (rsl X0d (Y.length+2) bs)=some bs:=fun B0 B1=>Xjq (r:=X0d) [B0,B1,resB X0d true bs] 2 bs ⟨true,rfl⟩ (by unfold maxLen;omega)
   simp only[z49,Qs3,XtK,K1H,JS3,simprocAttr,CO.tmps,Opd.tmps,optT,fb,fv,fs,gT,c1,c2,ck,bd',bde,en',bl',Y0W,QQx,zbU,YeC,QIA,qtz,Xvm,hE',hEi,el,lv,sl1,rs1',<-hEe,a1,b1,k1,k2,k3,k4,k5,k6,k7,k8,q1,q2,q3,q4,q5,q6,q7,q8,c5,ld9,ld8,ld2,gT1,gT2,d1,w1,w2,w3,w4,w5,w6,w7,w8,g3,g0,gb,u1,u2,c4,z1,z2,z4,z5,z6,gr,Option.bind_some,Kvx hh,Bool.xor_true,Bool.xor_false,Bool.and_true,Bool.true_and,Bool.and_false,Bool.false_and,Bool.not_true,Bool.not_false,List.all_cons,List.all_nil,if_true,if_false,decide_true,decide_false,ne_eq,not_false_eq_true,not_true_eq_false,false_implies,forall_const,and_true,true_and,List.getElem?_cons_zero,List.getElem?_cons_succ]
   obtain ⟨L,hL⟩:=hYh
   rw[hL,List.append_assoc]
   exact Bt.dropB _ hh rfl
  ·have z1:=say1 (of_eq_false c4)
   simp only[z49,Qs3,XtK,K1H,JS3,simprocAttr,CO.tmps,Opd.tmps,optT,fb,fv,fs,gT,c1,c2,ck,bd',bde,en',bl',Y0W,QQx,zbU,YeC,QIA,qtz,Xvm,hE',hEi,el,lv,sl1,rs1',<-hEe,a1,b1,k1,k2,k3,k4,k5,k6,k7,k8,q1,q2,q3,q4,q5,q6,q7,q8,c5,ld9,ld8,ld2,gT1,gT2,d1,w1,w2,w3,w4,w5,w6,w7,w8,g3,g0,gb,u1,u2,c4,z1,Option.bind_some,Kvx hh,Bool.xor_true,Bool.xor_false,Bool.and_true,Bool.true_and,Bool.and_false,Bool.false_and,Bool.not_true,Bool.not_false,List.all_cons,List.all_nil,if_true,if_false,decide_true,decide_false,ne_eq,not_false_eq_true,not_true_eq_false,false_implies,forall_const,and_true,true_and,List.getElem?_cons_zero,List.getElem?_cons_succ]
   obtain ⟨L,hL⟩:=hYh
   rw[hL,List.append_assoc]
   exact Bt.dropB _ hh rfl
 ·obtain ⟨X,hX⟩:∃X,X=h++[.blk false true [v,s]]:=⟨_,rfl⟩
  have hhX:HOk X:=by
   rw[hX]
   refine HOk.app1 hh fun B hB=>?_
   simp only[List.mem_cons,List.not_mem_nil,or_false]at hB
   rw[hB]
   simp only[AB.ok,ZiP,q0E,Bool.and_true,Bool.and_eq_true]
   exact ⟨AV.ok_mono (fun i z=>by simp only[decide_eq_true_eq]at z ⊢;omega) v ho.1.1,AV.ok_mono (fun i z=>by simp only[decide_eq_true_eq]at z ⊢;omega) s ho.1.2⟩
  have hbX:Rd X0d X b bs:=by rw[hX];exact hb.app _
  obtain ⟨L3,vs3,rs3,n3,m3,e3,p3,d1,d2,d3,d4,d5⟩:=XXR hbX hbl hhX (AV.ok_mono (fun i z=>by rw[hX,List.length_append];simp only[decide_eq_true_eq]at z ⊢;omega) b ho.2)
  obtain ⟨Y,hY⟩:∃Y,Y=X++L3:=⟨_,rfl⟩
  rw[<-hY]at d1 d2 d3 d4
  have hYh:∃L,Y=h++L:=⟨_,by rw[hY,hX,List.append_assoc]⟩
  rw[hX]at d1
  have d1:zPL [b] (h++[.blk false true [v,s]])=some (.tu [.ag [vs3,rs3],.ag [.i .i64 e3,.i .i64 p3]],Y++[]):=by rw[List.append_nil];exact d1
  obtain ⟨w1,w2,w3,w4⟩:=KoM d4.v.isSl
  obtain ⟨w5,w6,w7,w8⟩:=KoM d4.s.s.isSl
  obtain ⟨t3,ht3⟩:∃t3:TbD,t3=⟨n3,m3.map (·.2)⟩:=⟨_,rfl⟩
  have g3:∀L,getT (Y++L) (.ag [vs3,rs3])=some t3:=fun L=>by rw[ht3];exact (d4.app L).get
  have g0:∀L,getT (Y++L) (.ag [.ns,.ns])=some ⟨[],[]⟩:=fun L=>qau _
  have gb:∀L,getS X0d (Y++L) b=some bs:=fun L=>by rw[hY];exact ((hbX.app L3).app L).get
  rw[<-ht3]at d5
  rw[<-d5]at say1 say2 say3 say4
  dsimp only at say1 say2 say3 say4
  have u1:=eq_true say2
  have u2:=eq_true say3
  rcases emG (e3=0) with c4|c4
  ·obtain ⟨z1,z2,z3⟩:=say4 (of_eq_true c4)
   have z4:=eq_true (p:=BdT t3/\bs.length<=1000000) ⟨z3,hbl⟩
   have z5:=eq_true z3
   have z6:=eq_true z2
   have gr:∀B0 B1,getS X0d (Y++[B0,B1,resB X0d true bs]) (rsl X0d (Y.length+2) bs)=some bs:=fun B0 B1=>Xjq (r:=X0d) [B0,B1,resB X0d true bs] 2 bs ⟨true,rfl⟩ (by unfold maxLen;omega)
   simp only[z49,Qs3,XtK,K1H,JS3,simprocAttr,CO.tmps,Opd.tmps,optT,fb,fv,fs,gT,c1,c2,c3,bd',bde,en',bl',Y0W,QQx,zbU,YeC,QIA,qtz,Xvm,fb,d1,w1,w2,w3,w4,w5,w6,w7,w8,g3,g0,gb,u1,u2,c4,z1,z2,z4,z5,z6,gr,Option.bind_some,Kvx hh,Bool.xor_true,Bool.xor_false,Bool.and_true,Bool.true_and,Bool.and_false,Bool.false_and,Bool.not_true,Bool.not_false,List.all_cons,List.all_nil,if_true,if_false,decide_true,decide_false,ne_eq,not_false_eq_true,not_true_eq_false,false_implies,forall_const,and_true,true_and,List.getElem?_cons_zero,List.getElem?_cons_succ]
   obtain ⟨L,hL⟩:=hYh
   rw[hL,List.append_assoc]
   exact Bt.dropB _ hh rfl
  ·have z1:=say1 (of_eq_false c4)
   simp only[z49,Qs3,XtK,K1H,JS3,simprocAttr,CO.tmps,Opd.tmps,optT,fb,fv,fs,gT,c1,c2,c3,bd',bde,en',bl',Y0W,QQx,zbU,YeC,QIA,qtz,Xvm,fb,d1,w1,w2,w3,w4,w5,w6,w7,w8,g3,g0,gb,u1,u2,c4,z1,Option.bind_some,Kvx hh,Bool.xor_true,Bool.xor_false,Bool.and_true,Bool.true_and,Bool.and_false,Bool.false_and,Bool.not_true,Bool.not_false,List.all_cons,List.all_nil,if_true,if_false,decide_true,decide_false,ne_eq,not_false_eq_true,not_true_eq_false,false_implies,forall_const,and_true,true_and,List.getElem?_cons_zero,List.getElem?_cons_succ]
   obtain ⟨L,hL⟩:=hYh
   rw[hL,List.append_assoc]
   exact Bt.dropB _ hh rfl
end
section
open Go.ChangeShapes Go.WideShapes Go.ChangeAt Go.RowKit
def RdL {α:Type} (R:World->List Value->α->Prop) (size:Nat) (w:World) (v:Value) (ts:List α):Prop:=
 ∃cs,Sl w v ts.length cs/\cs.length=ts.length*size/\∀i t,ts[i]?=some t->R w ((cs.drop (i*size)).take size) t
section
variable {H:Type} {enc:TypeId×Value->H} {P:Program} {w:World} {base:Nat} {spare:Nat->Bool} {held:Bool}
theorem qHu {α β:Type} (f:α->Option β):∀(l:List α) (r:List β),l.mapM f=some r->∀a∈l,∃b,f a=some b
 | [],_,_,a,ha=>by cases ha
 | x::l,r,h,a,ha=>by
  rw[List.mapM_cons]at h
  cases hx:f x with
  | none=>simp [hx]at h
  | some b =>
   cases hl:l.mapM f with
   | none=>simp [hx,hl]at h
   | some bs =>
    rcases List.mem_cons.1 ha with rfl|ha
    ·exact ⟨b,hx⟩
    ·exact qHu f l bs hl a ha
theorem X5K {α:Type} (R:Nat->α->Prop):∀n,(∀i,i<n->∃t,R i t)->∃ts:List α,ts.length=n/\∀i t,ts[i]?=some t->R i t
 | 0,_=>⟨[],rfl,fun i t h=>by simp at h⟩
 | n+1,h=>by
  obtain ⟨ts,hl,ht⟩:=X5K R n fun i hi=>h i (by omega)
  obtain ⟨t,h1⟩:=h n (by omega)
  refine ⟨ts++[t],by simp [hl],fun i u hu=>?_⟩
  by_cases hi:i<n
  ·rw[List.getElem?_append_left (by omega)]at hu
   exact ht i u hu
  ·have hi2:i=n:=by
    have:=(List.getElem?_eq_some_iff.1 hu).1
    simp [hl]at this
    omega
   subst hi2
   rw[List.getElem?_append_right (by omega)]at hu
   simp [hl]at hu
   exact hu▸h1
theorem QgV {α:Type} (R:World->List Value->α->Prop) {fuel:Nat} {T e:TypeId} {size:Nat} (hT:P.underlying T=some (.slice e)) (hc:P.cellsOf e=size) (hsz:0<size)
  (hR:∀cs x,DataW.trod enc P w base (fun _=>true) held fuel e cs=some x->∃t,R w cs t) {v:Value} {x:DataW H×List MemPlace}
  (h:DataW.trod enc P w base (fun _=>true) held (fuel+1) T [v]=some x):∃ts,RdL R size w v ts:=by
 cases v with
 | slice a len cap =>
  cases a with
  | none =>
   cases len with
   | zero =>
    cases cap with
    | zero=>exact ⟨[],[],.inl ⟨⟨_,rfl⟩,rfl,rfl⟩,by simp,fun i t ht=>by simp at ht⟩
    | succ c=>simp [DataW.trod,hT]at h
   | succ l=>cases cap <;> simp [DataW.trod,hT]at h
  | some a =>
   simp only[DataW.trod,hT,hc]at h
   split at h
   case isFalse=>cases h
   case isTrue hcond =>
    obtain ⟨hb,hlc,hcm⟩:=hcond
    obtain ⟨elems,hel,h2⟩:=oQ.1 h
    simp only[if_true]at h2
    obtain ⟨rest,hrest,_⟩:=Option.map_eq_some_iff.1 h2
    have hel2:∀i,i<len->∃cs t,cs.length=size/\(∀j,j<size->w.cell? ((a.add (i*size)).add j)=cs[j]?)/\R w cs t:=by
     intro i hi
     obtain ⟨y,hy⟩:=qHu _ _ _ hel i (List.mem_range.2 hi)
     obtain ⟨cs,hcs,hy2⟩:=oQ.1 hy
     obtain ⟨_,hl,hcell⟩:=World.cells?_some hcs
     obtain ⟨t,ht⟩:=hR cs y hy2
     exact ⟨cs,t,hl,hcell,ht⟩
    by_cases h0:cap=0
    ·subst h0
     have:len=0:=by omega
     subst this
     exact ⟨[],[],.inl ⟨⟨_,rfl⟩,rfl,rfl⟩,by simp,fun i t ht=>by simp at ht⟩
    ·have hspot:a.spot=none:=by
      have hfirst:∃u,w.cell? a=some u:=by
       by_cases hl0:len=0
       ·subst hl0
        obtain ⟨y,hy⟩:=qHu _ _ _ hrest 0 (List.mem_range.2 (by omega))
        obtain ⟨cs,hcs,_⟩:=oQ.1 hy
        obtain ⟨_,hl,hcell⟩:=World.cells?_some hcs
        have:=hcell 0 hsz
        simp [Addr.add]at this
        exact ⟨cs[0]'(by omega),by rw[this];exact List.getElem?_eq_getElem (by omega)⟩
       ·obtain ⟨cs,t,hl,hcell,_⟩:=hel2 0 (by omega)
        have:=hcell 0 hsz
        simp [Addr.add]at this
        exact ⟨cs[0]'(by omega),by rw[this];exact List.getElem?_eq_getElem (by omega)⟩
      obtain ⟨u,hu⟩:=hfirst
      unfold World.cell? at hu
      split at hu
      ·split at hu
       ·cases hu
       ·rename_i hs
        simpa using hs
      ·cases hu
     obtain ⟨b,off,sp⟩:=a
     simp only at hspot
     subst hspot
     obtain ⟨g,hg⟩:∃g:Nat->Value,∀k,g k=(w.cell? ⟨b,off+k,none⟩).getD undef:=⟨_,fun _=>rfl⟩
     have hlt:∀i j,i<len->j<size->i*size+j<len*size:=fun i j hi hj=>by
      have:(i+1)*size<=len*size:=Nat.mul_le_mul_right _ hi
      rw[Nat.add_mul]at this
      omega
     have hpiece:∀i,i<len->∀cs':List Value,cs'.length=size->(∀j,j<size->w.cell? (((⟨b,off,none⟩:Addr).add (i*size)).add j)=cs'[j]?)->((((List.range (len*size)).map g).drop (i*size)).take size)=cs':=by
      intro i hi cs' hl hcell
      apply List.ext_getElem?
      intro j
      by_cases hj:j<size
      ·have h1:=hcell j hj
       rw[Addr.add_none,Addr.add_none]at h1
       rw[List.getElem?_take_of_lt hj,List.getElem?_drop,List.getElem?_map,List.getElem?_range (hlt i j hi hj),<-h1]
       rw[Option.map_some,hg,<-Nat.add_assoc,h1,List.getElem?_eq_getElem (by omega)]
       rfl
      ·rw[List.getElem?_eq_none (by rw[List.length_take];omega),List.getElem?_eq_none (by omega)]
     obtain ⟨ts,htl,hts⟩:=X5K (fun i t=>R w ((((List.range (len*size)).map g).drop (i*size)).take size) t) len fun i hi=>by
      obtain ⟨cs,t,hl,hcell,ht⟩:=hel2 i hi
      exact ⟨t,by rw[hpiece i hi cs hl hcell];exact ht⟩
     refine ⟨ts,(List.range (len*size)).map g,.inr ⟨b,off,cap,by rw[htl],by omega,hcm,fun k u hu=>?_⟩,by simp [htl],hts⟩
     rw[List.getElem?_map]at hu
     obtain ⟨k',hk',rfl⟩:=Option.map_eq_some_iff.1 hu
     have hk:k<len*size:=by simpa using (List.getElem?_eq_some_iff.1 hk').1
     rw[List.getElem?_range hk]at hk'
     cases hk'
     have hdiv:k / size<len:=(Nat.div_lt_iff_lt_mul hsz).2 hk
     obtain ⟨cs,t,hl,hcell,_⟩:=hel2 (k / size) hdiv
     have h1:=hcell (k % size) (Nat.mod_lt _ hsz)
     rw[Addr.add_none,Addr.add_none,Nat.add_assoc,Nat.mul_comm,Nat.div_add_mod]at h1
     rw[hg,h1,List.getElem?_eq_getElem (by have:=Nat.mod_lt k hsz;omega)]
     rfl
 | _=>simp [DataW.trod,hT]at h
theorem YuU {fuel:Nat} {T:TypeId} {fs:Array Field} (hT:P.underlying T=some (.struct fs)) {cs:List Value} {x:DataW H×List MemPlace}
  (h:DataW.trod enc P w base spare held (fuel+1) T cs=some x):cs.length=P.cellsOf T/\∀f∈fs.toList,∃y,DataW.trod enc P w base spare held fuel f.type ((cs.drop f.offset).take (P.cellsOf f.type))=some y:=by
 simp only[DataW.trod,hT]at h
 split at h
 ·rename_i hl
  obtain ⟨xs,hxs,_⟩:=Option.map_eq_some_iff.1 h
  exact ⟨hl,fun f hf=>qHu _ _ _ hxs f hf⟩
 ·cases h
theorem Z8z {fuel:Nat} {T e:TypeId} {n:Nat} (hT:P.underlying T=some (.array n e)) {cs:List Value} {x:DataW H×List MemPlace}
  (h:DataW.trod enc P w base spare held (fuel+1) T cs=some x):cs.length=P.cellsOf T/\∀i,i<n->∃y,DataW.trod enc P w base spare held fuel e ((cs.drop (i*P.cellsOf e)).take (P.cellsOf e))=some y:=by
 simp only[DataW.trod,hT]at h
 split at h
 ·rename_i hl
  obtain ⟨xs,hxs,_⟩:=Option.map_eq_some_iff.1 h
  exact ⟨hl,fun i hi=>qHu _ _ _ hxs i (List.mem_range.2 hi)⟩
 ·cases h
theorem zej {fuel:Nat} {T:TypeId} {k:IntKind} (hT:P.underlying T=some (.int k)) {cs:List Value} {x:DataW H×List MemPlace}
  (h:DataW.trod enc P w base spare held fuel T cs=some x):∃n,cs=[.int k n]/\(Lit.int k n).wf=true:=by
 cases fuel with
 | zero=>cases h
 | succ fuel =>
  simp only[DataW.trod,hT]at h
  split at h <;> simp_all
theorem JIz {fuel:Nat} {T:TypeId} (hT:P.underlying T=some .string) {cs:List Value} {x:DataW H×List MemPlace}
  (h:DataW.trod enc P w base spare held fuel T cs=some x):∃s:ByteArray,cs=[.string s]/\s.size<=maxLen:=by
 cases fuel with
 | zero=>cases h
 | succ fuel =>
  simp only[DataW.trod,hT]at h
  split at h <;> simp_all
theorem XEE {α:Type} (R:World->List Value->α->Prop) {fuel:Nat} {T e:TypeId} {size:Nat} (hT:P.underlying T=some (.slice e)) (hc:P.cellsOf e=size) (hsz:0<size)
  (hR:∀fuel cs x,DataW.trod enc P w base (fun _=>true) held fuel e cs=some x->∃t,R w cs t) {cs:List Value} {x:DataW H×List MemPlace}
  (h:DataW.trod enc P w base (fun _=>true) held fuel T cs=some x):∃v,cs=[v]/\∃ts,RdL R size w v ts:=by
 cases fuel with
 | zero=>cases h
 | succ fuel =>
  have hv:∃v,cs=[v]:=by
   have h':=h
   simp only[DataW.trod,hT]at h'
   split at h' <;> simp_all
  obtain ⟨v,rfl⟩:=hv
  exact ⟨v,rfl,QgV R hT hc hsz (fun cs x=>hR fuel cs x) h⟩
theorem Q2d {n:Int} (h:(Lit.int .u8 n).wf=true):Value.int .u8 n=.int .u8 ((UInt8.ofInt n).toNat:Int):=by
 have hb:=bounds_u8 h
 congr 1
 simp only[UInt8.ofInt,UInt8.toNat_ofNat']
 omega
theorem qIh {n:Int} (h:(Lit.int .i64 n).wf=true) : -9223372036854775808<=n/\n<=9223372036854775807:=bounds_i64 h
end
end
end Go.Proofs.YtekeoichmdiiiaaGreat
