/- Part 29 of what the laws' proofs rest on. No condition. -/
import Derived.Test.YtekeoichmdiiiaaGreatTh28
set_option linter.all false
namespace Go.Proofs.YtekeoichmdiiiaaGreat
section
set_option maxRecDepth 100000
set_option maxHeartbeats 8000000
theorem Qht {T:Env} (hT:T.Ok Tryz.prog) {f:AV} {p:TagA->Prop} [DecidablePred p] {h:List AB} {s:AV} {l:List TagA} (hf:∀x∈l,∀H,zHD T f [.ag (tagR.f x)] H=some (.b (decide (p x)),H)) (hs:Rd tagR h s l):FnC Tryz.prog 182 [s,f] h (.i .i64 (idx p l)) h:=by
 refine FnAt.c (FnAt.run (by kernel_rfl) hT Tryz.func182 QO2 fun ho hh=>?_)
 simp only[ZiP,Bool.and_eq_true]at ho
 have f1:=hs.fx ho.1 (sz:=2) rfl
 unfold w182
 simp only[z49,Qs3,XtK,JS3,simprocAttr,f1]
 refine ZDF (S:=Nat) (fun i=>l.length-i) (fun i=>[s,f]++tp 5++[.i .i64 l.length,.i .i64 i]++tp 10) (fun i=>i<=l.length/\idx p l=JOH p (l.drop i) i) 0 ⟨Nat.zero_le _,rfl⟩ (by simp only[XtK,JS3,simprocAttr]) fun i hi=>?_
 simp only[XtK,JS3,simprocAttr,f1]
 refine ⟨fun h2=>?_,fun h2=>?_⟩
 ·have e1:IntKind.i64.wrap ((i:Int)+1)=((i+1:Nat):Int):=Q7p (by have:=hs.2;unfold maxLen at this;unfold In64;omega)
  have e2:=qCK p tagR.d i h2
  have e3:=hf (l.getD i tagR.d) (by rw[List.getD_eq_getElem?_getD,List.getElem?_eq_getElem h2];exact List.getElem_mem h2)
  simp only[XtK,JS3,simprocAttr,f1,h2,Nat.zero_lt_one,e1,e3]
  refine ⟨fun h3=>Bt.eq (by rw[hi.2,e2,if_pos h3]) (List.append_nil h),fun h3=>⟨i+1,⟨h2,?_⟩,by omega,Wk.refl _⟩⟩
  rw[hi.2,e2,if_neg h3]
 ·exact Bt.eq (by rw[hi.2,List.drop_eq_nil_of_le (by omega)];rfl) (List.append_nil h)
open Classical in
noncomputable def ZEf (f:AV) (p Q:TagA->Prop) [DecidablePred p]:List AV->List AB->Option (AV×List AB)
 | [s,f'],h=>(getS tagR h s).bind fun l=>if f'=f/\∀x∈l,Q x then some (.i .i64 (idx p l),h) else none
 | _,_=>none
theorem XeN {T:Env} (hT:T.Ok Tryz.prog) {f:AV} {p Q:TagA->Prop} [DecidablePred p] (hf:∀x,Q x->∀H,zHD T f [.ag (tagR.f x)] H=some (.b (decide (p x)),H)):Spec Tryz.prog 182 (ZEf f p Q):=by
 intro args h v h' e
 unfold ZEf at e
 split at e
 ·rename_i s f'
  obtain ⟨l,hs,e2⟩:=Qk0 e
  split at e2
  ·rename_i hc
   obtain ⟨rfl,hq⟩:=hc
   cases e2
   exact Qht hT (fun x hx=>hf x (hq x hx)) hs
  ·cases e2
 ·cases e
theorem qxs {T:Env} (hT:T.Ok Tryz.prog) {f:AV} {p Q:TagA->Prop} [DecidablePred p] (hf:∀x,Q x->∀H,zHD T f [.ag (tagR.f x)] H=some (.b (decide (p x)),H)) {h:List AB} {s:AV} {l:List TagA} (hq:∀x∈l,Q x) (hs:Rd tagR h s l):FnC Tryz.prog 86 [s,f] h (.b (decide (∃x∈l,p x))) h:=by
 refine FnAt.c (FnAt.run (by kernel_rfl) (T:=⟨[⟨182,ZEf f p Q,fun _=>[]⟩],[]⟩) ⟨⟨XeN hT hf,trivial⟩,trivial⟩ Tryz.func86 sw86 fun ho hh=>?_)
 simp only[ZiP,Bool.and_eq_true]at ho
 have f1:=hs.fx ho.1 (sz:=2) rfl
 have hq':=eq_true (p:=True/\∀x∈l,Q x) ⟨trivial,hq⟩
 have hq2:=eq_true hq
 unfold w86
 simp only[z49,Qs3,XtK,JS3,simprocAttr,f1,ZEf,hq',hq2]
 exact Bt.eq (by simp only[AV.b.injEq,decide_eq_decide];exact XyE p l) (List.append_nil h)
noncomputable def XIu:List AV->List AB->Option (AV×List AB)
 | [a],h=>(getA tagR a).bind fun x=>if x.name.length<=1000000 then some (.b (decide (¬Y7J x.name)),h) else none
 | _,_=>none
theorem Ksr:Spec Tryz.prog 83 XIu:=by
 intro args h v h' e
 unfold XIu at e
 split at e
 ·obtain ⟨x,hx,e2⟩:=XOV e
  clear e
  subst hx
  split at e2
  ·rename_i hl
   cases e2
   refine FnAt.c (FnAt.run (by kernel_rfl) (T:=⟨[⟨84,Q2q,fun _=>[]⟩],[]⟩) ⟨⟨XM1,trivial⟩,trivial⟩ Tryz.func83 sw83 fun ho hh=>?_)
   have wx:=Z4X x
   rw[q2E]at wx
   obtain ⟨te,tp',t1,t2⟩:=XJN x.name
   have ct:=eq_true hl
   unfold w83
   rcases emG (Y7J x.name) with q|q
   ·simp only[z49,Qs3,XtK,K1H,JS3,simprocAttr,CO.tmps,Opd.tmps,optT,q2E,wx,Q2q,ct,t1,t2,q,Xyf,Bool.not_true,Bool.not_false,decide_true,decide_false,ne_eq,not_false_eq_true,not_true_eq_false,false_implies,forall_const,and_true,true_and,Option.map_some]
    exact Bt.dropB _ hh (by simp)
   ·simp only[z49,Qs3,XtK,K1H,JS3,simprocAttr,CO.tmps,Opd.tmps,optT,q2E,wx,Q2q,ct,t1,t2,q,Xyf,Bool.not_true,Bool.not_false,decide_true,decide_false,ne_eq,not_false_eq_true,not_true_eq_false,false_implies,forall_const,and_true,true_and,Option.map_some]
    exact Bt.dropB _ hh (by simp)
  ·cases e2
 ·cases e
noncomputable def Z5l:List AV->List AB->Option (AV×List AB)
 | [a],h=>(getA tagR a).bind fun x=>some (.b (decide (x.held.len=0)),h)
 | _,_=>none
theorem qhg:Spec Tryz.prog 187 Z5l:=by
 intro args h v h' e
 unfold Z5l at e
 split at e
 ·obtain ⟨x,hx,e2⟩:=XOV e
  clear e
  subst hx
  cases e2
  refine FnAt.c (FnAt.run (by kernel_rfl) (T:=⟨[],[]⟩) ⟨trivial,trivial⟩ Tryz.func187 Jb0 fun ho hh=>?_)
  have wx:=Z4X x
  rw[q2E]at wx
  have n1:=x.held.lenV
  have s1:=x.held.str
  unfold w187
  simp only[z49,Qs3,XtK,K1H,JS3,simprocAttr,CO.tmps,Opd.tmps,optT,q2E,wx,n1,s1]
  exact Bt.dropB _ hh rfl
 ·cases e
open Classical in
noncomputable def Y4E:List AV->List AB->Option (AV×List AB)
 | [s,.f (.func g) [] []],h=>(getS tagR h s).bind fun l=>if g=83/\∀x∈l,x.name.length<=1000000 then some (.b (decide (∃x∈l,¬Y7J x.name)),h) else if g=187 then some (.b (decide (∃x∈l,x.held.len=0)),h) else none
 | _,_=>none
theorem QqO:Spec Tryz.prog 86 Y4E:=by
 intro args h v h' e
 unfold Y4E at e
 split at e
 ·rename_i s g
  obtain ⟨l,hs,e2⟩:=Qk0 e
  clear e
  split at e2
  ·rename_i hc
   obtain ⟨rfl,hq⟩:=hc
   cases e2
   have:=qxs (T:=⟨[⟨83,XIu,fun _=>[]⟩],[]⟩) ⟨⟨Ksr,trivial⟩,trivial⟩ (f:=.f (.func 83) [] []) (p:=fun x=>¬Y7J x.name) (Q:=fun x=>x.name.length<=1000000) (fun x hx H=>by
    show XIu [.ag (tagR.f x)] H=_
    simp only[XIu,q2g,Option.bind_some]
    rw[if_pos hx]) hq hs
   exact this
  ·split at e2
   ·rename_i hc
    subst hc
    cases e2
    have:=qxs (T:=⟨[⟨187,Z5l,fun _=>[]⟩],[]⟩) ⟨⟨qhg,trivial⟩,trivial⟩ (f:=.f (.func 187) [] []) (p:=fun x=>x.held.len=0) (Q:=fun _=>True) (fun x hx H=>by
     show Z5l [.ag (tagR.f x)] H=_
     simp only[Z5l,q2g,Option.bind_some]) (fun _ _=>trivial) hs
    exact this
   ·cases e2
 ·cases e
def minF (a b:Int):Int:=min a b
def maxF (a b:Int):Int:=max a b
def minL (l:List Int):Int:=(l.drop 1).foldl minF (l.getD 0 0)
def maxL (l:List Int):Int:=(l.drop 1).foldl maxF (l.getD 0 0)
theorem Xv9 {α β:Type} (f:β->α->β) (b:β) (l:List α) {i:Nat} (h:i<l.length) (d:α):(l.take (i+1)).foldl f b=f ((l.take i).foldl f b) (l.getD i d):=by
 rw[List.take_succ_eq_append_getElem h,List.foldl_append,List.getD_eq_getElem?_getD,List.getElem?_eq_getElem h]
 rfl
noncomputable def XrX:List AV->List AB->Option (AV×List AB)
 | [s],h=>(getS intR h s).bind fun l=>if l.length=0 then none else some (.i .i64 (minL l),h)
 | _,_=>none
noncomputable def KAm:List AV->List AB->Option (AV×List AB)
 | [s],h=>(getS intR h s).bind fun l=>if l.length=0 then none else some (.i .i64 (maxL l),h)
 | _,_=>none
theorem QyN:Spec Tryz.prog 81 XrX:=by
 intro args h v h' e
 unfold XrX at e
 split at e
 ·rename_i s
  obtain ⟨l,hs,e2⟩:=Qk0 e
  clear e
  split at e2
  ·cases e2
  rename_i h0
  cases e2
  refine FnAt.c (FnAt.run (by kernel_rfl) (T:=⟨[],[]⟩) ⟨trivial,trivial⟩ Tryz.func81 sw81 fun ho hh=>?_)
  simp only[ZiP,Bool.and_eq_true]at ho
  have f1:=hs.fx ho.1 (sz:=1) rfl
  have hl:=hs.2
  unfold maxLen at hl
  have g0:((l.length:Int)<1)=False:=eq_false (by omega)
  have g1:((0:Int)<=0/\(0:Int)<(l.length:Int))=True:=eq_true (by omega)
  have g2:(0<l.length)=True:=eq_true (by omega)
  have g3:((0:Int)<(l.length:Int))=True:=eq_true (by omega)
  unfold w81
  simp only[z49,Qs3,XtK,K1H,JS3,simprocAttr,CO.tmps,Opd.tmps,optT,f1,g0,g1,g2,g3,KpI,Nat.zero_lt_one,Int.toNat_zero,Int.le_refl,oD,ne_eq,forall_const]
  refine ZDF (S:=Nat) (fun i=>l.length-i) (fun i=>[s]++tp 2++[.i .i64 (((l.drop 1).take (i-1)).foldl minF (l.getD 0 0)),.i .i64 (i:Int)]++tp 20) (fun i=>1<=i/\i<=l.length) 1 ⟨Nat.le_refl _,by omega⟩ (by simp only[XtK,JS3,simprocAttr,Nat.sub_self,List.take_zero,List.foldl_nil];exact Wk.refl _) fun i hi=>?_
  obtain ⟨i1,i2⟩:=hi
  by_cases g:i<l.length
  ·have g':((i:Int)<(l.length:Int))=True:=eq_true (by omega)
   have gz:((0:Int)<=(i:Int)/\(i:Int)<(l.length:Int))=True:=eq_true (by omega)
   have e1:IntKind.i64.wrap ((i:Int)+1)=((i+1:Nat):Int):=Q7p (by unfold In64;omega)
   have e2:((l.drop 1).take i).foldl minF (l.getD 0 0)=minF (((l.drop 1).take (i-1)).foldl minF (l.getD 0 0)) (l.getD i 0):=by
    obtain ⟨j,rfl⟩:∃j,i=j+1:=⟨i-1,by omega⟩
    have:=Xv9 minF (l.getD 0 0) (l.drop 1) (i:=j) (by rw[List.length_drop];omega) 0
    rw[this]
    congr 1
    rw[List.getD_eq_getElem?_getD,List.getD_eq_getElem?_getD,List.getElem?_drop,Nat.add_comm 1 j]
   generalize hA:((l.drop 1).take (i-1)).foldl minF (l.getD 0 0)=A at *
   have e3:l.getD i intR.d=l.getD i 0:=rfl
   simp only[z49,Qs3,XtK,K1H,JS3,simprocAttr,CO.tmps,Opd.tmps,optT,f1,g,g',gz,e1,e3,KpI,Nat.zero_lt_one,oD,ne_eq,forall_const]
   refine ⟨i+1,⟨by omega,by omega⟩,by omega,?_⟩
   simp only[Nat.add_sub_cancel,e2,minF,J8z,and_true,true_and,Yhh,Xof,zBr]
  ·have g':((i:Int)<(l.length:Int))=False:=eq_false (by omega)
   have hi:(l.drop 1).take (i-1)=l.drop 1:=List.take_of_length_le (by rw[List.length_drop];omega)
   simp only[z49,Qs3,XtK,K1H,JS3,simprocAttr,CO.tmps,Opd.tmps,optT,f1,g',hi,oD,ne_eq,forall_const]
   exact Bt.eq rfl (List.append_nil h)
 ·cases e
theorem XRd:Spec Tryz.prog 82 KAm:=by
 intro args h v h' e
 unfold KAm at e
 split at e
 ·rename_i s
  obtain ⟨l,hs,e2⟩:=Qk0 e
  clear e
  split at e2
  ·cases e2
  rename_i h0
  cases e2
  refine FnAt.c (FnAt.run (by kernel_rfl) (T:=⟨[],[]⟩) ⟨trivial,trivial⟩ Tryz.func82 sw82 fun ho hh=>?_)
  simp only[ZiP,Bool.and_eq_true]at ho
  have f1:=hs.fx ho.1 (sz:=1) rfl
  have hl:=hs.2
  unfold maxLen at hl
  have g0:((l.length:Int)<1)=False:=eq_false (by omega)
  have g1:((0:Int)<=0/\(0:Int)<(l.length:Int))=True:=eq_true (by omega)
  have g2:(0<l.length)=True:=eq_true (by omega)
  have g3:((0:Int)<(l.length:Int))=True:=eq_true (by omega)
  unfold w82
  simp only[z49,Qs3,XtK,K1H,JS3,simprocAttr,CO.tmps,Opd.tmps,optT,f1,g0,g1,g2,g3,KpI,Nat.zero_lt_one,Int.toNat_zero,Int.le_refl,oD,ne_eq,forall_const]
  refine ZDF (S:=Nat) (fun i=>l.length-i) (fun i=>[s]++tp 2++[.i .i64 (((l.drop 1).take (i-1)).foldl maxF (l.getD 0 0)),.i .i64 (i:Int)]++tp 20) (fun i=>1<=i/\i<=l.length) 1 ⟨Nat.le_refl _,by omega⟩ (by simp only[XtK,JS3,simprocAttr,Nat.sub_self,List.take_zero,List.foldl_nil];exact Wk.refl _) fun i hi=>?_
  obtain ⟨i1,i2⟩:=hi
  by_cases g:i<l.length
  ·have g':((i:Int)<(l.length:Int))=True:=eq_true (by omega)
   have gz:((0:Int)<=(i:Int)/\(i:Int)<(l.length:Int))=True:=eq_true (by omega)
   have e1:IntKind.i64.wrap ((i:Int)+1)=((i+1:Nat):Int):=Q7p (by unfold In64;omega)
   have e2:((l.drop 1).take i).foldl maxF (l.getD 0 0)=maxF (((l.drop 1).take (i-1)).foldl maxF (l.getD 0 0)) (l.getD i 0):=by
    obtain ⟨j,rfl⟩:∃j,i=j+1:=⟨i-1,by omega⟩
    have:=Xv9 maxF (l.getD 0 0) (l.drop 1) (i:=j) (by rw[List.length_drop];omega) 0
    rw[this]
    congr 1
    rw[List.getD_eq_getElem?_getD,List.getD_eq_getElem?_getD,List.getElem?_drop,Nat.add_comm 1 j]
   generalize hA:((l.drop 1).take (i-1)).foldl maxF (l.getD 0 0)=A at *
   have e3:l.getD i intR.d=l.getD i 0:=rfl
   simp only[z49,Qs3,XtK,K1H,JS3,simprocAttr,CO.tmps,Opd.tmps,optT,f1,g,g',gz,e1,e3,KpI,Nat.zero_lt_one,oD,ne_eq,forall_const]
   refine ⟨i+1,⟨by omega,by omega⟩,by omega,?_⟩
   simp only[Nat.add_sub_cancel,e2,maxF,J8z,and_true,true_and,Yhh,Xof,zBr]
  ·have g':((i:Int)<(l.length:Int))=False:=eq_false (by omega)
   have hi:(l.drop 1).take (i-1)=l.drop 1:=List.take_of_length_le (by rw[List.length_drop];omega)
   simp only[z49,Qs3,XtK,K1H,JS3,simprocAttr,CO.tmps,Opd.tmps,optT,f1,g',hi,oD,ne_eq,forall_const]
   exact Bt.eq rfl (List.append_nil h)
 ·cases e
theorem KnZ:∀(l:List Int) (b c:Int),l.foldl minF b<c↔b<c\/∃x∈l,x<c
 | [],b,c=>by simp
 | x::l,b,c=>by
  have e:minF b x<c↔b<c\/x<c:=by unfold minF;omega
  rw[List.foldl_cons,KnZ l,e]
  simp only[List.mem_cons,exists_eq_or_imp,or_assoc]
theorem Zdz:∀(l:List Int) (b c:Int),c<l.foldl maxF b↔c<b\/∃x∈l,c<x
 | [],b,c=>by simp
 | x::l,b,c=>by
  have e:c<maxF b x↔c<b\/c<x:=by unfold maxF;omega
  rw[List.foldl_cons,Zdz l,e]
  simp only[List.mem_cons,exists_eq_or_imp,or_assoc]
theorem YXG {l:List Int} (h:l.length≠0) {p:Int->Prop}:(p (l.getD 0 0)\/∃x∈l.drop 1,p x)↔∃x∈l,p x:=by
 cases l with
 | nil=>exact absurd rfl h
 | cons a l=>simp
theorem ZL4 {l:List Int} (h:l.length≠0) (c:Int):minL l<c↔∃x∈l,x<c:=(KnZ _ _ _).trans (YXG h (p:=fun x=>x<c))
theorem KlH {l:List Int} (h:l.length≠0) (c:Int):c<maxL l↔∃x∈l,c<x:=(Zdz _ _ _).trans (YXG h (p:=fun x=>c<x))
end
section
set_option maxRecDepth 100000
set_option maxHeartbeats 8000000
theorem Rd.any {α:Type} {r:Row α} {h:List AB} {i:Nat} {s:AV} {l:List α} (e:Rd r (h.set i .dead) s l) (hi:i<h.length) (B:AB):Rd r (oB h i B) s l:=by
 refine ⟨?_,e.2⟩
 have h1:=e.1
 cases s <;> first|exact h1|skip
 rename_i id off len cap k
 simp only[rdS]at h1 ⊢
 split at h1
 ·rename_i h0
  rw[if_pos h0]
  exact h1
 ·rename_i h0
  rw[if_neg h0]
  by_cases q:id=i
  ·subst q
   have:zZU (h.set id .dead) id=none:=by unfold zZU;rw[List.getElem?_set_self hi]
   rw[this]at h1
   cases h1
  ·have e1:zZU (h.set i .dead) id=zZU h id:=by unfold zZU;rw[List.getElem?_set_ne (Ne.symm q)]
   have e2:zZU (oB h i B) id=zZU h id:=by unfold zZU oB;rw[List.getElem?_set_ne (Ne.symm q)]
   rw[e2,<-e1]
   exact h1
structure Fm4 (h:List AB) (mb tb mi:Nat) (v:AV) (V:List Int) (D:List (Int×Int)):Prop where
 hmb:zZU h mb=some [.m mi]
 htb:∃s,zZU h tb=some [v,s]
 hmi:h[mi]?=some (mtT D)
 hv:Rd intR (h.set mi .dead) v V
open Classical in
noncomputable def fm4M (h:List AB) (mb tb:Nat):Option (Nat×List Int×List (Int×Int)):=if e:∃x:Nat×List Int×List (Int×Int),∃v,Fm4 h mb tb x.1 v x.2.1 x.2.2 then some e.choose else none
theorem Fm4.get {h:List AB} {mb tb mi:Nat} {v:AV} {V:List Int} {D:List (Int×Int)} (H:Fm4 h mb tb mi v V D):fm4M h mb tb=some (mi,V,D):=by
 have e:∃x:Nat×List Int×List (Int×Int),∃v,Fm4 h mb tb x.1 v x.2.1 x.2.2:=⟨(mi,V,D),v,H⟩
 unfold fm4M
 rw[dif_pos e]
 obtain ⟨v',K⟩:=e.choose_spec
 generalize e.choose=x at *
 obtain ⟨mi',V',D'⟩:=x
 dsimp only at K
 have h1:=H.hmb.symm.trans K.hmb
 simp only[Option.some.injEq,List.cons.injEq,AV.m.injEq,and_true]at h1
 subst h1
 obtain ⟨s,h2⟩:=H.htb
 obtain ⟨s',h3⟩:=K.htb
 have h4:=h2.symm.trans h3
 simp only[Option.some.injEq,List.cons.injEq,and_true]at h4
 obtain ⟨rfl,_⟩:=h4
 have h5:=H.hv.inj K.hv
 have h6:=Kvo (Option.some.inj (H.hmi.symm.trans K.hmi))
 rw[h5,h6]
theorem JmD {β:Type} {h:List AB} {mb tb:Nat} {f:Nat×List Int×List (Int×Int)->Option β} {b:β} (e:(fm4M h mb tb).bind f=some b):∃mi v V D,Fm4 h mb tb mi v V D/\f (mi,V,D)=some b:=by
 obtain ⟨x,h1,h2⟩:=oQ.1 e
 unfold fm4M at h1
 split at h1
 ·rename_i hx
  cases h1
  obtain ⟨v,K⟩:=hx.choose_spec
  exact ⟨_,v,_,_,K,h2⟩
 ·cases h1
def K1o (V:List Int):List Hd->List (Int×Int)->Prop
 | [],_=>True
 | x::l,D=>x.1∉D/\vhas V x.1/\K1o V l (D++[x.1])
def Qgi (V:List Int) (D:List (Int×Int)) (L:List Hd):Prop:=K1o V L D/\Qs4 (fun a b:Hd=>JTv a.1 b.1) zEN.d L
open Classical in
noncomputable def aftB (V:List Int) (D:List (Int×Int)) (L:List Hd):AB:=if Qgi V D L then mtT (D++L.map (·.1)) else .dead
open Classical in
noncomputable def YjU:List AV->List AB->Option (AV×List AB)
 | [.s _,.s _,.b _,l,.p mb 0,.p tb 0],h=>(fm4M h mb tb).bind fun x=>(getS zEN (h.set x.1 .dead) l).bind fun L=>some (.b (decide (Qgi x.2.1 x.2.2 L)),oB h x.1 (aftB x.2.1 x.2.2 L))
 | _,_=>none
theorem Bt.deadO {P:Program} {p:Nat} {fr:List AV} {h:List AB} {i:Nat} {D:List (Int×Int)} (hi:i<h.length):Bt P p fr (oB h i (mtT D)) fr (oB h i .dead):=by
 have h1:(oB h i (mtT D))[i]?=some (mtT D):=by
  have:=ZSQ hi (mtT D) []
  rwa [List.append_nil]at this
 have:=Bt.less (P:=P) (p:=p) (fr:=fr) (h:=oB h i (mtT D)) (i:=i) (B':=.dead) h1 (fun ρ w b o q _=>trivial) (fun q=>by cases q) (fun q=>by cases q)
 have e:(oB h i (mtT D)).set i .dead=oB h i .dead:=by unfold oB;rw[List.set_set]
 rwa [e]at this
open Classical in
theorem ZCj:Spec Tryz.prog 188 YjU:=by
 intro args h v h' e
 unfold YjU at e
 split at e
 ·rename_i a0 a1 a2 l mb tb
  obtain ⟨mi,v0,V,D,H,e2⟩:=JmD e
  clear e
  obtain ⟨L,hl,e3⟩:=Qk0 e2
  clear e2
  dsimp only at hl e3
  rw[Option.some.injEq,Prod.mk.injEq]at e3
  obtain ⟨rfl,rfl⟩:=e3
  refine FnAt.c (FnAt.run (by kernel_rfl) (T:=⟨[⟨61,zBz,fun _=>[]⟩,⟨189,q4a,fun _=>[]⟩],[]⟩) ⟨⟨zc9,zkv,trivial⟩,trivial⟩ Tryz.func188 z2D fun ho hh=>?_)
  have hmil:=(List.getElem?_eq_some_iff.1 H.hmi).1
  have e0:h++[]=oB h mi (mtT D)++[]:=by rw[YAs H.hmi]
  rw[e0]
  have n1:mb≠mi:=by
   rintro rfl
   have:=H.hmb
   unfold zZU at this
   rw[H.hmi]at this
   cases this
  have n2:tb≠mi:=by
   rintro rfl
   obtain ⟨s,this⟩:=H.htb
   unfold zZU at this
   rw[H.hmi]at this
   cases this
  simp only[ZiP,q0E,Bool.and_eq_true,and_true]at ho
  obtain ⟨-,-,-,hol,homb,hotb⟩:=ho
  obtain ⟨s0,htb⟩:=H.htb
  have lmb:∀M L o,ldV (oB h mi (mtT M)++L) none (.p mb o)=[AV.m mi][o]?:=fun M L o=>by
   rw[XDt H.hmb n1]
   simp only[ldV,H.hmb,Option.bind_some]
  have ltb:∀M L o,ldV (oB h mi (mtT M)++L) none (.p tb o)=[v0,s0][o]?:=fun M L o=>by
   rw[XDt htb n2]
   simp only[ldV,htb,Option.bind_some]
  have lkm:∀M L z x y,lkV (oB h mi (mtT M)++L) true [.i,.i] true z (.m mi) (.ag [.i .i64 x,.i .i64 y])=some (lkR true z (fndM dotK (x,y) (ksT M) 0)):=fun M L z x y=>JOf dotK hmil true (ksT M) L true z (x,y)
  have mum:∀M L x y,(x,y)∉M->muV (oB h mi (mtT M)++L) true [.i,.i] (.m mi) (.ag [.i .i64 x,.i .i64 y]) (.ag [])=some (oB h mi (mtT (M++[(x,y)]))++L):=fun M L x y hn=>by
   have:=Y5E dotK hmil (ksT M) L (x,y) (.ag [])
   rw[ZY8 hn]at this
   exact this
  have gv:∀M L,getS intR (oB h mi (mtT M)++L) v0=some V:=fun M L=>((H.hv.any hmil (mtT M)).app L).get
  have gl:∀M L',getS zEN (oB h mi (mtT M)++L') l=some L:=fun M L'=>((hl.any hmil (mtT M)).app L').get
  have srd:∀M,Rd zEN (oB h mi (mtT M)) l L:=fun M=>hl.any hmil (mtT M)
  have sstr:=QP8 hl.isSl
  have slen:=hl.len
  have siad:∀k m,iadV 34 l (.i k m)=if 0<=m/\m<(L.length:Int) then some (elP 34 l m.toNat 0) else none:=hl.iad
  have sld:∀M L' i,i<L.length->ldV (oB h mi (mtT M)++L') (some 34) (elP 34 l i 0)=some (.ag (zEN.f (L.getD i zEN.d))):=fun M L' i hi=>((srd M).app L').lda i hi
  have hll:=hl.2
  unfold maxLen at hll
  have lr0:∀z,lkR true z none=.tu [z,.b false]:=fun _=>rfl
  have lr1:∀z j v,lkR true z (some (j,v))=.tu [v,.b true]:=fun _ _ _=>rfl
  have kd:∀z:Hd,(zEN.f z).take 2=[.i .i64 z.1.1,.i .i64 z.1.2]:=fun _=>rfl
  have ovH:∀(zs:List AV) (z:Hd),zs.length=34->over zs 0 (zEN.f z)=zEN.f z:=fun zs z hz=>JRk (by rw[zEN.len,hz];rfl)
  have hlen:∀z:Hd,(zEN.f z).length=34:=fun z=>zEN.len z
  unfold w188
  simp only[z49,Qs3,XtK,Q8d,simprocAttr,ZrP,sstr,slen]
  refine JLk (S:=Nat) (fun i=>L.length-i) (fun i=>tp 3++[l,.p mb 0,.p tb 0]++tp 9++[l,.i .i64 (L.length:Int),.i .i64 (i:Int)]++tp 26) (fun i=>oB h mi (mtT (D++(L.take i).map (·.1)))++[]) (fun i=>i<=L.length/\(K1o V (L.drop i) (D++(L.take i).map (·.1))↔K1o V L D)) 0 ⟨Nat.zero_le _,by simp⟩ ?_ fun i hi=>?_
  ·rw[show D++(L.take 0).map (·.1)=D by simp]
   refine Bt.wk ?_
   simp only[XtK,JS3,simprocAttr]
  obtain ⟨i1,i2⟩:=hi
  by_cases g:i<L.length
  rotate_left
  ·have g':((i:Int)<(L.length:Int))=False:=eq_false (by omega)
   have ht:L.take i=L:=List.take_of_length_le (by omega)
   have hst:K1o V L D:=i2.1 (by rw[List.drop_eq_nil_of_le (by omega)];trivial)
   rw[ht]
   simp only[z49,Qs3,XtK,Q8d,simprocAttr,ZrP,sstr,slen,g',q4a,gl,QMP hmil hh,YXJ,hol,homb,decide_true,decide_false,ne_eq,not_false_eq_true,not_true_eq_false,false_implies,forall_const,and_true,true_and,Option.bind_some,if_true]
   by_cases hr:Qs4 (fun a b:Hd=>JTv a.1 b.1) zEN.d L
   ·have hok:Qgi V D L:=⟨hst,hr⟩
    unfold aftB
    rw[if_pos hok,decide_eq_true hok,decide_eq_true hr]
    exact Bt.eq rfl (List.append_nil _)
   ·have hok:¬Qgi V D L:=fun z=>hr z.2
    unfold aftB
    rw[if_neg hok,decide_eq_false hok,decide_eq_false hr,List.append_nil]
    exact Bt.deadO hmil
  have g':((i:Int)<(L.length:Int))=True:=eq_true (by omega)
  have gz:((0:Int)<=(i:Int)/\(i:Int)<(L.length:Int))=True:=eq_true (by omega)
  have e1:IntKind.i64.wrap ((i:Int)+1)=((i+1:Nat):Int):=Q7p (by unfold In64;omega)
  have hx0:L.getD i zEN.d=L[i]:=by rw[List.getD_eq_getElem?_getD,List.getElem?_eq_getElem g];rfl
  have htk:(L.take (i+1)).map (·.1)=(L.take i).map (·.1)++[L[i].1]:=by rw[List.take_succ_eq_append_getElem g,List.map_append];rfl
  have hdr:L.drop i=L[i]::L.drop (i+1):=List.drop_eq_getElem_cons g
  rw[hdr]at i2
  generalize L[i]=x at *
  obtain ⟨M,hM⟩:∃M,D++(L.take i).map (·.1)=M:=⟨_,rfl⟩
  rw[hM]at i2
  have hM2:D++(L.take (i+1)).map (·.1)=M++[x.1]:=by rw[htk,<-List.append_assoc,hM]
  rw[hM]
  have hno:¬Qgi V D L->aftB V D L=.dead:=fun z=>if_neg z
  by_cases q1:x.1∈M
  ·obtain ⟨jj,hf⟩:=Q1g.1 q1
   have hok:¬Qgi V D L:=fun z=>(i2.2 z.1).1 q1
   simp only[z49,Qs3,XtK,Q8d,simprocAttr,ZrP,zYD,sstr,slen,siad,g,g',gz,sld,hx0,kd,ovH,hlen,Yi0,lmb,ltb,lkm,hf,lr1,List.length_cons,List.length_nil,List.drop_zero,List.getElem?_cons_zero,List.getElem?_cons_succ,Option.map_some,decide_true,decide_false,ne_eq,not_false_eq_true,not_true_eq_false,false_implies,forall_const,and_true,true_and,Option.bind_some,if_true]
   rw[hno hok,decide_eq_false hok]
   exact (Bt.selO (l':=[]) (fr':=[.b false]) [] hh (fun q=>YXJ q M) (by decide) (by simp only[Ztz,FrSel,BlkSel,AV.ren,renL,AV.ok,okL,Option.some.injEq,exists_eq_left',List.length_cons,List.length_nil,Nat.reduceAdd,Nat.reduceLT,reduceCtorEq,implies_true,exists_eq']) (by simp only[tp_0,tp_s,List.cons_append,List.nil_append,Ztz,FrSel,BlkSel,AV.ren,renL,AV.ok,okL,Option.some.injEq,exists_eq_left',List.length_cons,List.length_nil,Nat.reduceAdd,Nat.reduceLT,reduceCtorEq,implies_true,exists_eq'])).trans (by rw[List.append_nil];exact Bt.deadO hmil)
  have hf:=Q1g.2 q1
  rcases emG (vhas V x.1) with q2|q2
  rotate_left
  ·have hok:¬Qgi V D L:=fun z=>of_eq_false q2 (i2.2 z.1).2.1
   simp only[z49,Qs3,XtK,Q8d,simprocAttr,ZrP,zYD,sstr,slen,siad,g,g',gz,sld,hx0,kd,ovH,hlen,Yi0,lmb,ltb,lkm,hf,lr0,zBz,gv,q2,QpH,QMP hmil hh,YXJ,List.length_cons,List.length_nil,List.drop_zero,List.getElem?_cons_zero,List.getElem?_cons_succ,Option.map_some,Bool.not_true,Bool.not_false,decide_true,decide_false,ne_eq,not_false_eq_true,not_true_eq_false,false_implies,forall_const,and_true,true_and,Option.bind_some,if_true]
   rw[hno hok,decide_eq_false hok]
   exact (Bt.selO (l':=[]) (fr':=[.b false]) [] hh (fun q=>YXJ q M) (by decide) (by simp only[Ztz,FrSel,BlkSel,AV.ren,renL,AV.ok,okL,Option.some.injEq,exists_eq_left',List.length_cons,List.length_nil,Nat.reduceAdd,Nat.reduceLT,reduceCtorEq,implies_true,exists_eq']) (by simp only[tp_0,tp_s,List.cons_append,List.nil_append,Ztz,FrSel,BlkSel,AV.ren,renL,AV.ok,okL,Option.some.injEq,exists_eq_left',List.length_cons,List.length_nil,Nat.reduceAdd,Nat.reduceLT,reduceCtorEq,implies_true,exists_eq'])).trans (by rw[List.append_nil];exact Bt.deadO hmil)
  simp only[z49,Qs3,XtK,Q8d,simprocAttr,ZrP,zYD,YBc,sstr,slen,siad,g,g',gz,e1,sld,hx0,kd,ovH,hlen,Yi0,lmb,ltb,lkm,mum _ _ _ _ q1,hf,lr0,zBz,gv,q2,QpH,QMP hmil hh,YXJ,List.length_cons,List.length_nil,List.drop_zero,List.getElem?_cons_zero,List.getElem?_cons_succ,Option.map_some,Bool.not_true,Bool.not_false,decide_true,decide_false,ne_eq,not_false_eq_true,not_true_eq_false,false_implies,forall_const,and_true,true_and,Option.bind_some,if_true]
  refine ⟨i+1,⟨g,?_⟩,by dsimp only;omega,?_⟩
  ·rw[hM2]
   refine Iff.trans ?_ i2
   exact ⟨fun z=>⟨q1,of_eq_true q2,z⟩,fun z=>z.2.2⟩
  ·dsimp only
   rw[hM2]
   have sor:∀sel,Wk (l.ren (selN h.length sel)) l:=fun sel=>Wk.ren (fun i hi=>qMB hi) hol
   simp only[ok_p,decide_eq_true_eq]at homb hotb
   have q5:∀sel,selN h.length sel mb=mb:=fun sel=>qMB homb
   have q6:∀sel,selN h.length sel tb=tb:=fun sel=>qMB hotb
   have q7:∀c,(mb<h.length+c)=True:=fun c=>eq_true (by omega)
   have q8:∀c,(tb<h.length+c)=True:=fun c=>eq_true (by omega)
   exact Bt.selO [] hh (fun q=>YXJ q _) (by decide) (by simp only[Ztz,FrSel,BlkSel,AV.ren,renL,AV.ok,okL,Option.some.injEq,exists_eq_left',List.length_cons,List.length_nil,Nat.reduceAdd,Nat.reduceLT,reduceCtorEq,implies_true,exists_eq']) (by simp only[tp_0,tp_s,List.cons_append,List.nil_append,Ztz,FrSel,BlkSel,AV.ren,renL,AV.ok,okL,Option.some.injEq,exists_eq_left',List.length_cons,List.length_nil,Nat.reduceAdd,Nat.reduceLT,reduceCtorEq,implies_true,exists_eq',hol,sor,q5,q6,q7,q8,homb,hotb])
 ·cases e
end
section
set_option maxRecDepth 100000
set_option maxHeartbeats 8000000
def XH8 (r:RpD):List (List Hd):=r.tags.map (·.held)++[r.mans]
def qYW (l:List RpD):List (List Hd):=l.flatMap XH8
def z8C (V:List Int):List (List Hd)->List (Int×Int)->Prop
 | [],_=>True
 | L::LL,D=>Qgi V D L/\z8C V LL (D++L.map (·.1))
def qAa (LL:List (List Hd)):List (Int×Int):=LL.flatten.map (·.1)
theorem X9e:qAa []=[]:=oI rfl
theorem J8J (L:List Hd) (LL:List (List Hd)):qAa (L::LL)=L.map (·.1)++qAa LL:=by simp [qAa]
theorem QGF (A B:List (List Hd)):qAa (A++B)=qAa A++qAa B:=by simp [qAa]
theorem Qz4 (V:List Int):∀(A B:List (List Hd)) (D:List (Int×Int)),z8C V (A++B) D↔z8C V A D/\z8C V B (D++qAa A)
 | [],B,D=>by simp [z8C,X9e]
 | L::A,B,D=>by
  rw[List.cons_append,z8C,z8C,Qz4 V A B,J8J,and_assoc,List.append_assoc]
open Classical in
noncomputable def aftA (V:List Int) (D:List (Int×Int)) (LL:List (List Hd)):AB:=if z8C V LL D then mtT (D++qAa LL) else .dead
open Classical in
noncomputable def qQm:List AV->List AB->Option (AV×List AB)
 | [a,.f (.func g) [] [.p mb 0,.p tb 0]],h=>if g=188 then (fm4M h mb tb).bind fun x=>(getT (h.set x.1 .dead) a).bind fun t=>some (.b (decide (z8C x.2.1 (qYW t.repos) x.2.2)),oB h x.1 (aftA x.2.1 x.2.2 (qYW t.repos))) else none
 | _,_=>none
theorem KHE {h:List AB} {mi:Nat} (hi:mi<h.length) (A B:AB) (X:List AB):oB (oB h mi A++X) mi B=oB h mi B++X:=zH8 hi A B X
theorem Fm4.mv {h:List AB} {mb tb mi:Nat} {v:AV} {V:List Int} {D:List (Int×Int)} (H:Fm4 h mb tb mi v V D) (M:List (Int×Int)) (X:List AB):Fm4 (oB h mi (mtT M)++X) mb tb mi v V M:=by
 have hmi:=(List.getElem?_eq_some_iff.1 H.hmi).1
 have n1:mb≠mi:=by
  rintro rfl
  have:=H.hmb
  unfold zZU at this
  rw[H.hmi]at this
  cases this
 have n2:tb≠mi:=by
  rintro rfl
  obtain ⟨s,this⟩:=H.htb
  unfold zZU at this
  rw[H.hmi]at this
  cases this
 obtain ⟨s,hs⟩:=H.htb
 refine ⟨?_,⟨s,?_⟩,ZSQ hmi _ _,?_⟩
 ·have:=H.hmb
  unfold zZU at this ⊢
  rw[ztZ (ZT4 H.hmb) n1]
  exact this
 ·have:=hs
  unfold zZU at this ⊢
  rw[ztZ (ZT4 hs) n2]
  exact this
 ·have e:(oB h mi (mtT M)++X).set mi .dead=h.set mi .dead++X:=zH8 hmi _ _ _
  rw[e]
  exact H.hv.app X
open Classical in
theorem QXI:Spec Tryz.prog 151 qQm:=by
 intro args h v h' e
 unfold qQm at e
 split at e
 ·rename_i a g mb tb
  split at e
  case isFalse=>cases e
  rename_i hg
  subst hg
  obtain ⟨mi,v0,V,D,H,e2⟩:=JmD e
  clear e
  obtain ⟨v1,s1,n1,m,rfl,ha,e3⟩:=JfV e2
  clear e2
  dsimp only at ha e3
  rw[Option.some.injEq,Prod.mk.injEq]at e3
  obtain ⟨rfl,rfl⟩:=e3
  refine FnAt.c (FnAt.run (by kernel_rfl) (T:=⟨[⟨188,YjU,fun _=>[]⟩],[]⟩) ⟨⟨ZCj,trivial⟩,trivial⟩ Tryz.func151 KA4 fun ho hh=>?_)
  have hmil:=(List.getElem?_eq_some_iff.1 H.hmi).1
  have e0:h++[]=oB h mi (mtT D)++[]:=by rw[YAs H.hmi]
  rw[e0]
  simp only[ZiP,q0E,JL2,ok_f,ok_p,Bool.and_eq_true,and_true,true_and,decide_eq_true_eq]at ho
  have homb:mb<h.length:=by have:=ZT4 H.hmb;exact this
  have hotb:tb<h.length:=by obtain ⟨s,hs⟩:=H.htb;exact ZT4 hs
  have osl:s1.ok (fun i=>decide (i<h.length))=true:=ho.1.2
  have vone:=Zcq ha.v.isSl
  have sone:=Zcq ha.s.s.isSl
  have hst:∀(B:AB) (X:List AB),(oB h mi B++X).set mi .dead=h.set mi .dead++X:=fun B X=>zH8 hmil _ _ _
  have oba:=fun A B X=>KHE hmil A B X
  have hsl:=ha.s.s
  rw[XBQ]at hsl
  have srd:∀B,Rd repR (oB h mi B) s1 (m.map (·.1)):=fun B=>hsl.any hmil B
  have sstr:=QP8 hsl.isSl
  have slen:=hsl.len
  rw[List.length_map]at slen
  have siad:∀k n,iadV 3 s1 (.i k n)=if 0<=n/\n<(m.length:Int) then some (elP 3 s1 n.toNat 0) else none:=fun k n=>by
   have:=hsl.iad k n
   rwa [List.length_map]at this
  have sld:∀B L' i,i<m.length->ldV (oB h mi B++L') (some 3) (elP 3 s1 i 0)=some (.ag (repR.f ((m.map (·.1)).getD i repR.d))):=fun B L' i hi=>((srd B).app L').lda i (by rw[List.length_map];exact hi)
  have hll:m.length<=maxLen:=ha.s.len
  unfold maxLen at hll
  have fmx:∀M X,fm4M (oB h mi (mtT M)++X) mb tb=some (mi,V,M):=fun M X=>(H.mv M X).get
  have ovR:∀(zs:List AV) (a b c:AV),zs.length=3->over zs 0 [a,b,c]=[a,b,c]:=fun zs a b c hz=>JRk (by rw[hz];rfl)
  have ovG:∀(zs:List AV) (a b:AV),zs.length=2->over zs 0 [a,b]=[a,b]:=fun zs a b hz=>JRk (by rw[hz];rfl)
  have q5:∀sel,selN h.length sel mb=mb:=fun sel=>qMB homb
  have q6:∀sel,selN h.length sel tb=tb:=fun sel=>qMB hotb
  have q7:∀c,(mb<h.length+c)=True:=fun c=>eq_true (by omega)
  have q8:∀c,(tb<h.length+c)=True:=fun c=>eq_true (by omega)
  have sor:∀sel,Wk (s1.ren (selN h.length sel)) s1:=fun sel=>Wk.ren (fun i hi=>qMB hi) osl
  have sok:∀c,s1.ok (fun i=>decide (i<h.length+c))=true:=fun c=>AV.ok_mono (fun i q=>by simp only[decide_eq_true_eq]at q ⊢;omega) s1 osl
  have fail:∀ {fr:List AV} (X:List AB),¬z8C V (qYW (m.map (·.2))) D->Bt Tryz.prog h.length [.b false] (oB h mi .dead++X) [.b (decide (z8C V (qYW (m.map (·.2))) D))] (oB h mi (aftA V D (qYW (m.map (·.2))))):=fun X hn=>by
   unfold aftA
   rw[if_neg hn,decide_eq_false hn]
   have:=Bt.selO (P:=Tryz.prog) (h:=h) (id:=mi) (B0:=.dead) (l:=X) (l':=[]) (fr:=[.b false]) (fr':=[.b false]) [] hh (fun _=>rfl) (by decide) (by simp only[Ztz,FrSel,BlkSel,AV.ren,renL,AV.ok,okL,Option.some.injEq,exists_eq_left',List.length_cons,List.length_nil,Nat.reduceAdd,Nat.reduceLT,reduceCtorEq,implies_true,exists_eq']) (by simp only[Ztz,FrSel,BlkSel,AV.ren,renL,AV.ok,okL,Option.some.injEq,exists_eq_left',List.length_cons,List.length_nil,Nat.reduceAdd,Nat.reduceLT,reduceCtorEq,implies_true,exists_eq'])
   rwa [List.append_nil]at this
  unfold w151
  simp only[z49,Qs3,XtK,Q8d,simprocAttr,ZrP,sstr,slen,vone,sone,Bool.and_self]
  refine JLk (S:=Nat) (fun i=>m.length-i) (fun i=>tp 1++[.f (.func 188) [] [.p mb 0,.p tb 0]]++tp 8++[s1,.i .i64 (m.length:Int),.i .i64 (i:Int)]++tp 28) (fun i=>oB h mi (mtT (D++qAa (qYW ((m.take i).map (·.2)))))++[]) (fun i=>i<=m.length/\(z8C V (qYW ((m.drop i).map (·.2))) (D++qAa (qYW ((m.take i).map (·.2))))↔z8C V (qYW (m.map (·.2))) D)) 0 ⟨Nat.zero_le _,by simp [qYW,qAa]⟩ ?_ fun i hi=>?_
  ·rw[show D++qAa (qYW ((m.take 0).map (·.2)))=D by simp [qYW,qAa]]
   exact Bt.selO [] hh (fun q=>YXJ q _) (by decide) (by simp only[Ztz,FrSel,BlkSel,AV.ren,renL,AV.ok,okL,Option.some.injEq,exists_eq_left',List.length_cons,List.length_nil,Nat.reduceAdd,Nat.reduceLT,reduceCtorEq,implies_true,exists_eq']) (by simp only[tp_0,tp_s,List.cons_append,List.nil_append,Ztz,FrSel,BlkSel,AV.ren,renL,AV.ok,okL,Option.some.injEq,exists_eq_left',List.length_cons,List.length_nil,Nat.reduceAdd,Nat.reduceLT,reduceCtorEq,implies_true,exists_eq',sok,osl,sor,q5,q6,q7,q8,homb,hotb,Int.natCast_zero])
  obtain ⟨i1,i2⟩:=hi
  by_cases g:i<m.length
  rotate_left
  ·have g':((i:Int)<(m.length:Int))=False:=eq_false (by omega)
   have ht:m.take i=m:=List.take_of_length_le (by omega)
   have hok:z8C V (qYW (m.map (·.2))) D:=i2.1 (by rw[List.drop_eq_nil_of_le (by omega)];trivial)
   rw[ht]
   simp only[z49,Qs3,XtK,Q8d,simprocAttr,ZrP,g',oD,ne_eq,forall_const]
   unfold aftA
   rw[if_pos hok,decide_eq_true hok]
   exact Bt.eq rfl (List.append_nil _)
  have g':((i:Int)<(m.length:Int))=True:=eq_true (by omega)
  have gz:((0:Int)<=(i:Int)/\(i:Int)<(m.length:Int))=True:=eq_true (by omega)
  have e1:IntKind.i64.wrap ((i:Int)+1)=((i+1:Nat):Int):=Q7p (by unfold In64;omega)
  obtain ⟨dx,rx,ox⟩:=ha.s.at g
  have htk:qYW ((m.take (i+1)).map (·.2))=qYW ((m.take i).map (·.2))++XH8 m[i].2:=by
   rw[List.take_succ_eq_append_getElem g,List.map_append]
   unfold qYW
   rw[List.flatMap_append]
   simp
  have hdr:qYW ((m.drop i).map (·.2))=XH8 m[i].2++qYW ((m.drop (i+1)).map (·.2)):=by
   rw[List.drop_eq_getElem_cons g,List.map_cons]
   rfl
  rw[hdr,Qz4]at i2
  generalize m[i]=ex at *
  obtain ⟨x,X⟩:=ex
  dsimp only at *
  obtain ⟨M,hM⟩:∃M,D++qAa (qYW ((m.take i).map (·.2)))=M:=⟨_,rfl⟩
  have hM2:D++qAa (qYW ((m.take (i+1)).map (·.2)))=M++qAa (XH8 X):=by rw[htk,QGF,<-List.append_assoc,hM]
  rw[hM]at i2
  rw[hM]
  obtain ⟨nx,⟨tx,htx,etx⟩,mx⟩:=Xxg rx
  rw[XBQ]at dx ox
  rw[List.length_set]at ox
  have wx:=zUA x
  rw[X6g]at ox wx
  simp only[ZiP,q0E,ok_s,Bool.and_eq_true,and_true,true_and]at ox
  have htl:=htx.s
  rw[QMV]at htl
  have trd:∀B,Rd tagR (oB h mi B) x.tags.a (tx.map (·.1)):=fun B=>htl.any hmil B
  have tstr:=QP8 htl.isSl
  have tlen:=htl.len
  rw[List.length_map]at tlen
  have tiad:∀k n,iadV 2 x.tags.a (.i k n)=if 0<=n/\n<(tx.length:Int) then some (elP 2 x.tags.a n.toNat 0) else none:=fun k n=>by
   have:=htl.iad k n
   rwa [List.length_map]at this
  have tld:∀B L' j,j<tx.length->ldV (oB h mi B++L') (some 2) (elP 2 x.tags.a j 0)=some (.ag (tagR.f ((tx.map (·.1)).getD j tagR.d))):=fun B L' j hj=>((trd B).app L').lda j (by rw[List.length_map];exact hj)
  have tll:tx.length<=maxLen:=htx.len
  unfold maxLen at tll
  have tor:∀sel,Wk (x.tags.a.ren (selN h.length sel)) x.tags.a:=fun sel=>Wk.ren (fun i hi=>qMB hi) ox.1
  have tok:∀c,x.tags.a.ok (fun i=>decide (i<h.length+c))=true:=fun c=>AV.ok_mono (fun i q=>by simp only[decide_eq_true_eq]at q ⊢;omega) x.tags.a ox.1
  have mor:∀sel,Wk (x.mans.a.ren (selN h.length sel)) x.mans.a:=fun sel=>Wk.ren (fun i hi=>qMB hi) ox.2
  have mok:∀c,x.mans.a.ok (fun i=>decide (i<h.length+c))=true:=fun c=>AV.ok_mono (fun i q=>by simp only[decide_eq_true_eq]at q ⊢;omega) x.mans.a ox.2
  have gmx:∀Z,getS zEN (h.set mi .dead++Z) x.mans.a=some X.mans:=fun Z=>(mx.app Z).get
  have ltx:X.tags.length=tx.length:=by rw[etx,List.length_map]
  simp only[z49,Qs3,XtK,Q8d,simprocAttr,ZrP,sstr,slen,siad,g,g',gz,sld,dx,X6g,ovR,wx,tstr,tlen,List.length_cons,List.length_nil,decide_true,decide_false,ne_eq,not_false_eq_true,not_true_eq_false,false_implies,forall_const,and_true,true_and,Option.bind_some,if_true]
  refine JLk (S:=Nat) (fun j=>tx.length-j) (fun j=>tp 1++[.f (.func 188) [] [.p mb 0,.p tb 0]]++tp 4++[.p (h.length+0) 0]++tp 3++[s1,.i .i64 (m.length:Int),.i .i64 (i:Int)]++tp 4++[x.tags.a,.i .i64 (tx.length:Int),.i .i64 (j:Int)]++tp 21) (fun j=>oB h mi (mtT (M++qAa ((X.tags.take j).map (·.held))))++[.blk false true [.s x.name,x.tags.a,x.mans.a]]) (fun j=>j<=tx.length/\(z8C V ((X.tags.drop j).map (·.held)) (M++qAa ((X.tags.take j).map (·.held)))↔z8C V (X.tags.map (·.held)) M)) 0 ⟨Nat.zero_le _,by simp [qAa]⟩ ?_ fun j hj=>?_
  ·rw[show M++qAa ((X.tags.take 0).map (·.held))=M by simp [qAa]]
   refine Bt.wk ?_
   simp only[XtK,JS3,simprocAttr]
  obtain ⟨j1,j2⟩:=hj
  by_cases gj:j<tx.length
  rotate_left
  ·have gj':((j:Int)<(tx.length:Int))=False:=eq_false (by omega)
   have ht:X.tags.take j=X.tags:=List.take_of_length_le (by omega)
   have hok1:z8C V (X.tags.map (·.held)) M:=j2.1 (by rw[List.drop_eq_nil_of_le (by omega)];trivial)
   rw[ht]
   obtain ⟨M2,hM3⟩:∃M2,M++qAa (X.tags.map (·.held))=M2:=⟨_,rfl⟩
   have hM4:M++qAa (XH8 X)=M2++X.mans.map (·.1):=by
    unfold XH8
    rw[QGF,<-List.append_assoc,hM3,J8J,X9e,List.append_nil]
   rw[hM3]
   by_cases hlo:Qgi V M2 X.mans
   ·have hd:=decide_eq_true hlo
    have ha2:aftB V M2 X.mans=mtT (M2++X.mans.map (·.1)):=if_pos hlo
    simp only[z49,Qs3,XtK,Q8d,simprocAttr,ZrP,gj',YjU,fmx,hst,gmx,oba,hd,ha2,e1,QpH,Bool.not_true,Bool.not_false,decide_true,decide_false,ne_eq,not_false_eq_true,not_true_eq_false,false_implies,forall_const,and_true,true_and,Option.bind_some,if_true]
    refine ⟨i+1,⟨g,?_⟩,by dsimp only;omega,?_⟩
    ·rw[hM2]
     refine Iff.trans ?_ i2
     refine ⟨fun z=>⟨?_,z⟩,fun z=>z.2⟩
     unfold XH8
     rw[Qz4,hM3]
     exact ⟨hok1,hlo,trivial⟩
    ·dsimp only
     rw[hM2,hM4]
     exact Bt.selO [] hh (fun q=>YXJ q _) (by decide) (by simp only[Ztz,FrSel,BlkSel,AV.ren,renL,AV.ok,okL,Option.some.injEq,exists_eq_left',List.length_cons,List.length_nil,Nat.reduceAdd,Nat.reduceLT,reduceCtorEq,implies_true,exists_eq']) (by simp only[tp_0,tp_s,List.cons_append,List.nil_append,Ztz,FrSel,BlkSel,AV.ren,renL,AV.ok,okL,Option.some.injEq,exists_eq_left',List.length_cons,List.length_nil,Nat.reduceAdd,Nat.reduceLT,reduceCtorEq,implies_true,exists_eq',sok,osl,sor,q5,q6,q7,q8,homb,hotb])
   ·have hd:=decide_eq_false hlo
    have ha2:aftB V M2 X.mans=.dead:=if_neg hlo
    have hno:¬z8C V (qYW (m.map (·.2))) D:=fun z=>by
     have:=(i2.2 z).1
     unfold XH8 at this
     rw[Qz4,hM3]at this
     exact hlo this.2.1
    simp only[z49,Qs3,XtK,Q8d,simprocAttr,ZrP,gj',YjU,fmx,hst,gmx,oba,hd,ha2,e1,QpH,Bool.not_true,Bool.not_false,decide_true,decide_false,ne_eq,not_false_eq_true,not_true_eq_false,false_implies,forall_const,and_true,true_and,Option.bind_some,if_true]
    exact fail (fr:=[]) _ hno
  have gj':((j:Int)<(tx.length:Int))=True:=eq_true (by omega)
  have gjz:((0:Int)<=(j:Int)/\(j:Int)<(tx.length:Int))=True:=eq_true (by omega)
  have ej:IntKind.i64.wrap ((j:Int)+1)=((j+1:Nat):Int):=Q7p (by unfold In64;omega)
  obtain ⟨dgx,rgx,ogx⟩:=htx.at gj
  have hXj:X.tags.drop j=tx[j].2::X.tags.drop (j+1):=by
   rw[List.drop_eq_getElem_cons (by omega)]
   congr 1
   simp only[etx,List.getElem_map]
  have hXt:X.tags.take (j+1)=X.tags.take j++[tx[j].2]:=by
   rw[List.take_succ_eq_append_getElem (by omega)]
   congr 2
   simp only[etx,List.getElem_map]
  rw[hXj,List.map_cons,z8C]at j2
  generalize tx[j]=ey at *
  obtain ⟨y,Y⟩:=ey
  dsimp only at *
  obtain ⟨ny,hy⟩:=J9V rgx
  rw[QMV]at dgx ogx
  have wy:=Z4X y
  rw[q2E]at wy
  have gy:∀Z,getS zEN (h.set mi .dead++Z) y.held.a=some Y.held:=fun Z=>(hy.app Z).get
  obtain ⟨M2,hM3⟩:∃M2,M++qAa ((X.tags.take j).map (·.held))=M2:=⟨_,rfl⟩
  have hM4:M++qAa ((X.tags.take (j+1)).map (·.held))=M2++Y.held.map (·.1):=by
   rw[hXt,List.map_append,QGF,<-List.append_assoc,hM3,List.map_cons,List.map_nil,J8J,X9e,List.append_nil]
  rw[hM3]at j2
  rw[hM3]
  by_cases hlo:Qgi V M2 Y.held
  ·have hd:=decide_eq_true hlo
   have ha2:aftB V M2 Y.held=mtT (M2++Y.held.map (·.1)):=if_pos hlo
   simp only[z49,Qs3,XtK,Q8d,simprocAttr,ZrP,tstr,tlen,tiad,tld,dgx,q2E,ovG,wy,gj,gj',gjz,YjU,fmx,hst,gy,oba,hd,ha2,ej,QpH,List.length_cons,List.length_nil,Bool.not_true,Bool.not_false,decide_true,decide_false,ne_eq,not_false_eq_true,not_true_eq_false,false_implies,forall_const,and_true,true_and,Option.bind_some,if_true]
   refine ⟨j+1,⟨gj,?_⟩,by dsimp only;omega,?_⟩
   ·rw[hM4]
    exact Iff.trans ⟨fun z=>⟨hlo,z⟩,fun z=>z.2⟩ j2
   ·dsimp only
    rw[hM4]
    exact Bt.selO [0] hh (fun q=>YXJ q _) (by decide) (by simp only[Ztz,FrSel,BlkSel,AV.ren,renL,AV.ok,okL,Option.some.injEq,exists_eq_left',List.length_cons,List.length_nil,Nat.reduceAdd,Nat.reduceLT,reduceCtorEq,implies_true,exists_eq',tok,tor,mok,mor,ox.1,ox.2]) (by simp only[tp_0,tp_s,List.cons_append,List.nil_append,Ztz,FrSel,BlkSel,AV.ren,renL,AV.ok,okL,Option.some.injEq,exists_eq_left',List.length_cons,List.length_nil,Nat.reduceAdd,Nat.reduceLT,reduceCtorEq,implies_true,exists_eq',sok,osl,sor,tok,tor,ox.1,q5,q6,q7,q8,homb,hotb])
  ·have hd:=decide_eq_false hlo
   have ha2:aftB V M2 Y.held=.dead:=if_neg hlo
   have hno:¬z8C V (qYW (m.map (·.2))) D:=fun z=>by
    have:=(i2.2 z).1
    unfold XH8 at this
    rw[Qz4]at this
    exact hlo (j2.2 this.1).1
   simp only[z49,Qs3,XtK,Q8d,simprocAttr,ZrP,tstr,tlen,tiad,tld,dgx,q2E,ovG,wy,gj,gj',gjz,YjU,fmx,hst,gy,oba,hd,ha2,ej,QpH,List.length_cons,List.length_nil,Bool.not_true,Bool.not_false,decide_true,decide_false,ne_eq,not_false_eq_true,not_true_eq_false,false_implies,forall_const,and_true,true_and,Option.bind_some,if_true]
   exact fail (fr:=[]) _ hno
 ·cases e
end
section
set_option maxRecDepth 100000
set_option maxHeartbeats 8000000
structure BdR (r:RpD):Prop where
 name:r.name.length<=1000000
 tags:r.tags.length<=1000000
 mans:r.mans.length<=1000000
 tag:∀g∈r.tags,g.name.length<=1000000/\g.held.length<=1000000
structure BdT (t:TbD):Prop where
 v:t.v.length<=1000000
 repos:t.repos.length<=1000000
 r:∀r∈t.repos,BdR r
def okRp (r:RpD):Prop:=(r.tags.map (·.name)).Pairwise ltS/\r.tags.length+r.mans.length≠0/\∀g∈r.tags,g.held.length≠0
def YKY (t:TbD):Prop:=(t.repos.map (·.name)).Pairwise ltS/\(∀r∈t.repos,okRp r)/\z8C t.v (qYW t.repos) []
theorem KMO {h:List AB} {s:AV} {m:List (RepA×RpD)} (e:RdP repD h s m):(m.map (·.1)).map RepA.name=(m.map (·.2)).map RpD.name:=by
 rw[List.map_map,List.map_map]
 exact List.map_congr_left fun x hx=>(Xxg (e.d x hx)).1
theorem zwX {h:List AB} {s:AV} {m:List (TagA×TgD)} (e:RdP tagD h s m):(m.map (·.1)).map TagA.name=(m.map (·.2)).map TgD.name:=by
 rw[List.map_map,List.map_map]
 exact List.map_congr_left fun x hx=>(J9V (e.d x hx)).1
theorem SlA.len_rd {α:Type} {r:Row α} {h:List AB} {s:SlA} {l:List α} (e:Rd r h s.a l):s.len=(l.length:Int):=by
 unfold SlA.len
 rw[e.len]
 rfl
theorem ZBa {h:List AB} {s:AV} {m:List (RepA×RpD)} (e:RdP repD h s m):Qs4 (fun a b:RepA=>ltS a.name b.name) repR.d (m.map (·.1))↔((m.map (·.2)).map RpD.name).Pairwise ltS:=by
 rw[QEn Y1v RepA.name repR.d,KMO e]
theorem JG6 {h:List AB} {s:AV} {m:List (TagA×TgD)} (e:RdP tagD h s m):Qs4 (fun a b:TagA=>ltS a.name b.name) tagR.d (m.map (·.1))↔((m.map (·.2)).map TgD.name).Pairwise ltS:=by
 rw[QEn Y1v TagA.name tagR.d,zwX e]
theorem YBz {h:List AB} {s:AV} {m:List (TagA×TgD)} (e:RdP tagD h s m):(∃x∈m.map (·.1),x.held.len=0)↔∃g∈m.map (·.2),g.held.length=0:=by
 constructor
 ·rintro ⟨x,hx,q⟩
  obtain ⟨p,hp,rfl⟩:=List.mem_map.1 hx
  have:=SlA.len_rd (J9V (e.d p hp)).2
  exact ⟨p.2,List.mem_map.2 ⟨p,hp,rfl⟩,by omega⟩
 ·rintro ⟨g,hg,q⟩
  obtain ⟨p,hp,rfl⟩:=List.mem_map.1 hg
  have:=SlA.len_rd (J9V (e.d p hp)).2
  exact ⟨p.1,List.mem_map.2 ⟨p,hp,rfl⟩,by omega⟩
theorem q6I {h:List AB} (A B C D:AB):oB (h++[A,B,C]) (h.length+1) D=h++[A,D,C]:=by
 unfold oB
 rw[List.set_append_right _ _ (by omega),Nat.add_sub_cancel_left]
 rfl
open Classical in
noncomputable def qmj:List AV->List AB->Option (AV×List AB)
 | [a],h=>(getT h a).bind fun t=>if BdT t then some (.b (decide (YKY t)),h) else none
 | _,_=>none
open Classical in
theorem z4v:Spec Tryz.prog 87 qmj:=by
 intro args h v h' e
 unfold qmj at e
 split at e
 ·obtain ⟨v1,s1,n1,m,rfl,ha,e2⟩:=JfV e
  clear e
  split at e2
  case isFalse=>cases e2
  rename_i hB
  rw[Option.some.injEq,Prod.mk.injEq]at e2
  obtain ⟨rfl,rfl⟩:=e2
  refine FnAt.c (FnAt.frz0 fun hz=>?_)
  replace ha:=ha.frz
  generalize h.map AB.freeze=h at *
  refine FnAt.run (by kernel_rfl) (T:=⟨[⟨185,Ygk,fun _=>[]⟩,⟨186,q1b,fun _=>[]⟩,⟨86,Y4E,fun _=>[]⟩,⟨151,qQm,fun _=>[]⟩],[]⟩) ⟨⟨JcQ,JbL,QqO,QXI,trivial⟩,trivial⟩ Tryz.func87 sw87 fun ho hh=>?_
  simp only[ZiP,q0E,JL2,Bool.and_eq_true,and_true]at ho
  obtain ⟨ov,os⟩:=ho
  have fv:=ha.v.fx ov (sz:=1) rfl
  have fs:=ha.s.s.fx os (sz:=3) rfl
  rw[List.length_map]at fs
  have gP:∀L,getP repD (h++L) s1=some m:=fun L=>(ha.s.app L).get
  have c1:∀l:List AV,(AV.ag l).cells=l:=fun _=>rfl
  have hB1:=hB.repos
  rw[List.length_map]at hB1
  unfold w87
  rcases emG (Qs4 (fun a b:RepA=>ltS a.name b.name) repR.d (m.map (·.1))) with q1|q1
  rotate_left
  ·have hn:¬YKY ⟨n1,m.map (·.2)⟩:=fun z=>of_eq_false q1 ((ZBa ha.s).2 z.1)
   simp only[z49,Qs3,XtK,K1H,JS3,simprocAttr,CO.tmps,Opd.tmps,optT,Ygk,gP,fv,fs,q1,c1,QpH,Option.bind_some,Bool.not_true,Bool.not_false,oW hh hz,oD,ne_eq,forall_const]
   exact Bt.dropB _ hh (by rw[decide_eq_false hn])
  have q1':=(ZBa ha.s).1 (of_eq_true q1)
  simp only[z49,Qs3,XtK,K1H,JS3,simprocAttr,CO.tmps,Opd.tmps,optT,Ygk,gP,fv,fs,q1,c1,QpH,Option.bind_some,Bool.not_true,Bool.not_false,oW hh hz,oD,ne_eq,forall_const]
  have sov:∀c,v1.ok (fun j=>decide (j<h.length+c))=true:=fun c=>AV.ok_mono (fun i q=>by simp only[decide_eq_true_eq]at q ⊢;omega) v1 ov
  have sos:∀c,s1.ok (fun j=>decide (j<h.length+c))=true:=fun c=>AV.ok_mono (fun i q=>by simp only[decide_eq_true_eq]at q ⊢;omega) s1 os
  have rv:∀sel,Wk (v1.ren (selN h.length sel)) v1:=fun sel=>Wk.ren (fun i hi=>qMB hi) ov
  have rs:∀sel,Wk (s1.ren (selN h.length sel)) s1:=fun sel=>Wk.ren (fun i hi=>qMB hi) os
  refine JLk (S:=Nat) (fun i=>m.length-i) (fun i=>tp 1++[.p (h.length+0) 0]++tp 2++[.f (.func 184) [] []]++tp 9++[s1,.i .i64 (m.length:Int),.i .i64 (i:Int)]++tp 28) (fun _=>h++[.blk false true [v1,s1]]) (fun i=>i<=m.length/\∀r∈(m.map (·.2)).take i,okRp r) 0 ⟨Nat.zero_le _,by simp⟩ ?_ fun i hi=>?_
  ·refine Bt.wk ?_
   simp only[XtK,JS3,simprocAttr]
  obtain ⟨i1,i2⟩:=hi
  by_cases g:i<m.length
  rotate_left
  ·have g':((i:Int)<(m.length:Int))=False:=eq_false (by omega)
   have hall:∀r∈m.map (·.2),okRp r:=by rwa [List.take_of_length_le (by rw[List.length_map];omega)]at i2
   have f4:fm4M (h++[.blk false true [v1,s1],.mo true (.map [] 0) [],.blk false true [.m (h.length+1)]]) (h.length+2) (h.length+0)=some (h.length+1,n1,[]):=by
    refine Fm4.get (v:=v1) ⟨?_,⟨s1,?_⟩,?_,?_⟩
    ·unfold zZU
     rw[JNS]
     rfl
    ·unfold zZU
     rw[JNS]
     rfl
    ·rw[JNS]
     rfl
    ·rw[List.set_append_right _ _ (by omega)]
     exact ha.v.app _
   have gt:∀L,getT (h++L) (.ag [v1,s1])=some ⟨n1,m.map (·.2)⟩:=fun L=>(ha.app L).get
   have nmo:AV.nm.one=true:=rfl
   have mo1:∀k,(AV.m k).one=true:=fun _=>rfl
   have nmf:wrOk false .nm=true:=rfl
   have mof:∀k,wrOk false (.m k)=true:=fun _=>rfl
   simp only[z49,Qs3,XtK,K1H,JS3,simprocAttr,CO.tmps,Opd.tmps,optT,XzF,nmo,mo1,nmf,mof,qQm,f4,gt,fv,fs,g',c1,q6I,Option.bind_some,if_true,oW hh hz,oD,ne_eq,forall_const]
   exact Bt.dropB _ hh (decide_eq_decide.2 ⟨fun z=>⟨q1',hall,z⟩,fun z=>z.2.2⟩)
  have g':((i:Int)<(m.length:Int))=True:=eq_true (by omega)
  have gz:((0:Int)<=(i:Int)/\(i:Int)<(m.length:Int))=True:=eq_true (by omega)
  have e1:IntKind.i64.wrap ((i:Int)+1)=((i+1:Nat):Int):=Q7p (by unfold In64;omega)
  obtain ⟨dx,rx,ox⟩:=ha.s.at g
  have htk:(m.map (·.2)).take (i+1)=(m.map (·.2)).take i++[m[i].2]:=by
   rw[List.take_succ_eq_append_getElem (by rw[List.length_map];exact g),List.getElem_map]
  have hin:m[i].2∈m.map (·.2):=List.mem_map.2 ⟨_,List.getElem_mem g,rfl⟩
  generalize m[i]=ex at *
  obtain ⟨x,X⟩:=ex
  dsimp only at *
  have hbX:=hB.r X hin
  obtain ⟨nx,⟨tx,htx,etx⟩,mx⟩:=Xxg rx
  rw[XBQ]at dx ox
  have wx:=zUA x
  rw[X6g]at ox wx
  simp only[ZiP,q0E,ok_s,Bool.and_eq_true,and_true,true_and]at ox
  have ftx:=htx.s.fx ox.1 (sz:=2) rfl
  rw[List.length_map]at ftx
  have fmx:=mx.fx ox.2 (sz:=34) rfl
  have gG:∀L,getP tagD (h++L) x.tags.a=some tx:=fun L=>(htx.app L).get
  have gS:∀L,getS tagR (h++L) x.tags.a=some (tx.map (·.1)):=fun L=>(htx.s.app L).get
  have ltx:X.tags.length=tx.length:=by rw[etx,List.length_map]
  have e2:IntKind.i64.wrap ((tx.length:Int)+(X.mans.length:Int))=(tx.length:Int)+X.mans.length:=Q7p (by have:=hbX.tags;have:=hbX.mans;unfold In64;omega)
  have hno:∀ {z:Prop},z->(z->¬okRp X)->¬YKY ⟨n1,m.map (·.2)⟩:=fun hz2 k w=>k hz2 (w.2.1 X hin)
  rcases emG (Qs4 (fun a b:TagA=>ltS a.name b.name) tagR.d (tx.map (·.1))) with q2|q2
  rotate_left
  ·have hn:¬YKY ⟨n1,m.map (·.2)⟩:=hno (of_eq_false q2) fun z w=>z ((JG6 htx).2 (by rw[<-etx];exact w.1))
   simp only[z49,Qs3,XtK,K1H,JS3,simprocAttr,CO.tmps,Opd.tmps,optT,fv,fs,g,g',gz,dx,XBQ,X6g,wx,ox,ftx,fmx,gG,q1b,q2,c1,QpH,Option.bind_some,if_true,Bool.not_true,Bool.not_false,oW hh hz,oD,ne_eq,forall_const]
   exact Bt.dropB _ hh (by rw[decide_eq_false hn])
  rcases emG ((tx.length:Int)+X.mans.length=0) with q3|q3
  ·have hn:¬YKY ⟨n1,m.map (·.2)⟩:=hno (of_eq_true q3) fun z w=>w.2.1 (by rw[ltx];omega)
   simp only[z49,Qs3,XtK,K1H,JS3,simprocAttr,CO.tmps,Opd.tmps,optT,fv,fs,g,g',gz,dx,XBQ,X6g,wx,ox,ftx,fmx,gG,q1b,q2,q3,e2,c1,QpH,Option.bind_some,if_true,Bool.not_true,Bool.not_false,oW hh hz,oD,ne_eq,forall_const]
   exact Bt.dropB _ hh (by rw[decide_eq_false hn])
  have n12:(187=83/\∀x∈tx.map (·.1),x.name.length<=1000000)=False:=eq_false fun z=>by cases z.1
  rcases emG (∃y∈tx.map (·.1),y.held.len=0) with q4|q4
  ·have hn:¬YKY ⟨n1,m.map (·.2)⟩:=hno (of_eq_true q4) fun z w=>by
    obtain ⟨g2,hg2,hl⟩:=(YBz htx).1 z
    rw[<-etx]at hg2
    exact w.2.2 g2 hg2 hl
   simp only[z49,Qs3,XtK,K1H,JS3,simprocAttr,CO.tmps,Opd.tmps,optT,fv,fs,g,g',gz,dx,XBQ,X6g,wx,ox,ftx,fmx,gG,gS,q1b,Y4E,n12,q2,q3,q4,e2,c1,QpH,Option.bind_some,if_true,if_false,Bool.not_true,Bool.not_false,oW hh hz,oD,ne_eq,forall_const]
   exact Bt.dropB _ hh (by rw[decide_eq_false hn])
  simp only[z49,Qs3,XtK,K1H,JS3,simprocAttr,CO.tmps,Opd.tmps,optT,fv,fs,g,g',gz,dx,XBQ,X6g,wx,ox,ftx,fmx,gG,gS,q1b,Y4E,n12,q2,q3,q4,e1,e2,c1,QpH,Option.bind_some,if_true,if_false,Bool.not_true,Bool.not_false,oW hh hz,oD,ne_eq,forall_const]
  refine ⟨i+1,⟨g,fun r hr=>?_⟩,by dsimp only;omega,?_⟩
  ·rw[htk]at hr
   rcases List.mem_append.1 hr with q|q
   ·exact i2 r q
   ·rw[List.mem_singleton]at q
    subst q
    refine ⟨by rw[etx];exact (JG6 htx).1 (of_eq_true q2),fun z=>of_eq_false q3 (by rw[ltx]at z;omega),fun g2 hg2 hl=>of_eq_false q4 ((YBz htx).2 ⟨g2,by rw[<-etx];exact hg2,hl⟩)⟩
  ·dsimp only
   exact Bt.sel [0] hh (by decide) (by simp only[Ztz,FrSel,BlkSel,AV.ren,renL,AV.ok,okL,Option.some.injEq,exists_eq_left',List.length_cons,List.length_nil,Nat.reduceAdd,Nat.reduceLT,reduceCtorEq,implies_true,exists_eq',sov,sos,rv,rs,ov,os]) (by simp only[tp_0,tp_s,List.cons_append,List.nil_append,Ztz,FrSel,BlkSel,AV.ren,renL,AV.ok,okL,Option.some.injEq,exists_eq_left',List.length_cons,List.length_nil,Nat.reduceAdd,Nat.reduceLT,reduceCtorEq,implies_true,exists_eq',sov,sos,rv,rs,ov,os])
 ·cases e
end
end Go.Proofs.YtekeoichmdiiiaaGreat
