/- Part 25 of what the laws' proofs rest on. No condition. -/
import Derived.Test.YtebcngelgdpbjaaGreatGq24
set_option linter.all false
namespace Go.Proofs.YtebcngelgdpbjaaGreat
section
set_option maxRecDepth 100000
set_option maxHeartbeats 4000000
def K4G (s:List UInt8):Prop:=¬(128:Int)<(s.length:Int)/\runB KGW zcI s 0 ⟨7,.w⟩=none
def KAc (s:List UInt8):Prop:=¬(64:Int)<(s.length:Int)/\runB zdl z0i s 0 .first=none
instance (s:List UInt8):Decidable (K4G s):=inferInstanceAs (Decidable (_/\_))
instance (s:List UInt8):Decidable (KAc s):=inferInstanceAs (Decidable (_/\_))
theorem Xcw (s:List UInt8):∃e p:Int,KRN s=.ag [.i .i64 e,.i .i64 p]/\qN8 [.i,.i] [.i .i64 e,.i .i64 p] [.i .i64 0,.i .i64 0]=some (decide (K4G s)):=by
 by_cases hk:K4G s
 ·have:KRN s=.ag [.i .i64 0,.i .i64 0]:=by
   unfold KRN
   rw[if_neg hk.1,hk.2]
   rfl
  exact ⟨0,0,this,by rw[decide_eq_true hk];rfl⟩
 ·have:∃e p:Int,e≠0/\KRN s=.ag [.i .i64 e,.i .i64 p]:=by
   unfold KRN
   by_cases g:(128:Int)<(s.length:Int)
   ·rw[if_pos g]
    exact ⟨4,128,by decide,rfl⟩
   ·rw[if_neg g]
    cases hr:runB KGW zcI s 0 ⟨7,.w⟩ with
    | none=>exact absurd ⟨g,hr⟩ hk
    | some n=>exact ⟨7,n,by decide,rfl⟩
  obtain ⟨e,p,h1,h2⟩:=this
  exact ⟨e,p,h2,by rw[decide_eq_false hk];simp [qN8,XC1,h1]⟩
theorem KyC (s:List UInt8):∃e p:Int,tagV s=.ag [.i .i64 e,.i .i64 p]/\qN8 [.i,.i] [.i .i64 e,.i .i64 p] [.i .i64 0,.i .i64 0]=some (decide (KAc s)):=by
 by_cases hk:KAc s
 ·have:tagV s=.ag [.i .i64 0,.i .i64 0]:=by
   unfold tagV
   rw[if_neg hk.1,hk.2]
   rfl
  exact ⟨0,0,this,by rw[decide_eq_true hk];rfl⟩
 ·have:∃e p:Int,e≠0/\tagV s=.ag [.i .i64 e,.i .i64 p]:=by
   unfold tagV
   by_cases g:(64:Int)<(s.length:Int)
   ·rw[if_pos g]
    exact ⟨4,64,by decide,rfl⟩
   ·rw[if_neg g]
    cases hr:runB zdl z0i s 0 .first with
    | none=>exact absurd ⟨g,hr⟩ hk
    | some n=>exact ⟨7,n,by decide,rfl⟩
  obtain ⟨e,p,h1,h2⟩:=this
  exact ⟨e,p,h2,by rw[decide_eq_false hk];simp [qN8,XC1,h1]⟩
def fitE (x:EvtA) (l:List Int) (n:Int):Int:=
 if x.dot.1<1 then 2 else if n<x.dot.1 then 2 else if x.dot.2<1 then 2 else if 1048576<x.dot.2 then 2 else if (l.length:Int)≠n then 2 else if ∃y∈l,oddI y then 2
 else if l.getD (x.dot.1-1).toNat 0≠x.dot.2-1 then 2 else if x.kind<1\/4<x.kind then 5 else if ¬K4G x.repo\/(zXI x/\¬KAc x.tag) then 7 else 0
noncomputable def ZTW:List AV->List AB->Option (AV×List AB)
 | [a,.i .i64 n],h=>(getE a).bind fun x=>(getS intR h x.deps.a).bind fun l=>if x.repo.length<=1000000/\x.tag.length<=1000000/\n<=1000 then some (.i .i64 (fitE x l n),h) else none
 | _,_=>none
theorem YC3:Spec Tryz.prog 63 ZTW:=by
 intro args h v h' e
 unfold ZTW at e
 split at e
 ·rename_i a n
  obtain ⟨x,hx,e2⟩:=Kc6 e
  clear e
  subst hx
  obtain ⟨l,hs,e3⟩:=zZy e2
  clear e2
  split at e3
  ·rename_i hc
   cases e3
   refine FnAt.c (FnAt.frz0 fun hz=>?_)
   have hs2:=hs.frz
   clear hs
   generalize h.map AB.freeze=h at *
   refine FnAt.run (by kernel_rfl) (T:=⟨[⟨128,QMp,fun _=>[]⟩,⟨124,Yja,fun _=>[]⟩,⟨123,qGK,fun _=>[]⟩,⟨76,QeF,fun _=>[]⟩],[]⟩) ⟨⟨QU9,zGG,qPE,QFg,trivial⟩,trivial⟩ Tryz.func63 sw63 fun ho hh=>?_
   simp only[XDA,Bool.and_eq_true]at ho
   obtain ⟨a0,a1,a2,a3,a4,a5,a6⟩:=Zxc x
   have od:x.deps.a.ok (fun i=>decide (i<h.length))=true:=by
    have:=ho.1
    simp only[AV.ok]at this
    exact zFH.1 this 2 _ a2
   have oe:okL (fun i=>decide (i<h.length)) (evtF x)=true:=by
    have:=ho.1
    simpa only[AV.ok] using this
   have oe1:∀c,okL (fun i=>decide (i<h.length+c)) (evtF x)=true:=fun c=>KAd (fun i q=>by simp only[decide_eq_true_eq]at q ⊢;omega) _ oe
   have oe2:∀c lo hi anc past,okL (qOk (h.length+c) lo hi anc past) (evtF x)=true:=fun c lo hi anc past=>KAd (fun i q=>by simp only[decide_eq_true_eq]at q;simp only[qOk,Bool.or_eq_true,Nat.blt_eq];omega) _ oe
   have od1:∀c,x.deps.a.ok (fun i=>decide (i<h.length+c))=true:=fun c=>zFH.1 (oe1 c) 2 _ a2
   have od2:∀c lo hi anc past,x.deps.a.ok (qOk (h.length+c) lo hi anc past)=true:=fun c lo hi anc past=>zFH.1 (oe2 c lo hi anc past) 2 _ a2
   have f1:=hs2.fx od (sz:=1) rfl
   have gx:∀y,getS intR (h++y) x.deps.a=some l:=fun y=>(hs2.app y).get
   have w1:=Q7m x
   have l1:=YXj x
   have lt:(evtF x).take 39=evtF x:=List.take_of_length_le (by rw[l1];exact Nat.le_refl _)
   have c1:∀l:List AV,(AV.ag l).cells=l:=fun _=>rfl
   obtain ⟨re,rp,r1,r2⟩:=Xcw x.repo
   obtain ⟨te,tp',t1,t2⟩:=KyC x.tag
   have cr:=eq_true hc.1
   have ct:=eq_true hc.2.1
   unfold w63 fitE
   rcases emG (x.dot.1<1) with q1|q1
   ·rw[if_pos (of_eq_true q1)]
    simp only[QhU,YqB,z16,KHD,Xq6,if_true,if_false,↓reduceIte,Nat.reduceAdd,Nat.reduceSub,Nat.reduceLeDiff,Nat.reduceEqDiff,Nat.reduceMul,Nat.reduceLT,Int.reduceLT,Int.reduceLE,Int.reduceEq,CO.tmps,Opd.tmps,optT,Nat.reducePow,Nat.reduceDiv,Nat.reduceMod,q1,oe1,oe2,od1,od2,a0,a1,a2,a3,a4,a5,w1,l1,c1,f1,gx,oW hh hz,if_true,oD,ne_eq,forall_const]
    exact Bt.drop _ hh rfl rfl
   rw[if_neg (of_eq_false q1)]
   rcases emG (n<x.dot.1) with q2|q2
   ·rw[if_pos (of_eq_true q2)]
    simp only[QhU,YqB,z16,KHD,Xq6,if_true,if_false,↓reduceIte,Nat.reduceAdd,Nat.reduceSub,Nat.reduceLeDiff,Nat.reduceEqDiff,Nat.reduceMul,Nat.reduceLT,Int.reduceLT,Int.reduceLE,Int.reduceEq,CO.tmps,Opd.tmps,optT,Nat.reducePow,Nat.reduceDiv,Nat.reduceMod,q1,q2,oe1,oe2,od1,od2,a0,a1,a2,a3,a4,a5,w1,l1,c1,f1,gx,oW hh hz,if_true,oD,ne_eq,forall_const]
    exact Bt.drop _ hh rfl rfl
   rw[if_neg (of_eq_false q2)]
   rcases emG (x.dot.2<1) with q3|q3
   ·rw[if_pos (of_eq_true q3)]
    simp only[QhU,YqB,z16,KHD,Xq6,if_true,if_false,↓reduceIte,Nat.reduceAdd,Nat.reduceSub,Nat.reduceLeDiff,Nat.reduceEqDiff,Nat.reduceMul,Nat.reduceLT,Int.reduceLT,Int.reduceLE,Int.reduceEq,CO.tmps,Opd.tmps,optT,Nat.reducePow,Nat.reduceDiv,Nat.reduceMod,q1,q2,q3,oe1,oe2,od1,od2,a0,a1,a2,a3,a4,a5,w1,l1,c1,f1,gx,oW hh hz,if_true,oD,ne_eq,forall_const]
    exact Bt.drop _ hh rfl rfl
   rw[if_neg (of_eq_false q3)]
   rcases emG (1048576<x.dot.2) with q4|q4
   ·rw[if_pos (of_eq_true q4)]
    simp only[QhU,YqB,z16,KHD,Xq6,if_true,if_false,↓reduceIte,Nat.reduceAdd,Nat.reduceSub,Nat.reduceLeDiff,Nat.reduceEqDiff,Nat.reduceMul,Nat.reduceLT,Int.reduceLT,Int.reduceLE,Int.reduceEq,CO.tmps,Opd.tmps,optT,Nat.reducePow,Nat.reduceDiv,Nat.reduceMod,q1,q2,q3,q4,oe1,oe2,od1,od2,a0,a1,a2,a3,a4,a5,w1,l1,c1,f1,gx,oW hh hz,if_true,oD,ne_eq,forall_const]
    exact Bt.drop _ hh rfl rfl
   rw[if_neg (of_eq_false q4)]
   rcases emG ((l.length:Int)=n) with q5|q5
   rotate_left
   ·rw[if_pos (of_eq_false q5)]
    simp only[QhU,YqB,z16,KHD,Xq6,if_true,if_false,↓reduceIte,Nat.reduceAdd,Nat.reduceSub,Nat.reduceLeDiff,Nat.reduceEqDiff,Nat.reduceMul,Nat.reduceLT,Int.reduceLT,Int.reduceLE,Int.reduceEq,CO.tmps,Opd.tmps,optT,Nat.reducePow,Nat.reduceDiv,Nat.reduceMod,q1,q2,q3,q4,q5,oe1,oe2,od1,od2,a0,a1,a2,a3,a4,a5,w1,l1,c1,f1,gx,oW hh hz,if_true,oD,ne_eq,forall_const]
    exact Bt.drop _ hh rfl rfl
   rw[if_neg (not_not_intro (of_eq_true q5))]
   rcases emG (∃y∈l,oddI y) with q6|q6
   ·rw[if_pos (of_eq_true q6)]
    simp only[QhU,YqB,z16,KHD,Xq6,if_true,if_false,↓reduceIte,Nat.reduceAdd,Nat.reduceSub,Nat.reduceLeDiff,Nat.reduceEqDiff,Nat.reduceMul,Nat.reduceLT,Int.reduceLT,Int.reduceLE,Int.reduceEq,CO.tmps,Opd.tmps,optT,Nat.reducePow,Nat.reduceDiv,Nat.reduceMod,q1,q2,q3,q4,q5,q6,QMp,Option.bind_some,oe1,oe2,od1,od2,a0,a1,a2,a3,a4,a5,w1,l1,c1,f1,gx,oW hh hz,if_true,oD,ne_eq,forall_const]
    exact Bt.drop _ hh rfl rfl
   rw[if_neg (of_eq_false q6)]
   have b1:=of_eq_false q1
   have b2:=of_eq_false q2
   have b3:=of_eq_false q3
   have b4:=of_eq_false q4
   have b5:=of_eq_true q5
   have e1:IntKind.i64.wrap (x.dot.1-1)=x.dot.1-1:=ZWm (by unfold In64;omega)
   have e2:IntKind.i64.wrap (x.dot.2-1)=x.dot.2-1:=ZWm (by unfold In64;omega)
   have e3:(0<=x.dot.1-1/\x.dot.1-1<(l.length:Int))=True:=eq_true (by omega)
   have e4:((x.dot.1-1).toNat<l.length)=True:=eq_true (by omega)
   have e5:intR.d=0:=rfl
   rcases emG (l.getD (x.dot.1-1).toNat 0=x.dot.2-1) with q7|q7
   rotate_left
   ·rw[if_pos (of_eq_false q7)]
    simp only[QhU,YqB,z16,KHD,Xq6,if_true,if_false,↓reduceIte,Nat.reduceAdd,Nat.reduceSub,Nat.reduceLeDiff,Nat.reduceEqDiff,Nat.reduceMul,Nat.reduceLT,Int.reduceLT,Int.reduceLE,Int.reduceEq,CO.tmps,Opd.tmps,optT,Nat.reducePow,Nat.reduceDiv,Nat.reduceMod,q1,q2,q3,q4,q5,q6,q7,QMp,Option.bind_some,e1,e2,e3,e4,e5,Zr0,Nat.zero_lt_one,oe1,oe2,od1,od2,a0,a1,a2,a3,a4,a5,w1,l1,c1,f1,gx,oW hh hz,if_true,oD,ne_eq,forall_const]
    exact Bt.drop _ hh rfl rfl
   rw[if_neg (not_not_intro (of_eq_true q7))]
   rcases emG (x.kind<1) with k1|k1
   ·rw[if_pos (.inl (of_eq_true k1))]
    simp only[QhU,YqB,z16,KHD,Xq6,if_true,if_false,↓reduceIte,Nat.reduceAdd,Nat.reduceSub,Nat.reduceLeDiff,Nat.reduceEqDiff,Nat.reduceMul,Nat.reduceLT,Int.reduceLT,Int.reduceLE,Int.reduceEq,CO.tmps,Opd.tmps,optT,Nat.reducePow,Nat.reduceDiv,Nat.reduceMod,q1,q2,q3,q4,q5,q6,q7,k1,QMp,Option.bind_some,e1,e2,e3,e4,e5,Zr0,Nat.zero_lt_one,oe1,oe2,od1,od2,a0,a1,a2,a3,a4,a5,w1,l1,c1,f1,gx,oW hh hz,if_true,oD,ne_eq,forall_const]
    exact Bt.drop _ hh rfl rfl
   rcases emG (4<x.kind) with k2|k2
   ·rw[if_pos (.inr (of_eq_true k2))]
    simp only[QhU,YqB,z16,KHD,Xq6,if_true,if_false,↓reduceIte,Nat.reduceAdd,Nat.reduceSub,Nat.reduceLeDiff,Nat.reduceEqDiff,Nat.reduceMul,Nat.reduceLT,Int.reduceLT,Int.reduceLE,Int.reduceEq,CO.tmps,Opd.tmps,optT,Nat.reducePow,Nat.reduceDiv,Nat.reduceMod,q1,q2,q3,q4,q5,q6,q7,k1,k2,QMp,Option.bind_some,e1,e2,e3,e4,e5,Zr0,Nat.zero_lt_one,oe1,oe2,od1,od2,a0,a1,a2,a3,a4,a5,w1,l1,c1,f1,gx,oW hh hz,if_true,oD,ne_eq,forall_const]
    exact Bt.drop _ hh rfl rfl
   rw[if_neg (fun z=>z.elim (of_eq_false k1) (of_eq_false k2))]
   rcases emG (K4G x.repo) with r|r
   rotate_left
   ·rw[if_pos (.inl (of_eq_false r))]
    simp only[QhU,YqB,z16,KHD,Xq6,if_true,if_false,↓reduceIte,Nat.reduceAdd,Nat.reduceSub,Nat.reduceLeDiff,Nat.reduceEqDiff,Nat.reduceMul,Nat.reduceLT,Int.reduceLT,Int.reduceLE,Int.reduceEq,CO.tmps,Opd.tmps,optT,Nat.reducePow,Nat.reduceDiv,Nat.reduceMod,q1,q2,q3,q4,q5,q6,q7,k1,k2,r,QMp,Option.bind_some,e1,e2,e3,e4,e5,Zr0,Nat.zero_lt_one,Yja,qGK,QeF,lt,List.drop_zero,Zz9,cr,ct,r1,r2,t1,t2,YcB,Option.map_some,Bool.xor_true,Bool.xor_false,Bool.not_true,Bool.not_false,oe1,oe2,od1,od2,a0,a1,a2,a3,a4,a5,w1,l1,c1,f1,gx,oW hh hz,if_true,oD,ne_eq,forall_const]
    exact Bt.drop _ hh rfl rfl
   rcases emG (zXI x) with g|g
   rotate_left
   ·rw[if_neg (fun z=>z.elim (fun z=>z (of_eq_true r)) (fun z=>of_eq_false g z.1))]
    simp only[QhU,YqB,z16,KHD,Xq6,if_true,if_false,↓reduceIte,Nat.reduceAdd,Nat.reduceSub,Nat.reduceLeDiff,Nat.reduceEqDiff,Nat.reduceMul,Nat.reduceLT,Int.reduceLT,Int.reduceLE,Int.reduceEq,CO.tmps,Opd.tmps,optT,Nat.reducePow,Nat.reduceDiv,Nat.reduceMod,q1,q2,q3,q4,q5,q6,q7,k1,k2,r,g,QMp,Option.bind_some,e1,e2,e3,e4,e5,Zr0,Nat.zero_lt_one,Yja,qGK,QeF,lt,List.drop_zero,Zz9,cr,ct,r1,r2,t1,t2,YcB,Option.map_some,Bool.xor_true,Bool.xor_false,Bool.not_true,Bool.not_false,oe1,oe2,od1,od2,a0,a1,a2,a3,a4,a5,w1,l1,c1,f1,gx,oW hh hz,if_true,oD,ne_eq,forall_const]
    exact Bt.drop _ hh rfl rfl
   rcases emG (KAc x.tag) with t|t
   ·rw[if_neg (fun z=>z.elim (fun z=>z (of_eq_true r)) (fun z=>z.2 (of_eq_true t)))]
    simp only[QhU,YqB,z16,KHD,Xq6,if_true,if_false,↓reduceIte,Nat.reduceAdd,Nat.reduceSub,Nat.reduceLeDiff,Nat.reduceEqDiff,Nat.reduceMul,Nat.reduceLT,Int.reduceLT,Int.reduceLE,Int.reduceEq,CO.tmps,Opd.tmps,optT,Nat.reducePow,Nat.reduceDiv,Nat.reduceMod,q1,q2,q3,q4,q5,q6,q7,k1,k2,r,g,t,QMp,Option.bind_some,e1,e2,e3,e4,e5,Zr0,Nat.zero_lt_one,Yja,qGK,QeF,lt,List.drop_zero,Zz9,cr,ct,r1,r2,t1,t2,YcB,Option.map_some,Bool.xor_true,Bool.xor_false,Bool.not_true,Bool.not_false,oe1,oe2,od1,od2,a0,a1,a2,a3,a4,a5,w1,l1,c1,f1,gx,oW hh hz,if_true,oD,ne_eq,forall_const]
    exact Bt.drop _ hh rfl rfl
   ·rw[if_pos (.inr ⟨of_eq_true g,of_eq_false t⟩)]
    simp only[QhU,YqB,z16,KHD,Xq6,if_true,if_false,↓reduceIte,Nat.reduceAdd,Nat.reduceSub,Nat.reduceLeDiff,Nat.reduceEqDiff,Nat.reduceMul,Nat.reduceLT,Int.reduceLT,Int.reduceLE,Int.reduceEq,CO.tmps,Opd.tmps,optT,Nat.reducePow,Nat.reduceDiv,Nat.reduceMod,q1,q2,q3,q4,q5,q6,q7,k1,k2,r,g,t,QMp,Option.bind_some,e1,e2,e3,e4,e5,Zr0,Nat.zero_lt_one,Yja,qGK,QeF,lt,List.drop_zero,Zz9,cr,ct,r1,r2,t1,t2,YcB,Option.map_some,Bool.xor_true,Bool.xor_false,Bool.not_true,Bool.not_false,oe1,oe2,od1,od2,a0,a1,a2,a3,a4,a5,w1,l1,c1,f1,gx,oW hh hz,if_true,oD,ne_eq,forall_const]
    exact Bt.drop _ hh rfl rfl
  ·cases e3
 ·cases e
end
section
theorem QPS (l:List Int) (r:Int):0<=atV l r:=by unfold atV;split <;> omega
def wtN (l:List Int):Nat->Nat
 | 0=>0
 | n+1=>wtN l n+(atV l ((n+1:Nat):Int)).toNat
theorem JQH {a b:List Int} (h:∀r,atV a r<=atV b r):∀n,wtN a n<=wtN b n
 | 0=>Nat.le_refl _
 | n+1=>by
  have h1:=JQH h n
  have h2:=h ((n+1:Nat):Int)
  simp only[wtN]
  omega
theorem ZWO {a b:List Int} (h:∀r,atV a r<=atV b r) {r:Int} (h1:1<=r) (hlt:atV a r<atV b r):∀n:Nat,r<=(n:Int)->wtN a n<wtN b n
 | 0,hr=>by omega
 | n+1,hr=>by
  have h2:=h ((n+1:Nat):Int)
  have p:=QPS a r
  simp only[wtN]
  by_cases e:r=((n+1:Nat):Int)
  ·have h3:=JQH h n
   rw[<-e]
   omega
  ·have h3:=ZWO h h1 hlt n (by omega)
   omega
def pIn (go:List (Int×Int)->Int×Int->List (Int×Int)) (r:Int):Nat->List (Int×Int)->List (Int×Int)
 | 0,M=>M
 | n+1,M=>if (r,((n+1:Nat):Int))∈M then M else pIn go r n (go (M++[(r,((n+1:Nat):Int))]) (r,((n+1:Nat):Int)))
def pOut (go:List (Int×Int)->Int×Int->List (Int×Int)):List Int->Nat->List (Int×Int)->List (Int×Int)
 | [],_,M=>M
 | a::l,i,M=>pOut go l (i+1) (pIn go ((i+1:Nat):Int) a.toNat M)
def pSt (dp:Int×Int->List Int):Nat->List (Int×Int)->Int×Int->List (Int×Int)
 | 0,M,_=>M
 | k+1,M,d=>pOut (pSt dp k) (dp d) 0 M
structure GV (dp:Int×Int->List Int) (n:Nat):Prop where
 len:∀d,(dp d).length<=n
 pos:∀d,∀a∈dp d,0<=a/\a<=1048576
 low:∀d x,vhas (dp d) x->(∀r,atV (dp x) r<=atV (dp d) r)/\atV (dp x) x.1=x.2-1
structure PInv (dp:Int×Int->List Int) (M:List (Int×Int)) (d:Int×Int) (M':List (Int×Int)):Prop where
 sub:∀y∈M,y∈M'
 up:∀x∈M',x∈M\/vhas (dp d) x
 cl:∀y∈M',y∉M->∀x,vhas (dp y) x->x∈M'
 nd:M.Nodup->M'.Nodup
structure PPost (dp:Int×Int->List Int) (M:List (Int×Int)) (d:Int×Int) (M':List (Int×Int)):Prop extends PInv dp M d M' where
 und:∀x,vhas (dp d) x->x∈M'
def PC (dp:Int×Int->List Int) (n:Nat) (M:List (Int×Int)) (K:Nat):Prop:=∀y∈M,wtN (dp y) n<K->∀x,vhas (dp y) x->x∈M
theorem PInv.refl (dp:Int×Int->List Int) (M:List (Int×Int)) (d:Int×Int):PInv dp M d M:=⟨fun _ h=>h,fun _ h=>.inl h,fun _ h h'=>absurd h h',fun h=>h⟩
theorem JvS {l:List Int} {r:Int} (h:1<=atV l r):1<=r/\r<=(l.length:Int):=by
 unfold atV at h
 split at h <;> omega
section
variable {dp:Int×Int->List Int} {n:Nat}
theorem GV.lt (hV:GV dp n) {d x:Int×Int} (h:vhas (dp d) x):wtN (dp x) n<wtN (dp d) n:=by
 obtain ⟨h1,h2⟩:=hV.low d x h
 obtain ⟨a1,a2,a3⟩:=h
 have h3:=JvS (l:=dp d) (r:=x.1) (by omega)
 have h4:=hV.len d
 exact ZWO h1 a1 (by omega) n (by omega)
theorem KYy {a b:List Int} (h:∀r,atV a r<=atV b r) {x:Int×Int} (hx:vhas a x):vhas b x:=⟨hx.1,hx.2.1,Int.le_trans hx.2.2 (h _)⟩
theorem PInv.pc {M M':List (Int×Int)} {d:Int×Int} {K:Nat} (h0:PC dp n M K) (h:PInv dp M d M'):PC dp n M' K:=fun y hy hw x hx=>by
 by_cases hm:y∈M
 ·exact h.sub _ (h0 y hm hw x hx)
 ·exact h.cl y hy hm x hx
theorem Zzd (hV:GV dp n) {go:List (Int×Int)->Int×Int->List (Int×Int)} {d:Int×Int} {M0:List (Int×Int)} (h0:PC dp n M0 (wtN (dp d) n)) {r:Int}
  (hgo:∀M x,vhas (dp d) x->PC dp n M (wtN (dp x) n)->PPost dp M x (go M x)) :
  ∀(m:Nat) (M:List (Int×Int)),1<=r->(m:Int)<=atV (dp d) r->PInv dp M0 d M->PInv dp M0 d (pIn go r m M)/\(∀y∈M,y∈pIn go r m M)/\∀j:Int,1<=j->j<=m->(r,j)∈pIn go r m M
 | 0,M,_,_,hi=>⟨hi,fun _ h=>h,fun j h1 h2=>by omega⟩
 | m+1,M,hr,hm,hi=>by
  have hx:vhas (dp d) (r,((m+1:Nat):Int)):=⟨hr,by dsimp only;omega,hm⟩
  have hc:=hi.pc h0
  by_cases hin:(r,((m+1:Nat):Int))∈M
  ·rw[pIn,if_pos hin]
   refine ⟨hi,fun _ h=>h,fun j h1 h2=>?_⟩
   by_cases hj:j=((m+1:Nat):Int)
   ·rw[hj];exact hin
   ·refine hc _ hin (hV.lt hx) _ ⟨hr,h1,?_⟩
    have:=(hV.low d _ hx).2
    dsimp only at this ⊢
    omega
  ·rw[pIn,if_neg hin]
   have hp:=hgo (M++[(r,((m+1:Nat):Int))]) (r,((m+1:Nat):Int)) hx (fun y hy hw x hx'=>by
    rcases List.mem_append.1 hy with h|h
    ·exact List.mem_append_left _ (hc y h (Nat.lt_trans hw (hV.lt hx)) x hx')
    ·rw[List.mem_singleton.1 h]at hw
     exact absurd hw (Nat.lt_irrefl _))
   generalize hM2:go (M++[(r,((m+1:Nat):Int))]) (r,((m+1:Nat):Int))=M2 at hp
   have i2:PInv dp M0 d M2:=by
    refine ⟨fun y hy=>hp.sub _ (List.mem_append_left _ (hi.sub y hy)),fun z hz=>?_,fun y hy hn x hx'=>?_,fun h=>hp.nd ?_⟩
    ·rcases hp.up z hz with h|h
     ·rcases List.mem_append.1 h with h|h
      ·exact hi.up z h
      ·rw[List.mem_singleton.1 h];exact .inr hx
     ·exact .inr (KYy (hV.low d _ hx).1 h)
    ·by_cases h1:y∈M++[(r,((m+1:Nat):Int))]
     ·rcases List.mem_append.1 h1 with h|h
      ·exact hp.sub _ (List.mem_append_left _ (hi.cl y h hn x hx'))
      ·rw[List.mem_singleton.1 h]at hx'
       exact hp.und x hx'
     ·exact hp.cl y hy h1 x hx'
    ·exact List.nodup_append.2 ⟨hi.nd h,by simp,fun a ha b hb=>by rw[List.mem_singleton.1 hb];exact fun z=>hin (z▸ha)⟩
   obtain ⟨q1,q2,q3⟩:=Zzd hV h0 hgo m M2 hr (by omega) i2
   refine ⟨q1,fun y hy=>q2 _ (hp.sub _ (List.mem_append_left _ hy)),fun j h1 h2=>?_⟩
   by_cases hj:j=((m+1:Nat):Int)
   ·rw[hj]
    exact q2 _ (hp.sub _ (List.mem_append_right _ (List.mem_singleton.2 rfl)))
   ·exact q3 j h1 (by omega)
theorem qt6 {l:List Int} {i:Nat} {a:Int} (h:l[i]?=some a) (ha:0<=a):atV l ((i+1:Nat):Int)=a:=by
 have hi:=(List.getElem?_eq_some_iff.1 h).1
 unfold atV
 rw[if_neg (by omega),show (((i+1:Nat):Int)-1).toNat=i by omega,List.getD_eq_getElem?_getD,h]
 exact Int.max_eq_left ha
theorem QwH (hV:GV dp n) {go:List (Int×Int)->Int×Int->List (Int×Int)} {d:Int×Int} {M0:List (Int×Int)} (h0:PC dp n M0 (wtN (dp d) n))
  (hgo:∀M x,vhas (dp d) x->PC dp n M (wtN (dp x) n)->PPost dp M x (go M x)) :
  ∀(l:List Int) (i:Nat) (M:List (Int×Int)),(dp d).drop i=l->PInv dp M0 d M->PInv dp M0 d (pOut go l i M)/\(∀y∈M,y∈pOut go l i M)/\∀x,vhas (dp d) x->(i:Int)<x.1->x∈pOut go l i M
 | [],i,M,hl,hi=>⟨hi,fun _ h=>h,fun x hx h2=>by
   have h3:=JvS (l:=dp d) (r:=x.1) (by have:=hx.2;omega)
   have h4:(dp d).length<=i:=List.drop_eq_nil_iff.1 hl
   omega⟩
 | a::l,i,M,hl,hi=>by
  have hg:(dp d)[i]?=some a:=by
   have:((dp d).drop i)[0]?=some a:=by rw[hl];rfl
   rwa [List.getElem?_drop,Nat.add_zero]at this
  have ha:=(hV.pos d a (List.mem_of_getElem? hg)).1
  have hat:=qt6 hg ha
  obtain ⟨q1,q2,q3⟩:=Zzd hV h0 hgo a.toNat M (r:=((i+1:Nat):Int)) (by omega) (by rw[hat];omega) hi
  have hl':(dp d).drop (i+1)=l:=by
   rw[<-List.drop_drop,hl]
   rfl
  obtain ⟨r1,r2,r3⟩:=QwH hV h0 hgo l (i+1) _ hl' q1
  rw[pOut]
  refine ⟨r1,fun y hy=>r2 _ (q2 _ hy),fun x hx h2=>?_⟩
  by_cases hx1:x.1=((i+1:Nat):Int)
  ·have:=q3 x.2 hx.2.1 (by have:=hx.2.2;rw[hx1,hat]at this;omega)
   refine r2 _ ?_
   rw[<-hx1]at this ⊢
   exact this
  ·exact r3 x hx (by omega)
theorem zbx (hV:GV dp n):∀(k:Nat) (M:List (Int×Int)) (d:Int×Int),wtN (dp d) n<k->PC dp n M (wtN (dp d) n)->PPost dp M d (pSt dp k M d)
 | 0,_,_,h,_=>absurd h (Nat.not_lt_zero _)
 | k+1,M,d,h,hc=>by
  obtain ⟨q1,_,q3⟩:=QwH hV hc (go:=pSt dp k) (fun M' x hx hc'=>zbx hV k M' x (Nat.lt_of_lt_of_le (hV.lt hx) (Nat.le_of_lt_succ h)) hc') (dp d) 0 M rfl (PInv.refl dp M d)
  exact ⟨q1,fun x hx=>q3 x hx (by have:=hx.1;omega)⟩
theorem q6O (hV:GV dp n) {k:Nat} {d:Int×Int} (h:wtN (dp d) n<k) (x:Int×Int):x∈pSt dp k [] d↔vhas (dp d) x:=by
 have hp:=zbx hV k [] d h (fun y hy=>by simp at hy)
 exact ⟨fun hx=>(hp.up x hx).elim (fun z=>by simp at z) id,hp.und x⟩
theorem Y8d (hV:GV dp n) {k:Nat} {d:Int×Int} (h:wtN (dp d) n<k):(pSt dp k [] d).Nodup:=(zbx hV k [] d h (fun y hy=>by simp at hy)).nd List.nodup_nil
end
end
section
abbrev EvD:=EvtA×List Int
def chkA (n:Int):List EvD->List (Int×Int)->Int
 | [],_=>0
 | e::l,seen=>if fitE e.1 e.2 n≠0 then fitE e.1 e.2 n else if e.1.dot∈seen then 19 else chkA n l (seen++[e.1.dot])
def Zqo (all:List EvD) (e:EvD) (i:Nat):Prop:=∀a,e.2[i]?=some a->a≠0->∃o∈all,o.1.dot=(((i+1:Nat):Int),a)/\∀r,atV o.2 r<=atV e.2 r
def chkB (all:List EvD):Prop:=∀e∈all,∀i,Zqo all e i
open Classical in
noncomputable def chkG (l:List EvD) (n:Int):Int:=
 if n<1\/16<n then 3 else if 4096<l.length then 4 else if chkA n l []≠0 then chkA n l [] else if chkB l then 0 else 25
theorem YRV {x:EvtA} {l:List Int} {n:Int} (h:fitE x l n=0):1<=x.dot.1/\x.dot.1<=n/\1<=x.dot.2/\x.dot.2<=1048576/\(l.length:Int)=n/\(∀a∈l,0<=a/\a<=1048576)/\l.getD (x.dot.1-1).toNat 0=x.dot.2-1:=by
 unfold fitE at h
 repeat' (split at h;· exact absurd h (by decide))
 rename_i h1 h2 h3 h4 h5 h6 h7 h8 h9
 refine ⟨by omega,by omega,by omega,by omega,Decidable.byContradiction h5,fun a ha=>?_,Decidable.byContradiction h7⟩
 have this:¬oddI a:=fun z=>h6 ⟨a,ha,z⟩
 unfold oddI at this
 omega
theorem Js7 {n:Int}:∀ {l:List EvD} {seen:List (Int×Int)},chkA n l seen=0->(∀e∈l,fitE e.1 e.2 n=0)/\(∀e∈l,e.1.dot∉seen)/\(l.map (·.1.dot)).Nodup
 | [],seen,_=>⟨fun e h=>by simp at h,fun e h=>by simp at h,by simp⟩
 | e::l,seen,h=>by
  rw[chkA]at h
  split at h
  ·rename_i hf
   exact absurd h hf
  ·rename_i hf
   split at h
   ·exact absurd h (by decide)
   ·rename_i hs
    obtain ⟨h1,h2,h3⟩:=Js7 h
    refine ⟨fun x hx=>?_,fun x hx=>?_,?_⟩
    ·rcases List.mem_cons.1 hx with rfl|hx
     ·exact Decidable.byContradiction hf
     ·exact h1 x hx
    ·rcases List.mem_cons.1 hx with rfl|hx
     ·exact hs
     ·exact fun z=>h2 x hx (List.mem_append_left _ z)
    ·rw[List.map_cons,List.nodup_cons]
     refine ⟨fun z=>?_,h3⟩
     obtain ⟨x,hx,hd⟩:=List.mem_map.1 z
     exact h2 x hx (List.mem_append_right _ (by rw[hd];exact List.mem_singleton.2 rfl))
def dpE (l:List EvD) (d:Int×Int):List Int:=((l.find? fun e=>decide (e.1.dot=d)).map (·.2)).getD []
theorem QEz {l:List EvD} (hn:(l.map (·.1.dot)).Nodup) {e:EvD} (he:e∈l):dpE l e.1.dot=e.2:=by
 unfold dpE
 have:l.find? (fun x=>decide (x.1.dot=e.1.dot))=some e:=by
  induction l with
  | nil=>cases he
  | cons x l ih =>
   rw[List.map_cons,List.nodup_cons]at hn
   rcases List.mem_cons.1 he with rfl|he
   ·simp
   ·have hx:x.1.dot≠e.1.dot:=fun z=>hn.1 (by rw[z];exact List.mem_map.2 ⟨e,he,rfl⟩)
    rw[List.find?_cons_of_neg (by simpa using hx)]
    exact ih hn.2 he
 rw[this]
 rfl
theorem Z7t (l:List EvD) (d:Int×Int):dpE l d=[]\/∃e∈l,e.1.dot=d/\dpE l d=e.2:=by
 unfold dpE
 cases h:l.find? fun e=>decide (e.1.dot=d) with
 | none=>exact .inl rfl
 | some e=>exact .inr ⟨e,List.mem_of_find?_eq_some h,by simpa using List.find?_some h,rfl⟩
theorem ZEf {l:List EvD} {n:Int} (h:chkG l n=0):1<=n/\n<=16/\l.length<=4096/\chkA n l []=0/\chkB l:=by
 unfold chkG at h
 split at h
 ·exact absurd h (by decide)
 ·split at h
  ·exact absurd h (by decide)
  ·split at h
   ·rename_i h3
    exact absurd h h3
   ·split at h
    ·rename_i h1 h2 h3 h4
     exact ⟨by omega,by omega,by omega,Decidable.byContradiction h3,h4⟩
    ·exact absurd h (by decide)
theorem Qfr {l:List EvD} {n:Int} (h:chkG l n=0) {e:EvD} (he:e∈l) {r:Int}:∀(k:Nat) (m:Int),1<=m->m+k=atV e.2 r->∃o∈l,o.1.dot=(r,m)/\∀q,atV o.2 q<=atV e.2 q:=by
 obtain ⟨_,_,_,hA,hB⟩:=ZEf h
 obtain ⟨h1,_,h3⟩:=Js7 hA
 intro k
 induction k with
 | zero =>
  intro m hm hk
  have hr:=JvS (l:=e.2) (r:=r) (by omega)
  obtain ⟨f1,f2,f3,f4,f5,f6,f7⟩:=YRV (h1 e he)
  have hi:(r-1).toNat<e.2.length:=by omega
  have hg:e.2[(r-1).toNat]?=some e.2[(r-1).toNat]:=List.getElem?_eq_getElem hi
  have ha:=(f6 _ (List.getElem_mem hi)).1
  have hat:=qt6 hg ha
  rw[show (((r-1).toNat+1:Nat):Int)=r by omega]at hat
  obtain ⟨o,ho,hd,hl⟩:=hB e he (r-1).toNat _ hg (by omega)
  refine ⟨o,ho,?_,hl⟩
  rw[hd,<-hat,show (((r-1).toNat+1:Nat):Int)=r by omega]
  congr 1
  omega
 | succ k ih =>
  intro m hm hk
  obtain ⟨o,ho,hd,hl⟩:=ih (m+1) (by omega) (by omega)
  obtain ⟨f1,f2,f3,f4,f5,f6,f7⟩:=YRV (h1 o ho)
  rw[hd]at f1 f2 f7
  dsimp only at f1 f2 f7
  have hi:(r-1).toNat<o.2.length:=by omega
  have hg:o.2[(r-1).toNat]?=some m:=by
   rw[List.getD_eq_getElem?_getD,List.getElem?_eq_getElem hi]at f7
   rw[List.getElem?_eq_getElem hi]
   have f8:o.2[(r-1).toNat]=m+1-1:=f7
   rw[f8]
   congr 1
   omega
  obtain ⟨o',ho',hd',hl'⟩:=hB o ho (r-1).toNat _ hg (by omega)
  refine ⟨o',ho',?_,fun q=>Int.le_trans (hl' q) (hl q)⟩
  rw[hd',show (((r-1).toNat+1:Nat):Int)=r by omega]
theorem qOn {l:List EvD} {n:Int} (h:chkG l n=0):GV (dpE l) n.toNat:=by
 obtain ⟨_,_,_,hA,hB⟩:=ZEf h
 obtain ⟨h1,_,h3⟩:=Js7 hA
 refine ⟨fun d=>?_,fun d a ha=>?_,fun d x hx=>?_⟩
 ·rcases Z7t l d with e|⟨e,he,_,hd⟩
  ·rw[e];exact Nat.zero_le _
  ·have:=(YRV (h1 e he)).2.2.2.2.1
   rw[hd];omega
 ·rcases Z7t l d with e|⟨e,he,_,hd⟩
  ·rw[e]at ha;cases ha
  ·rw[hd]at ha
   exact (YRV (h1 e he)).2.2.2.2.2.1 a ha
 ·rcases Z7t l d with e|⟨e,he,_,hd⟩
  ·rw[e]at hx
   have:=JvS (l:=[]) (r:=x.1) (by have:=hx.2;omega)
   simp at this
   omega
  ·rw[hd]at hx ⊢
   obtain ⟨o,ho,hod,hl⟩:=Qfr h he (r:=x.1) (atV e.2 x.1-x.2).toNat x.2 hx.2.1 (by have:=hx.2.2;omega)
   have hox:dpE l x=o.2:=by
    have:=QEz h3 ho
    rw[hod]at this
    exact this
   rw[hox]
   refine ⟨hl,?_⟩
   obtain ⟨f1,f2,f3,f4,f5,f6,f7⟩:=YRV (h1 o ho)
   rw[hod]at f1 f2 f3 f7
   dsimp only at f1 f2 f3 f7
   unfold atV
   rw[if_neg (by omega),f7]
   exact Int.max_eq_left (by omega)
theorem Ji4 {l:List EvD} {n:Int} (h:chkG l n=0) {e:EvD} (he:e∈l) {x:Int×Int} (hx:vhas e.2 x):∃o∈l,o.1.dot=x:=by
 obtain ⟨o,ho,hod,_⟩:=Qfr h he (r:=x.1) (atV e.2 x.1-x.2).toNat x.2 hx.2.1 (by have:=hx.2.2;omega)
 exact ⟨o,ho,hod⟩
end
section
theorem Jld (l:List Int) (r:Int):vAt l r=atV l r:=by
 unfold vAt atV
 by_cases h1:r<1
 ·rw[if_pos h1,if_pos (.inl h1)]
 ·rw[if_neg h1]
  by_cases h2:(l.length:Int)<r
  ·rw[if_pos h2,if_pos (.inr h2)]
  ·rw[if_neg h2,if_neg (fun z=>z.elim h1 h2)]
end
section
set_option maxRecDepth 100000
set_option maxHeartbeats 4000000
noncomputable def rdDs (h:List AB):List EvtA->Option (List EvD)
 | []=>some []
 | x::l=>if okL (fun i=>decide (i<h.length)) (evtF x)=true then (getS intR h x.deps.a).bind fun d=>(rdDs h l).map ((x,d) :: ·) else none
theorem qbY {h:List AB}:∀ {l:List EvtA} {m:List EvD},rdDs h l=some m->m.map (·.1)=l/\∀e∈m,Rd intR h e.1.deps.a e.2/\okL (fun i=>decide (i<h.length)) (evtF e.1)=true
 | [],m,e=>by cases e;exact ⟨rfl,fun e h=>by simp at h⟩
 | x::l,m,e=>by
  rw[rdDs]at e
  split at e
  ·rename_i ho
   obtain ⟨d,hd,e⟩:=zZy e
   obtain ⟨m',hm,rfl⟩:=Option.map_eq_some_iff.1 e
   obtain ⟨h1,h2⟩:=qbY hm
   exact ⟨by rw[List.map_cons,h1],fun e he=>by
    rcases List.mem_cons.1 he with rfl|he
    ·exact ⟨hd,ho⟩
    ·exact h2 e he⟩
  ·cases e
theorem ZLV {h:List AB}:∀ {m:List EvD},(∀e∈m,Rd intR h e.1.deps.a e.2/\okL (fun i=>decide (i<h.length)) (evtF e.1)=true)->rdDs h (m.map (·.1))=some m
 | [],_=>rfl
 | e::m,hm=>by
  have h1:=(hm e (List.mem_cons_self ..)).1.get
  have h2:=ZLV (m:=m) fun e he=>hm e (List.mem_cons_of_mem _ he)
  rw[List.map_cons,rdDs,if_pos (hm e (List.mem_cons_self ..)).2,h1,Option.bind_some,h2]
  rfl
structure RdEv (h:List AB) (s:AV) (m:List EvD):Prop where
 s:Rd evR h s (m.map (·.1))
 d:∀e∈m,Rd intR h e.1.deps.a e.2
 o:∀e∈m,okL (fun i=>decide (i<h.length)) (evtF e.1)=true
noncomputable def YgZ (h:List AB) (s:AV):Option (List EvD):=(getS evR h s).bind (rdDs h)
theorem RdEv.get {h:List AB} {s:AV} {m:List EvD} (e:RdEv h s m):YgZ h s=some m:=by
 unfold YgZ
 rw[e.s.get,Option.bind_some]
 exact ZLV fun a ha=>⟨e.d a ha,e.o a ha⟩
theorem KdM {β:Type} {h:List AB} {s:AV} {f:List EvD->Option β} {b:β} (e:(YgZ h s).bind f=some b):∃m,RdEv h s m/\f m=some b:=by
 unfold YgZ at e
 rw[Option.bind_assoc]at e
 obtain ⟨l,hl,e⟩:=zZy e
 obtain ⟨m,hm,e⟩:=oQ.1 e
 obtain ⟨h1,h2⟩:=qbY hm
 exact ⟨m,⟨by rw[h1];exact hl,fun a ha=>(h2 a ha).1,fun a ha=>(h2 a ha).2⟩,e⟩
theorem RdEv.app {h:List AB} {s:AV} {m:List EvD} (e:RdEv h s m) (x:List AB):RdEv (h++x) s m:=⟨e.s.app x,fun a ha=>(e.d a ha).app x,fun a ha=>KAd (fun i q=>by simp only[decide_eq_true_eq,List.length_append]at q ⊢;omega) _ (e.o a ha)⟩
theorem RdEv.frz {h:List AB} {s:AV} {m:List EvD} (e:RdEv h s m):RdEv (h.map AB.freeze) s m:=⟨e.s.frz,fun a ha=>(e.d a ha).frz,fun a ha=>by rw[List.length_map];exact e.o a ha⟩
theorem KQb {zs ys:List AV} (h:ys.length=zs.length):over zs 0 ys=ys:=by
 induction ys generalizing zs with
 | nil=>cases zs with
  | nil=>rfl
  | cons z zs=>cases h
 | cons y ys ih=>cases zs with
  | nil=>cases h
  | cons z zs =>
   have:=ih (zs:=zs) (by simpa using h)
   unfold over at this ⊢
   simpa using this
theorem ovE (x:EvtA):over [.i .i64 0,.i .i64 0,.ns,.i .i64 0,.s [],.s [],oZ,oZ,oZ,oZ,oZ,oZ,oZ,oZ,oZ,oZ,oZ,oZ,oZ,oZ,oZ,oZ,oZ,oZ,oZ,oZ,oZ,oZ,oZ,oZ,oZ,oZ,oZ,oZ,oZ,oZ,oZ,oZ,.ns] 0 (evtF x)=evtF x:=KQb (YXj x)
theorem XAK {p:Nat} {sel:List Nat}:∀ {l:List AV},okL (fun i=>decide (i<p)) l=true->WkL (renL (selN p sel) l) l
 | [],_=>trivial
 | a::l,h=>by
  simp only[XDA,Bool.and_eq_true]at h
  exact ⟨Wk.ren (fun i hi=>ZiE hi) h.1,XAK h.2⟩
theorem qTb {α:Type} (r:KeyR α) {p n:Nat} {sel:List Nat} {m:Bool} {l:List (α×AV)} (h:okL (fun i=>decide (i<p)) (kvF r l)=true):BWk (fun i=>decide (i<p+n)) (selN p sel) (mpB r m l) (mpB r m l):=
 ⟨⟨_root_.id,rfl⟩,KAd (fun i q=>by simp only[decide_eq_true_eq]at q ⊢;omega) _ h,XAK h⟩
theorem zOT {p:Nat}:∀ {l:List ((Int×Int)×AV)},(∀e∈l,e.2.ok (fun i=>decide (i<p))=true)->okL (fun i=>decide (i<p)) (kvF dotK l)=true
 | [],_=>rfl
 | e::l,h=>by
  have h1:=zOT (l:=l) fun e he=>h e (List.mem_cons_of_mem _ he)
  have h2:=h e (List.mem_cons_self ..)
  have h3:(dotK.f e.1).ok (fun i=>decide (i<p))=true:=rfl
  simp only[kvF,XDA,h1,h2,h3,Bool.and_self]
def entE (m:List EvD):List ((Int×Int)×AV):=m.map fun e=>(e.1.dot,.ag (evtF e.1))
theorem JQM {m:List EvD} {d:Int×Int}:fndM dotK d (entE m) 0=none↔∀e∈m,e.1.dot≠d:=by
 rw[zr4]
 exact ⟨fun h e he=>h _ (List.mem_map.2 ⟨e,he,rfl⟩),fun h x hx=>by
  obtain ⟨e,he,rfl⟩:=List.mem_map.1 hx
  exact h e he⟩
theorem QjS {m:List EvD} {d:Int×Int} {j:Nat} {v:AV} (h:fndM dotK d (entE m) 0=some (j,v)):∃e∈m,e.1.dot=d/\v=.ag (evtF e.1):=by
 have h2:=(Jp7 dotK h).2
 obtain ⟨e,he,h3⟩:=List.mem_map.1 (List.mem_of_getElem? h2)
 rw[Prod.mk.injEq]at h3
 exact ⟨e,he,h3.1,h3.2.symm⟩
noncomputable def Kb7:List AV->List AB->Option (AV×List AB)
 | [s,.i .i64 n],h=>(YgZ h s).bind fun m=>if ∀e∈m,e.1.repo.length<=1000000/\e.1.tag.length<=1000000 then some (.i .i64 (chkG m n),h) else none
 | _,_=>none
theorem z8R (n:Int):∀(l:List EvD) (seen:List (Int×Int)) (i:Nat) (hi:i<l.length),chkA n (l.drop i) (seen++(l.take i).map (·.1.dot))=if fitE l[i].1 l[i].2 n≠0 then fitE l[i].1 l[i].2 n else if l[i].1.dot∈seen++(l.take i).map (·.1.dot) then 19 else chkA n (l.drop (i+1)) (seen++(l.take (i+1)).map (·.1.dot)):=by
 intro l seen i hi
 rw[List.drop_eq_getElem_cons hi,chkA,List.take_succ_eq_append_getElem hi,List.map_append,List.append_assoc]
 rfl
theorem zyj:Spec Tryz.prog 16 Kb7:=by
 intro args h v h' e
 unfold Kb7 at e
 split at e
 ·rename_i s n
  obtain ⟨m,hs,e⟩:=KdM e
  split at e
  ·rename_i hc
   cases e
   refine FnAt.c (FnAt.frz0 fun hz=>?_)
   have hs:=hs.frz
   generalize h.map AB.freeze=h at *
   refine FnAt.run (by kernel_rfl) (T:=⟨[⟨63,ZTW,fun _=>[]⟩,⟨64,zmF,fun _=>[]⟩],[]⟩) ⟨⟨YC3,ZW8,trivial⟩,trivial⟩ Tryz.func16 sw16 fun ho hh=>?_
   simp only[XDA,Bool.and_eq_true]at ho
   have f1:=hs.s.fx ho.1 (sz:=39) rfl
   have hlm:(m.map (·.1)).length=m.length:=List.length_map _
   rw[hlm]at f1
   have so:∀c,s.ok (fun i=>decide (i<h.length+c))=true:=fun c=>AV.ok_mono (fun i q=>by simp only[decide_eq_true_eq]at q ⊢;omega) s ho.1
   have sr:∀sel,Wk (s.ren (selN h.length sel)) s:=fun sel=>Wk.ren (fun i hi=>ZiE hi) ho.1
   unfold w16
   rcases emG (n<1) with q1|q1
   ·have hg:chkG m n=3:=if_pos (.inl (of_eq_true q1))
    rw[hg]
    simp only[QhU,YqB,z16,KHD,Xq6,if_true,if_false,↓reduceIte,Nat.reduceAdd,Nat.reduceSub,Nat.reduceLeDiff,Nat.reduceEqDiff,Nat.reduceMul,Nat.reduceLT,Int.reduceLT,Int.reduceLE,Int.reduceEq,CO.tmps,Opd.tmps,optT,Nat.reducePow,Nat.reduceDiv,Nat.reduceMod,q1,oW hh hz,oD,ne_eq,forall_const]
    exact Bt.drop _ hh rfl rfl
   rcases emG (16<n) with q2|q2
   ·have hg:chkG m n=3:=if_pos (.inr (of_eq_true q2))
    rw[hg]
    simp only[QhU,YqB,z16,KHD,Xq6,if_true,if_false,↓reduceIte,Nat.reduceAdd,Nat.reduceSub,Nat.reduceLeDiff,Nat.reduceEqDiff,Nat.reduceMul,Nat.reduceLT,Int.reduceLT,Int.reduceLE,Int.reduceEq,CO.tmps,Opd.tmps,optT,Nat.reducePow,Nat.reduceDiv,Nat.reduceMod,q1,q2,oW hh hz,oD,ne_eq,forall_const]
    exact Bt.drop _ hh rfl rfl
   have q12:¬(n<1\/16<n):=fun z=>z.elim (of_eq_false q1) (of_eq_false q2)
   rcases emG ((4096:Int)<(m.length:Int)) with q3|q3
   ·have hg:chkG m n=4:=by
     unfold chkG
     rw[if_neg q12,if_pos (by have:=of_eq_true q3;omega)]
    rw[hg]
    simp only[QhU,YqB,z16,KHD,Xq6,if_true,if_false,↓reduceIte,Nat.reduceAdd,Nat.reduceSub,Nat.reduceLeDiff,Nat.reduceEqDiff,Nat.reduceMul,Nat.reduceLT,Int.reduceLT,Int.reduceLE,Int.reduceEq,CO.tmps,Opd.tmps,optT,Nat.reducePow,Nat.reduceDiv,Nat.reduceMod,q1,q2,q3,f1,oW hh hz,oD,ne_eq,forall_const]
    exact Bt.drop _ hh rfl rfl
   have q3':¬4096<m.length:=fun z=>of_eq_false q3 (by omega)
   simp only[QhU,YqB,z16,KHD,Xq6,if_true,if_false,↓reduceIte,Nat.reduceAdd,Nat.reduceSub,Nat.reduceLeDiff,Nat.reduceEqDiff,Nat.reduceMul,Nat.reduceLT,Int.reduceLT,Int.reduceLE,Int.reduceEq,CO.tmps,Opd.tmps,optT,Nat.reducePow,Nat.reduceDiv,Nat.reduceMod,q41,q1,q2,q3,f1,oW hh hz,oD,ne_eq,forall_const]
   refine q2X (S:=Nat) (fun i=>m.length-i) (fun i=>[s,.i .i64 n]++tp 3++[.m (h.length+0)]++tp 23++[s,.i .i64 (m.length:Int),.i .i64 (i:Int)]++tp 59) (fun i=>h++[mpB dotK true (entE (m.take i))]) (fun i=>i<=m.length/\chkA n (m.drop i) ((m.take i).map (·.1.dot))=chkA n m []) 0 ⟨Nat.zero_le _,rfl⟩ ?_ fun i hi=>?_
   ·refine Bt.wk ?_
    simp only[z16,Xq6,if_true,if_false,reduceIte,Nat.reduceAdd,Nat.reduceSub,Nat.reduceLeDiff,Nat.reduceEqDiff,Nat.reduceMul,Nat.reduceLT,Int.reduceLT,Int.reduceLE,Int.reduceEq]
   obtain ⟨h1,h2⟩:=hi
   by_cases g:i<m.length
   ·have g':((i:Int)<(m.length:Int))=True:=eq_true (by omega)
    have e1:IntKind.i64.wrap ((i:Int)+1)=((i+1:Nat):Int):=ZWm (by have:=hs.s.2;unfold maxLen at this;unfold In64;omega)
    have hgd:(m.map (·.1)).getD i evR.d=m[i].1:=by rw[List.getD_eq_getElem?_getD,List.getElem?_map,List.getElem?_eq_getElem g];rfl
    have hin:m[i]∈m:=List.getElem_mem g
    have hd:=hs.d _ hin
    have hce:=hc _ hin
    have hfx:=z8R n m [] i g
    have htk:∀e∈m.take (i+1),okL (fun i=>decide (i<h.length)) (evtF e.1)=true:=fun e he=>hs.o e (List.mem_of_mem_take he)
    obtain ⟨e,hmi⟩:∃e,m[i]=e:=⟨_,rfl⟩
    rw[hmi]at hgd hd hce hfx hin
    obtain ⟨x,dl⟩:=e
    dsimp only at hgd hd hce hfx
    rw[List.nil_append,h2]at hfx
    obtain ⟨a0,a1,a2,a3,a4,a5,a6⟩:=Zxc x
    have w1:=Q7m x
    have l1:=YXj x
    have lt:(evtF x).take 39=evtF x:=List.take_of_length_le (by rw[l1];exact Nat.le_refl _)
    have c1:∀l:List AV,(AV.ag l).cells=l:=fun _=>rfl
    have gx:∀y,getS intR (h++y) x.deps.a=some dl:=fun y=>(hd.app y).get
    have hcf:=eq_true (p:=x.repo.length<=1000000/\x.tag.length<=1000000/\n<=1000) ⟨hce.1,hce.2,by have:=of_eq_false q2;omega⟩
    rcases emG (fitE x dl n=0) with f|f
    rotate_left
    ·have hres:chkG m n=fitE x dl n:=by
      rw[if_pos (of_eq_false f)]at hfx
      unfold chkG
      rw[if_neg q12,if_neg q3',hfx,if_pos (of_eq_false f)]
     rw[hres]
     simp only[QhU,YqB,z16,KHD,Xq6,if_true,if_false,↓reduceIte,Nat.reduceAdd,Nat.reduceSub,Nat.reduceLeDiff,Nat.reduceEqDiff,Nat.reduceMul,Nat.reduceLT,Int.reduceLT,Int.reduceLE,Int.reduceEq,CO.tmps,Opd.tmps,optT,Nat.reducePow,Nat.reduceDiv,Nat.reduceMod,f1,g,g',e1,ZxE,hgd,ovE,ZTW,Zz9,gx,hcf,f,a0,a1,w1,l1,lt,c1,Option.bind_some,List.drop_zero,if_true,oW hh hz,oD,ne_eq,forall_const]
     exact Bt.dropI _ hh rfl
    rw[if_neg (not_not_intro (of_eq_true f))]at hfx
    have t2:(evtF x).take 2=[.i .i64 x.dot.1,.i .i64 x.dot.2]:=rfl
    have key:∀(M:List ((Int×Int)×AV)) L,(h++(mpB dotK true M::L))[h.length+0]?=some (mpB dotK true M):=fun M L=>qu4 _ 0
    have lk:∀(M:List ((Int×Int)×AV)) L z a b,lkV (h++(mpB dotK true M::L)) true [.i,.i] true z (.m (h.length+0)) (.ag [.i .i64 a,.i .i64 b])=some (lkR true z (fndM dotK (a,b) M 0)):=fun M L z a b=>JMn dotK (key M L) true z (a,b)
    have mu:∀(M:List ((Int×Int)×AV)) L a b v,muV (h++(mpB dotK true M::L)) true [.i,.i] (.m (h.length+0)) (.ag [.i .i64 a,.i .i64 b]) v=some (h++(mpB dotK true (putM dotK M (a,b) v)::L)):=fun M L a b v=>by
     have:=YOF dotK (key M L) (a,b) v
     rw[Yie]at this
     exact this
    have lr0:∀z,lkR true z none=.tu [z,.b false]:=fun _=>rfl
    have lr1:∀z j v,lkR true z (some (j,v))=.tu [v,.b true]:=fun _ _ _=>rfl
    have lfx:=lk (entE (m.take i))
    cases hfd:fndM dotK (x.dot.1,x.dot.2) (entE (m.take i)) 0 with
    | some jv =>
     obtain ⟨j,v⟩:=jv
     obtain ⟨e',he',hd',rfl⟩:=QjS hfd
     have hres:chkG m n=19:=by
      rw[if_pos (List.mem_map.2 ⟨e',he',hd'⟩)]at hfx
      unfold chkG
      rw[if_neg q12,if_neg q3',hfx]
      rfl
     rw[hres]
     simp only[QhU,YqB,z16,KHD,Xq6,if_true,if_false,↓reduceIte,Nat.reduceAdd,Nat.reduceSub,Nat.reduceLeDiff,Nat.reduceEqDiff,Nat.reduceMul,Nat.reduceLT,Int.reduceLT,Int.reduceLE,Int.reduceEq,CO.tmps,Opd.tmps,optT,Nat.reducePow,Nat.reduceDiv,Nat.reduceMod,qlG,f1,g,g',e1,ZxE,hgd,ovE,ZTW,Zz9,gx,hcf,f,a0,a1,w1,l1,lt,t2,c1,lk,lr0,lr1,hfd,Q7m,YXj,Option.map_some,Option.bind_some,List.drop_zero,if_true,oW hh hz,oD,ne_eq,forall_const]
     exact Bt.dropI _ hh rfl
    | none =>
     have hnd:x.dot∉(m.take i).map (·.1.dot):=fun z=>by
      obtain ⟨e',he',hd'⟩:=List.mem_map.1 z
      exact JQM.1 hfd e' he' hd'
     rw[if_neg hnd,List.nil_append]at hfx
     have hput:putM dotK (entE (m.take i)) (x.dot.1,x.dot.2) (.ag (evtF x))=entE (m.take (i+1)):=by
      unfold putM
      rw[hfd]
      show entE (m.take i)++[(x.dot,AV.ag (evtF x))]=_
      rw[List.take_succ_eq_append_getElem g,hmi]
      unfold entE
      rw[List.map_append]
      rfl
     simp only[QhU,YqB,z16,KHD,Xq6,if_true,if_false,↓reduceIte,Nat.reduceAdd,Nat.reduceSub,Nat.reduceLeDiff,Nat.reduceEqDiff,Nat.reduceMul,Nat.reduceLT,Int.reduceLT,Int.reduceLE,Int.reduceEq,CO.tmps,Opd.tmps,optT,Nat.reducePow,Nat.reduceDiv,Nat.reduceMod,qlG,KhU,f1,g,g',e1,ZxE,hgd,ovE,ZTW,Zz9,gx,hcf,f,a0,a1,w1,l1,lt,t2,c1,lk,mu,lr0,lr1,hfd,hput,Q7m,YXj,Option.map_some,Option.bind_some,List.drop_zero,if_true,oW hh hz,oD,ne_eq,forall_const]
     have bm:=qTb dotK (p:=h.length) (n:=1) (sel:=[0]) (m:=true) (l:=entE (m.take (i+1))) (zOT fun e he=>by
      obtain ⟨e',he',rfl⟩:=List.mem_map.1 he
      exact htk e' he')
     refine ⟨i+1,⟨g,by rw[hfx]⟩,by dsimp only;omega,?_⟩
     dsimp only
     exact Bt.sel [0] hh (by decide) (by simp only[KlC,FrSel,BlkSel,AV.ren,renL,AV.ok,okL,Option.some.injEq,exists_eq_left',List.length_cons,List.length_nil,Nat.reduceAdd,Nat.reduceLT,reduceCtorEq,implies_true,exists_eq',bm]) (by simp only[KlC,FrSel,BlkSel,AV.ren,renL,AV.ok,okL,Option.some.injEq,exists_eq_left',List.length_cons,List.length_nil,Nat.reduceAdd,Nat.reduceLT,reduceCtorEq,implies_true,exists_eq',so,sr])
   ·have g':((i:Int)<(m.length:Int))=False:=eq_false (by omega)
    have hA:chkA n m []=0:=by rw[<-h2,List.drop_eq_nil_of_le (by omega)];rfl
    have hMi:m.take i=m:=List.take_of_length_le (by omega)
    have hres0:chkB m->chkG m n=0:=fun hB=>by
     unfold chkG
     rw[if_neg q12,if_neg q3',hA,if_neg (not_not_intro rfl),if_pos hB]
    have hres1:¬chkB m->chkG m n=25:=fun hB=>by
     unfold chkG
     rw[if_neg q12,if_neg q3',hA,if_neg (not_not_intro rfl),if_neg hB]
    obtain ⟨hA1,_,hA3⟩:=Js7 hA
    simp only[QhU,YqB,z16,KHD,Xq6,if_true,if_false,↓reduceIte,Nat.reduceAdd,Nat.reduceSub,Nat.reduceLeDiff,Nat.reduceEqDiff,Nat.reduceMul,Nat.reduceLT,Int.reduceLT,Int.reduceLE,Int.reduceEq,CO.tmps,Opd.tmps,optT,Nat.reducePow,Nat.reduceDiv,Nat.reduceMod,f1,g',hMi,oW hh hz,oD,ne_eq,forall_const]
    have hok:okL (fun i=>decide (i<h.length)) (kvF dotK (entE m))=true:=zOT fun e he=>by
     obtain ⟨e',he',rfl⟩:=List.mem_map.1 he
     exact hs.o e' he'
    clear h1 h2 g g' hMi
    have key:∀(M:List ((Int×Int)×AV)) L,(h++(mpB dotK true M::L))[h.length+0]?=some (mpB dotK true M):=fun M L=>qu4 _ 0
    have lk:∀L z a b,lkV (h++(mpB dotK true (entE m)::L)) true [.i,.i] true z (.m (h.length+0)) (.ag [.i .i64 a,.i .i64 b])=some (lkR true z (fndM dotK (a,b) (entE m) 0)):=fun L z a b=>JMn dotK (key _ L) true z (a,b)
    have lr0:∀z,lkR true z none=.tu [z,.b false]:=fun _=>rfl
    have lr1:∀z j v,lkR true z (some (j,v))=.tu [v,.b true]:=fun _ _ _=>rfl
    refine q2X (S:=Nat) (fun i=>m.length-i) (fun i=>tp 5++[.m (h.length+0)]++tp 48++[s,.i .i64 (m.length:Int),.i .i64 (i:Int)]++tp 34) (fun i=>h++[mpB dotK true (entE m)]) (fun i=>i<=m.length/\∀e∈m.take i,∀j,Zqo m e j) 0 ⟨Nat.zero_le _,fun e he=>by simp at he⟩ ?_ fun i hi=>?_
    ·refine Bt.wk ?_
     simp only[z16,Xq6,if_true,if_false,reduceIte,Nat.reduceAdd,Nat.reduceSub,Nat.reduceLeDiff,Nat.reduceEqDiff,Nat.reduceMul,Nat.reduceLT,Int.reduceLT,Int.reduceLE,Int.reduceEq]
    obtain ⟨h1,h2⟩:=hi
    by_cases g:i<m.length
    ·have g':((i:Int)<(m.length:Int))=True:=eq_true (by omega)
     have e1:IntKind.i64.wrap ((i:Int)+1)=((i+1:Nat):Int):=ZWm (by have:=hs.s.2;unfold maxLen at this;unfold In64;omega)
     have hgd:(m.map (·.1)).getD i evR.d=m[i].1:=by rw[List.getD_eq_getElem?_getD,List.getElem?_map,List.getElem?_eq_getElem g];rfl
     have hin:m[i]∈m:=List.getElem_mem g
     have hd:=hs.d _ hin
     have hoe:=hs.o _ hin
     obtain ⟨e,hmi⟩:∃e,m[i]=e:=⟨_,rfl⟩
     rw[hmi]at hgd hd hin hoe
     obtain ⟨x,dl⟩:=e
     dsimp only at hgd hd hoe
     obtain ⟨a0,a1,a2,a3,a4,a5,a6⟩:=Zxc x
     have w1:=Q7m x
     have l1:=YXj x
     have c1:∀l:List AV,(AV.ag l).cells=l:=fun _=>rfl
     have od:x.deps.a.ok (fun i=>decide (i<h.length))=true:=zFH.1 hoe 2 _ a2
     have f2:=hd.fx od (sz:=1) rfl
     have soe:∀c,okL (fun i=>decide (i<h.length+c)) (evtF x)=true:=fun c=>KAd (fun i q=>by simp only[decide_eq_true_eq]at q ⊢;omega) _ hoe
     have sre:∀sel,WkL (renL (selN h.length sel) (evtF x)) (evtF x):=fun sel=>XAK hoe
     have sod:∀c,x.deps.a.ok (fun i=>decide (i<h.length+c))=true:=fun c=>AV.ok_mono (fun i q=>by simp only[decide_eq_true_eq]at q ⊢;omega) _ od
     have srd:∀sel,Wk (x.deps.a.ren (selN h.length sel)) x.deps.a:=fun sel=>Wk.ren (fun i hi=>ZiE hi) od
     simp only[QhU,YqB,z16,KHD,Xq6,if_true,if_false,↓reduceIte,Nat.reduceAdd,Nat.reduceSub,Nat.reduceLeDiff,Nat.reduceEqDiff,Nat.reduceMul,Nat.reduceLT,Int.reduceLT,Int.reduceLE,Int.reduceEq,CO.tmps,Opd.tmps,optT,Nat.reducePow,Nat.reduceDiv,Nat.reduceMod,f1,f2,g,g',ZxE,hgd,ovE,a2,w1,l1,c1,List.drop_zero,if_true,oW hh hz,oD,ne_eq,forall_const]
     refine q2X (S:=Nat) (fun j=>dl.length-j) (fun j=>tp 5++[.m (h.length+0)]++tp 6++[.p (h.length+1) 0]++tp 41++[s,.i .i64 (m.length:Int),.i .i64 (i:Int)]++tp 4++[x.deps.a,.i .i64 (dl.length:Int),.i .i64 (j:Int)]++tp 27) (fun j=>h++[mpB dotK true (entE m),.blk false true (evtF x)]) (fun j=>j<=dl.length/\∀k<j,Zqo m (x,dl) k) 0 ⟨Nat.zero_le _,fun k hk=>absurd hk (Nat.not_lt_zero _)⟩ ?_ fun j hj=>?_
     ·refine Bt.wk ?_
      simp only[z16,Xq6,if_true,if_false,reduceIte,Nat.reduceAdd,Nat.reduceSub,Nat.reduceLeDiff,Nat.reduceEqDiff,Nat.reduceMul,Nat.reduceLT,Int.reduceLT,Int.reduceLE,Int.reduceEq]
     obtain ⟨j1,j2⟩:=hj
     have bm:=fun n sel=>qTb dotK (p:=h.length) (n:=n) (sel:=sel) (m:=true) (l:=entE m) hok
     have bE:∀n sel,BWk (fun i=>decide (i<h.length+n)) (selN h.length sel) (.blk false true (evtF x)) (.blk false true (evtF x)):=fun n sel=>⟨_root_.id,soe n,sre sel⟩
     by_cases gj:j<dl.length
     ·have gj':((j:Int)<(dl.length:Int))=True:=eq_true (by omega)
      have ej:IntKind.i64.wrap ((j:Int)+1)=((j+1:Nat):Int):=ZWm (by have:=hd.2;unfold maxLen at this;unfold In64;omega)
      have hga:dl[j]?=some (dl.getD j intR.d):=by rw[List.getD_eq_getElem?_getD,List.getElem?_eq_getElem gj];rfl
      obtain ⟨a,ha⟩:∃a,dl.getD j intR.d=a:=⟨_,rfl⟩
      rw[ha]at hga
      rcases emG (a=0) with z|z
      ·simp only[QhU,YqB,z16,KHD,Xq6,if_true,if_false,↓reduceIte,Nat.reduceAdd,Nat.reduceSub,Nat.reduceLeDiff,Nat.reduceEqDiff,Nat.reduceMul,Nat.reduceLT,Int.reduceLT,Int.reduceLE,Int.reduceEq,CO.tmps,Opd.tmps,optT,Nat.reducePow,Nat.reduceDiv,Nat.reduceMod,f2,gj,gj',ej,ha,z,Zr0,Nat.zero_lt_one,oW hh hz,oD,ne_eq,forall_const]
       refine ⟨j+1,⟨gj,fun k hk=>?_⟩,by dsimp only;omega,?_⟩
       ·by_cases hkj:k=j
        ·subst hkj
         intro a' ha' hn
         rw[show (x,dl).2=dl from rfl,hga]at ha'
         cases ha'
         exact absurd (of_eq_true z) hn
        ·exact j2 k (by omega)
       ·dsimp only
        refine Bt.wk ?_
        simp only[z16,Xq6,if_true,if_false,reduceIte,Nat.reduceAdd,Nat.reduceSub,Nat.reduceLeDiff,Nat.reduceEqDiff,Nat.reduceMul,Nat.reduceLT,Int.reduceLT,Int.reduceLE,Int.reduceEq]
      ·cases hfd:fndM dotK (((j+1:Nat):Int),a) (entE m) 0 with
       | none =>
        have hB:¬chkB m:=fun hB=>by
         obtain ⟨o,ho',hod,_⟩:=hB _ hin j a hga (of_eq_false z)
         exact JQM.1 hfd o ho' hod
        rw[hres1 hB]
        simp only[QhU,YqB,z16,KHD,Xq6,if_true,if_false,↓reduceIte,Nat.reduceAdd,Nat.reduceSub,Nat.reduceLeDiff,Nat.reduceEqDiff,Nat.reduceMul,Nat.reduceLT,Int.reduceLT,Int.reduceLE,Int.reduceEq,CO.tmps,Opd.tmps,optT,Nat.reducePow,Nat.reduceDiv,Nat.reduceMod,qlG,f2,gj,gj',ej,ha,z,lk,hfd,lr0,lr1,Zr0,Nat.zero_lt_one,Option.map_some,oW hh hz,oD,ne_eq,forall_const]
        exact Bt.dropI _ hh rfl
       | some jv =>
        obtain ⟨jj,v⟩:=jv
        obtain ⟨o,ho',hod,rfl⟩:=QjS hfd
        have hdo:=hs.d o ho'
        have go:∀y,getS intR (h++y) o.1.deps.a=some o.2:=fun y=>(hdo.app y).get
        have gx:∀y,getS intR (h++y) x.deps.a=some dl:=fun y=>(hd.app y).get
        have b2:=(Zxc o.1).2.2.1
        have w2:=Q7m o.1
        have l2:=YXj o.1
        rcases emG (leqN o.2 dl (max o.2.length dl.length)=true) with t|t
        ·have t':leqN o.2 dl (max o.2.length dl.length)=true:=of_eq_true t
         simp only[QhU,YqB,z16,KHD,Xq6,if_true,if_false,↓reduceIte,Nat.reduceAdd,Nat.reduceSub,Nat.reduceLeDiff,Nat.reduceEqDiff,Nat.reduceMul,Nat.reduceLT,Int.reduceLT,Int.reduceLE,Int.reduceEq,CO.tmps,Opd.tmps,optT,Nat.reducePow,Nat.reduceDiv,Nat.reduceMod,qlG,zmF,f2,gj,gj',ej,ha,z,lk,hfd,lr0,lr1,ovE,a2,b2,w1,w2,l1,l2,c1,go,gx,t',XJx,Bool.not_true,Bool.not_false,Zr0,Nat.zero_lt_one,Option.map_some,Option.bind_some,oW hh hz,oD,ne_eq,forall_const]
         refine ⟨j+1,⟨gj,fun k hk=>?_⟩,by dsimp only;omega,?_⟩
         ·by_cases hkj:k=j
          ·subst hkj
           intro a' ha' hn
           rw[show (x,dl).2=dl from rfl,hga]at ha'
           cases ha'
           exact ⟨o,ho',hod,JFg.1 (of_eq_true t)⟩
          ·exact j2 k (by omega)
         ·dsimp only
          exact Bt.sel [0,1] hh (by decide) (by simp only[KlC,FrSel,BlkSel,AV.ren,renL,AV.ok,okL,Option.some.injEq,exists_eq_left',List.length_cons,List.length_nil,Nat.reduceAdd,Nat.reduceLT,reduceCtorEq,implies_true,exists_eq',bm,bE]) (by simp only[KlC,FrSel,BlkSel,AV.ren,renL,AV.ok,okL,Option.some.injEq,exists_eq_left',List.length_cons,List.length_nil,Nat.reduceAdd,Nat.reduceLT,reduceCtorEq,implies_true,exists_eq',so,sr,sod,srd])
        ·have hB:¬chkB m:=fun hB=>by
          obtain ⟨o',ho2,hod2,hle⟩:=hB _ hin j a hga (of_eq_false z)
          have q1:=QEz hA3 ho2
          have q2:=QEz hA3 ho'
          rw[hod2]at q1
          rw[hod,q1]at q2
          rw[q2]at hle
          exact of_eq_false t (JFg.2 hle)
         have t':leqN o.2 dl (max o.2.length dl.length)=false:=by simpa using of_eq_false t
         rw[hres1 hB]
         simp only[QhU,YqB,z16,KHD,Xq6,if_true,if_false,↓reduceIte,Nat.reduceAdd,Nat.reduceSub,Nat.reduceLeDiff,Nat.reduceEqDiff,Nat.reduceMul,Nat.reduceLT,Int.reduceLT,Int.reduceLE,Int.reduceEq,CO.tmps,Opd.tmps,optT,Nat.reducePow,Nat.reduceDiv,Nat.reduceMod,qlG,zmF,f2,gj,gj',ej,ha,z,lk,hfd,lr0,lr1,ovE,a2,b2,w1,w2,l1,l2,c1,go,gx,t',XJx,Bool.not_true,Bool.not_false,Zr0,Nat.zero_lt_one,Option.map_some,Option.bind_some,oW hh hz,oD,ne_eq,forall_const]
         exact Bt.dropI _ hh rfl
     ·have gj':((j:Int)<(dl.length:Int))=False:=eq_false (by omega)
      simp only[QhU,YqB,z16,KHD,Xq6,if_true,if_false,↓reduceIte,Nat.reduceAdd,Nat.reduceSub,Nat.reduceLeDiff,Nat.reduceEqDiff,Nat.reduceMul,Nat.reduceLT,Int.reduceLT,Int.reduceLE,Int.reduceEq,CO.tmps,Opd.tmps,optT,Nat.reducePow,Nat.reduceDiv,Nat.reduceMod,gj',e1,oW hh hz,oD,ne_eq,forall_const]
      refine ⟨i+1,⟨g,fun e he k=>?_⟩,by dsimp only;omega,?_⟩
      ·rw[List.take_succ_eq_append_getElem g,hmi]at he
       rcases List.mem_append.1 he with he|he
       ·exact h2 e he k
       ·rw[List.mem_singleton.1 he]
        by_cases hk:k<j
        ·exact j2 k hk
        ·intro a ha
         rw[List.getElem?_eq_none (show (x,dl).2.length<=k by dsimp only;omega)]at ha
         cases ha
      ·dsimp only
       exact Bt.sel [0] hh (by decide) (by simp only[KlC,FrSel,BlkSel,AV.ren,renL,AV.ok,okL,Option.some.injEq,exists_eq_left',List.length_cons,List.length_nil,Nat.reduceAdd,Nat.reduceLT,reduceCtorEq,implies_true,exists_eq',bm,bE]) (by simp only[KlC,FrSel,BlkSel,AV.ren,renL,AV.ok,okL,Option.some.injEq,exists_eq_left',List.length_cons,List.length_nil,Nat.reduceAdd,Nat.reduceLT,reduceCtorEq,implies_true,exists_eq',so,sr])
    ·have g':((i:Int)<(m.length:Int))=False:=eq_false (by omega)
     have hB:chkB m:=fun e he j=>h2 e (by rw[List.take_of_length_le (by omega)];exact he) j
     rw[hres0 hB]
     simp only[QhU,YqB,z16,KHD,Xq6,if_true,if_false,↓reduceIte,Nat.reduceAdd,Nat.reduceSub,Nat.reduceLeDiff,Nat.reduceEqDiff,Nat.reduceMul,Nat.reduceLT,Int.reduceLT,Int.reduceLE,Int.reduceEq,CO.tmps,Opd.tmps,optT,Nat.reducePow,Nat.reduceDiv,Nat.reduceMod,g',oW hh hz,oD,ne_eq,forall_const]
     exact Bt.dropI _ hh rfl
  ·cases e
 ·cases e
end
end Go.Proofs.YtebcngelgdpbjaaGreat
