/- Part 32 of what the laws' proofs rest on. No condition. -/
import Derived.Test.YtebcngelgdpbjaaGreatGq31
set_option linter.all false
namespace Go.Proofs.YtebcngelgdpbjaaGreat
section
set_option maxRecDepth 100000
set_option maxHeartbeats 8000000
theorem zVG:Spec Tryz.prog 67 Khb:=by
 intro args h v h' e
 unfold Khb at e
 split at e
 ·rename_i a n
  obtain ⟨x,hx,e2⟩:=Kc6 e
  clear e
  subst hx
  obtain ⟨l,hs,e3⟩:=zZy e2
  clear e2
  split at e3
  case isFalse=>cases e3
  rename_i hc
  rw[Option.some.injEq,Prod.mk.injEq]at e3
  obtain ⟨rfl,rfl⟩:=e3
  refine FnAt.c (FnAt.frz0 fun hz=>?_)
  have hs2:=hs.frz
  clear hs
  generalize h.map AB.freeze=h at *
  refine FnAt.run (by kernel_rfl) (T:=⟨[],[]⟩) ⟨trivial,trivial⟩ Tryz.func67 sw67 fun ho hh=>?_
  simp only[XDA,Bool.and_eq_true]at ho
  obtain ⟨a0,a1,a2,a3,a4,a5,a6⟩:=Zxc x
  have od:x.deps.a.ok (fun i=>decide (i<h.length))=true:=by
   have:=ho.1
   simp only[AV.ok]at this
   exact zFH.1 this 2 _ a2
  have oe:okL (fun i=>decide (i<h.length)) (evtF x)=true:=by
   have:=ho.1
   simpa only[AV.ok] using this
  have oe1:∀c,okL (fun i=>decide (i<h.length+c)) (evtF x)=true:=fun c=>KAd (fun i q=>by simp only[decide_eq_true_eq]at q ⊢;omega) _ oe
  have oe2:∀c lo hi anc past,okL (qOk (h.length+c) lo hi anc past) (evtF x)=true:=fun c lo hi anc past=>KAd (fun i q=>by simp only[decide_eq_true_eq]at q;simp only[qOk,Bool.or_eq_true,Nat.blt_eq];omega) _ oe
  have f1:=hs2.fx od (sz:=1) rfl
  have w1:=Q7m x
  have l1:=YXj x
  have c1:∀l:List AV,(AV.ag l).cells=l:=fun _=>rfl
  unfold w67
  rcases emG (x.dot.1<1) with q1|q1
  ·rw[decide_eq_false (fun z:Qs7 x l n=>by have:=z.1;have:=of_eq_true q1;omega)]
   simp only[QhU,YqB,z16,KHD,Xq6,simprocAttr,CO.tmps,Opd.tmps,optT,q1,oe1,oe2,a0,a1,a2,w1,l1,c1,f1,if_true,oD,ne_eq,forall_const]
   exact Bt.dropB _ hh rfl
  rcases emG (n<x.dot.1) with q2|q2
  ·rw[decide_eq_false (fun z:Qs7 x l n=>by have:=z.2.1;have:=of_eq_true q2;omega)]
   simp only[QhU,YqB,z16,KHD,Xq6,simprocAttr,CO.tmps,Opd.tmps,optT,q1,q2,oe1,oe2,a0,a1,a2,w1,l1,c1,f1,if_true,oD,ne_eq,forall_const]
   exact Bt.dropB _ hh rfl
  rcases emG (x.dot.2<1) with q3|q3
  ·rw[decide_eq_false (fun z:Qs7 x l n=>by have:=z.2.2.1;have:=of_eq_true q3;omega)]
   simp only[QhU,YqB,z16,KHD,Xq6,simprocAttr,CO.tmps,Opd.tmps,optT,q1,q2,q3,oe1,oe2,a0,a1,a2,w1,l1,c1,f1,if_true,oD,ne_eq,forall_const]
   exact Bt.dropB _ hh rfl
  rcases emG (1048576<x.dot.2) with q4|q4
  ·rw[decide_eq_false (fun z:Qs7 x l n=>by have:=z.2.2.2.1;have:=of_eq_true q4;omega)]
   simp only[QhU,YqB,z16,KHD,Xq6,simprocAttr,CO.tmps,Opd.tmps,optT,q1,q2,q3,q4,oe1,oe2,a0,a1,a2,w1,l1,c1,f1,if_true,oD,ne_eq,forall_const]
   exact Bt.dropB _ hh rfl
  rcases emG ((l.length:Int)=n) with q5|q5
  rotate_left
  ·rw[decide_eq_false (fun z:Qs7 x l n=>of_eq_false q5 z.2.2.2.2.1)]
   simp only[QhU,YqB,z16,KHD,Xq6,simprocAttr,CO.tmps,Opd.tmps,optT,q1,q2,q3,q4,q5,oe1,oe2,a0,a1,a2,w1,l1,c1,f1,if_true,oD,ne_eq,forall_const]
   exact Bt.dropB _ hh rfl
  have b1:=of_eq_false q1
  have b2:=of_eq_false q2
  have b3:=of_eq_false q3
  have b4:=of_eq_false q4
  have b5:=of_eq_true q5
  have e1:IntKind.i64.wrap (x.dot.1-1)=x.dot.1-1:=ZWm (by unfold In64;omega)
  have e2:IntKind.i64.wrap (x.dot.2-1)=x.dot.2-1:=ZWm (by unfold In64;omega)
  have e3:(0<=x.dot.1-1/\x.dot.1-1<(l.length:Int))=True:=eq_true (by omega)
  have e4:((x.dot.1-1).toNat<l.length)=True:=eq_true (by omega)
  have e5:intR.d=0:=rfl
  simp only[QhU,YqB,z16,KHD,Xq6,simprocAttr,CO.tmps,Opd.tmps,optT,q1,q2,q3,q4,q5,oe1,oe2,a0,a1,a2,w1,l1,c1,f1,if_true,oD,ne_eq,forall_const]
  refine q2X (S:=Nat) (fun i=>l.length-i) (fun i=>tp 1++[.i .i64 n,.p (h.length+0) 0]++tp 2++[.i .i64 (i:Int)]++tp 62) (fun _=>h++[.blk false true (evtF x)]) (fun i=>i<=l.length/\∀y∈l.take i,0<=y/\y<=1048576) 0 ⟨Nat.zero_le _,by simp⟩ ?_ fun i hi=>?_
  ·refine Bt.wk ?_
   simp only[z16,Xq6,simprocAttr]
  obtain ⟨hi,hok⟩:=hi
  by_cases g:i<l.length
  ·have g':((i:Int)<n)=True:=eq_true (by omega)
   have g2:=eq_true g
   have e6:IntKind.i64.wrap ((i:Int)+1)=((i+1:Nat):Int):=ZWm (by unfold In64;omega)
   have g3:((0:Int)<=(i:Int)/\(i:Int)<(l.length:Int))=True:=eq_true (by omega)
   obtain ⟨y,hy⟩:∃y,l.getD i intR.d=y:=⟨_,rfl⟩
   have hy2:l[i]=y:=by rw[<-hy,List.getD_eq_getElem?_getD,List.getElem?_eq_getElem g];rfl
   have hyl:y∈l:=by rw[<-hy2];exact List.getElem_mem g
   rcases emG (y<0) with q6|q6
   ·rw[decide_eq_false (fun z:Qs7 x l n=>by have:=(z.2.2.2.2.2.1 y hyl).1;have:=of_eq_true q6;omega)]
    simp only[QhU,YqB,z16,KHD,Xq6,simprocAttr,CO.tmps,Opd.tmps,optT,g',g2,g3,e6,hy,Zr0,q6,oe1,oe2,a0,a1,a2,w1,l1,c1,f1,Nat.zero_lt_one,if_true,oD,ne_eq,forall_const]
    exact Bt.dropB _ hh rfl
   rcases emG (1048576<y) with q7|q7
   ·rw[decide_eq_false (fun z:Qs7 x l n=>by have:=(z.2.2.2.2.2.1 y hyl).2;have:=of_eq_true q7;omega)]
    simp only[QhU,YqB,z16,KHD,Xq6,simprocAttr,CO.tmps,Opd.tmps,optT,g',g2,g3,e6,hy,Zr0,q6,q7,oe1,oe2,a0,a1,a2,w1,l1,c1,f1,Nat.zero_lt_one,if_true,oD,ne_eq,forall_const]
    exact Bt.dropB _ hh rfl
   ·simp only[QhU,YqB,z16,KHD,Xq6,simprocAttr,CO.tmps,Opd.tmps,optT,g',g2,g3,e6,hy,Zr0,q6,q7,oe1,oe2,a0,a1,a2,w1,l1,c1,f1,Nat.zero_lt_one,if_true,oD,ne_eq,forall_const]
    refine ⟨i+1,⟨g,fun z hz=>?_⟩,by dsimp only;omega,?_⟩
    ·rw[List.take_succ_eq_append_getElem g,hy2]at hz
     rcases List.mem_append.1 hz with hz|hz
     ·exact hok z hz
     ·rw[List.mem_singleton.1 hz]
      have:=of_eq_false q6
      have:=of_eq_false q7
      omega
    ·refine Bt.wk ?_
     simp only[z16,Xq6,simprocAttr]
  ·have g':((i:Int)<n)=False:=eq_false (by omega)
   rw[List.take_of_length_le (by omega)]at hok
   rcases emG (l.getD (x.dot.1-1).toNat 0=x.dot.2-1) with q7|q7
   ·rw[decide_eq_true (show Qs7 x l n from ⟨by omega,by omega,by omega,by omega,b5,hok,of_eq_true q7⟩)]
    simp only[QhU,YqB,z16,KHD,Xq6,simprocAttr,CO.tmps,Opd.tmps,optT,g',e1,e2,e3,e4,e5,q7,Zr0,oe1,oe2,a0,a1,a2,w1,l1,c1,f1,oW hh hz,Nat.zero_lt_one,if_true,oD,ne_eq,forall_const]
    exact Bt.dropB _ hh rfl
   ·rw[decide_eq_false (fun z:Qs7 x l n=>of_eq_false q7 z.2.2.2.2.2.2)]
    simp only[QhU,YqB,z16,KHD,Xq6,simprocAttr,CO.tmps,Opd.tmps,optT,g',e1,e2,e3,e4,e5,q7,Zr0,oe1,oe2,a0,a1,a2,w1,l1,c1,f1,oW hh hz,Nat.zero_lt_one,if_true,oD,ne_eq,forall_const]
    exact Bt.dropB _ hh rfl
 ·cases e
theorem ZVF (x:EvtA) (l:List Int) (n:Int):fitE x l n=if ¬Qs7 x l n then 2 else if x.kind<1\/4<x.kind then 5 else if ¬K4G x.repo\/(zXI x/\¬KAc x.tag) then 7 else 0:=by
 by_cases hP:Qs7 x l n
 ·obtain ⟨p1,p2,p3,p4,p5,p6,p7⟩:=id hP
  rw[if_neg (not_not_intro hP)]
  unfold fitE
  rw[if_neg (by omega),if_neg (by omega),if_neg (by omega),if_neg (by omega),if_neg (not_not_intro p5),if_neg ?_,if_neg (not_not_intro p7)]
  rintro ⟨y,hy,ho⟩
  have:=p6 y hy
  unfold oddI at ho
  omega
 ·rw[if_pos hP]
  unfold fitE
  by_cases c1:x.dot.1<1
  ·rw[if_pos c1]
  rw[if_neg c1]
  by_cases c2:n<x.dot.1
  ·rw[if_pos c2]
  rw[if_neg c2]
  by_cases c3:x.dot.2<1
  ·rw[if_pos c3]
  rw[if_neg c3]
  by_cases c4:1048576<x.dot.2
  ·rw[if_pos c4]
  rw[if_neg c4]
  by_cases c5:(l.length:Int)=n
  ·rw[if_neg (not_not_intro c5)]
   by_cases c6:∃y∈l,oddI y
   ·rw[if_pos c6]
   ·rw[if_neg c6,if_pos]
    intro c7
    refine hP ⟨by omega,by omega,by omega,by omega,c5,fun y hy=>?_,c7⟩
    have:¬oddI y:=fun z=>c6 ⟨y,hy,z⟩
    unfold oddI at this
    omega
  ·rw[if_pos c5]
end
section
set_option maxRecDepth 100000
set_option maxHeartbeats 8000000
theorem qI6 (s:List UInt8):∃e p:Int,KRN s=.ag [.i .i64 e,.i .i64 p]/\(e=0↔K4G s):=by
 by_cases hk:K4G s
 ·refine ⟨0,0,?_,fun _=>hk,fun _=>rfl⟩
  unfold KRN
  rw[if_neg hk.1,hk.2]
  rfl
 ·unfold KRN
  by_cases g:(128:Int)<(s.length:Int)
  ·rw[if_pos g]
   exact ⟨4,128,rfl,fun z=>absurd z (by decide),fun z=>absurd z hk⟩
  ·rw[if_neg g]
   cases hr:runB KGW zcI s 0 ⟨7,.w⟩ with
   | none=>exact absurd ⟨g,hr⟩ hk
   | some n=>exact ⟨7,n,rfl,fun z=>absurd z (by decide),fun z=>absurd z hk⟩
theorem zrj (s:List UInt8):∃e p:Int,tagV s=.ag [.i .i64 e,.i .i64 p]/\(e=0↔KAc s):=by
 by_cases hk:KAc s
 ·refine ⟨0,0,?_,fun _=>hk,fun _=>rfl⟩
  unfold tagV
  rw[if_neg hk.1,hk.2]
  rfl
 ·unfold tagV
  by_cases g:(64:Int)<(s.length:Int)
  ·rw[if_pos g]
   exact ⟨4,64,rfl,fun z=>absurd z (by decide),fun z=>absurd z hk⟩
  ·rw[if_neg g]
   cases hr:runB zdl z0i s 0 .first with
   | none=>exact absurd ⟨g,hr⟩ hk
   | some n=>exact ⟨7,n,rfl,fun z=>absurd z (by decide),fun z=>absurd z hk⟩
theorem Q7n (l m:List Int):leqN l m l.length=true↔∀r:Int,atV l r<=atV m r:=by
 unfold leqN
 rw[decide_eq_true_eq]
 refine ⟨fun q r=>?_,fun q k _=>q _⟩
 by_cases hr:1<=r/\r<=(l.length:Int)
 ·have:=q (r-1).toNat (by omega)
  rw[show (((r-1).toNat:Nat):Int)+1=r by omega]at this
  exact this
 ·have:atV l r=0:=by unfold atV;rw[if_pos (by omega)]
  rw[this]
  exact QPS m r
theorem qEw {all:List EvD} (hn:(all.map (·.1.dot)).Nodup) (d:Int×Int) (l:List Int):YB2 all d l=true↔∃o∈all,o.1.dot=d/\∀r,atV o.2 r<=atV l r:=by
 unfold YB2
 cases hf:all.find? fun e=>decide (e.1.dot=d) with
 | none =>
  refine ⟨fun z=>(by cases z),fun ⟨o,ho,hd,_⟩=>?_⟩
  have:=List.find?_eq_none.1 hf o ho
  simp [hd]at this
 | some e =>
  have he:=List.mem_of_find?_eq_some hf
  have hed:e.1.dot=d:=by simpa using List.find?_some hf
  refine ⟨fun z=>⟨e,he,hed,(Q7n _ _).1 z⟩,fun ⟨o,ho,hd,hl⟩=>(Q7n _ _).2 ?_⟩
  have h1:=QEz hn he
  have h2:=QEz hn ho
  rw[hed]at h1
  rw[hd,h1]at h2
  rw[h2]
  exact hl
noncomputable def QmY:List AV->List AB->Option (AV×List AB)
 | [s,.i .i64 n],h=>(YgZ h s).bind fun m=>if (∀e∈m,e.1.repo.length<=1000000/\e.1.tag.length<=1000000)/\s.capOk=true/\m.length<=1000000 then some (.i .i64 (chkG m n),h) else none
 | _,_=>none
theorem QBz:Spec Tryz.prog 17 QmY:=by
 intro args h v h' e
 unfold QmY at e
 split at e
 ·rename_i s n
  obtain ⟨m,hs,e⟩:=KdM e
  split at e
  case isFalse=>cases e
  rename_i hcc
  obtain ⟨hc,hcap,hml⟩:=hcc
  cases e
  refine FnAt.c (FnAt.frz0 fun hz=>?_)
  have hs:=hs.frz
  generalize h.map AB.freeze=h at *
  refine FnAt.run (by kernel_rfl) (T:=⟨[⟨65,Yja,fun _=>[]⟩,⟨66,qGK,fun _=>[]⟩,⟨67,Khb,fun _=>[]⟩,⟨68,QeF,fun _=>[]⟩,⟨69,zQi,fun _=>[]⟩,⟨70,QSt,fun _=>[]⟩],[]⟩) ⟨⟨QOi,Ya8,zVG,qPY,Xbe,XJX,trivial⟩,trivial⟩ Tryz.func17 sw17 fun ho hh=>?_
  simp only[XDA,Bool.and_eq_true]at ho
  have f1:=hs.s.fx ho.1 (sz:=39) rfl
  have hlm:(m.map (·.1)).length=m.length:=List.length_map _
  rw[hlm]at f1
  have so:∀c,s.ok (fun i=>decide (i<h.length+c))=true:=fun c=>AV.ok_mono (fun i q=>by simp only[decide_eq_true_eq]at q ⊢;omega) s ho.1
  have sr:∀sel,Wk (s.ren (selN h.length sel)) s:=fun sel=>Wk.ren (fun i hi=>ZiE hi) ho.1
  unfold w17
  rcases emG (n<1) with q1|q1
  ·have hg:chkG m n=3:=if_pos (.inl (of_eq_true q1))
   rw[hg]
   simp only[QhU,YqB,z16,KHD,Xq6,if_true,if_false,↓reduceIte,Nat.reduceAdd,Nat.reduceSub,Nat.reduceLeDiff,Nat.reduceEqDiff,Nat.reduceMul,Nat.reduceLT,Int.reduceLT,Int.reduceLE,Int.reduceEq,CO.tmps,Opd.tmps,optT,Nat.reducePow,Nat.reduceDiv,Nat.reduceMod,q1,oD,ne_eq,forall_const]
   exact Bt.dropI _ hh rfl
  rcases emG (16<n) with q2|q2
  ·have hg:chkG m n=3:=if_pos (.inr (of_eq_true q2))
   rw[hg]
   simp only[QhU,YqB,z16,KHD,Xq6,if_true,if_false,↓reduceIte,Nat.reduceAdd,Nat.reduceSub,Nat.reduceLeDiff,Nat.reduceEqDiff,Nat.reduceMul,Nat.reduceLT,Int.reduceLT,Int.reduceLE,Int.reduceEq,CO.tmps,Opd.tmps,optT,Nat.reducePow,Nat.reduceDiv,Nat.reduceMod,q1,q2,oD,ne_eq,forall_const]
   exact Bt.dropI _ hh rfl
  have q12:¬(n<1\/16<n):=fun z=>z.elim (of_eq_false q1) (of_eq_false q2)
  rcases emG ((4096:Int)<(m.length:Int)) with q3|q3
  ·have hg:chkG m n=4:=by
    unfold chkG
    rw[if_neg q12,if_pos (by have:=of_eq_true q3;omega)]
   rw[hg]
   simp only[QhU,YqB,z16,KHD,Xq6,if_true,if_false,↓reduceIte,Nat.reduceAdd,Nat.reduceSub,Nat.reduceLeDiff,Nat.reduceEqDiff,Nat.reduceMul,Nat.reduceLT,Int.reduceLT,Int.reduceLE,Int.reduceEq,CO.tmps,Opd.tmps,optT,Nat.reducePow,Nat.reduceDiv,Nat.reduceMod,q1,q2,q3,f1,oD,ne_eq,forall_const]
   exact Bt.dropI _ hh rfl
  have q3':¬4096<m.length:=fun z=>of_eq_false q3 (by omega)
  simp only[QhU,YqB,z16,KHD,Xq6,if_true,if_false,↓reduceIte,Nat.reduceAdd,Nat.reduceSub,Nat.reduceLeDiff,Nat.reduceEqDiff,Nat.reduceMul,Nat.reduceLT,Int.reduceLT,Int.reduceLE,Int.reduceEq,CO.tmps,Opd.tmps,optT,Nat.reducePow,Nat.reduceDiv,Nat.reduceMod,q1,q2,q3,f1,oD,ne_eq,forall_const]
  refine q2X (S:=Nat) (fun i=>m.length-i) (fun i=>[s,.i .i64 n]++tp 3++[.i .i64 (i:Int)]++tp 103) (fun _=>h++[]) (fun i=>i<=m.length/\chkA n (m.drop i) ((m.take i).map (·.1.dot))=chkA n m []) 0 ⟨Nat.zero_le _,rfl⟩ ?_ fun i hi=>?_
  ·refine Bt.wk ?_
   simp only[z16,Xq6,if_true,if_false,reduceIte,Nat.reduceAdd,Nat.reduceSub,Nat.reduceLeDiff,Nat.reduceEqDiff,Nat.reduceMul,Nat.reduceLT,Int.reduceLT,Int.reduceLE,Int.reduceEq]
  obtain ⟨h1,h2⟩:=hi
  by_cases g:i<m.length
  ·have g':((i:Int)<(m.length:Int))=True:=eq_true (by omega)
   have e1:IntKind.i64.wrap ((i:Int)+1)=((i+1:Nat):Int):=ZWm (by unfold In64;omega)
   have hgd:(m.map (·.1)).getD i evR.d=m[i].1:=by rw[List.getD_eq_getElem?_getD,List.getElem?_map,List.getElem?_eq_getElem g];rfl
   have hin:m[i]∈m:=List.getElem_mem g
   have hd:=hs.d _ hin
   have hce:=hc _ hin
   have hoe:=hs.o _ hin
   have hfx:=z8R n m [] i g
   obtain ⟨t,ht1,ht2,ht3⟩:=hs.s.pre hcap (i:=i) (by rw[hlm];exact h1)
   have htl:((m.map (·.1)).take i).map (·.dot)=(m.take i).map (·.1.dot):=by
    rw[<-List.map_take,List.map_map]
    rfl
   obtain ⟨e,hmi⟩:∃e,m[i]=e:=⟨_,rfl⟩
   rw[hmi]at hgd hd hce hfx hin hoe
   obtain ⟨x,dl⟩:=e
   dsimp only at hgd hd hce hfx hoe
   rw[List.nil_append,h2]at hfx
   obtain ⟨a0,a1,a2,a3,a4,a5,a6⟩:=Zxc x
   have w1:=Q7m x
   have l1:=YXj x
   have lt:(evtF x).take 39=evtF x:=List.take_of_length_le (by rw[l1];exact Nat.le_refl _)
   have t2:(evtF x).take 2=[.i .i64 x.dot.1,.i .i64 x.dot.2]:=rfl
   have c1:∀l:List AV,(AV.ag l).cells=l:=fun _=>rfl
   have gx:∀y,getS intR (h++y) x.deps.a=some dl:=fun y=>(hd.app y).get
   have gt:∀y,getS evR (h++y) t=some ((m.map (·.1)).take i):=fun y=>(ht2.app y).get
   have oe1:∀c,okL (fun i=>decide (i<h.length+c)) (evtF x)=true:=fun c=>KAd (fun i q=>by simp only[decide_eq_true_eq]at q ⊢;omega) _ hoe
   have oe2:∀c lo hi anc past,okL (qOk (h.length+c) lo hi anc past) (evtF x)=true:=fun c lo hi anc past=>KAd (fun i q=>by simp only[decide_eq_true_eq]at q;simp only[qOk,Bool.or_eq_true,Nat.blt_eq];omega) _ hoe
   have ot1:∀c,t.ok (fun i=>decide (i<h.length+c))=true:=fun c=>ht3 _ (so c)
   have ot2:∀c lo hi anc past,t.ok (qOk (h.length+c) lo hi anc past)=true:=fun c lo hi anc past=>ht3 _ (AV.ok_mono (fun i q=>YO3 (by have:=of_decide_eq_true q;omega)) s ho.1)
   obtain ⟨re,rp,r1,r2⟩:=qI6 x.repo
   obtain ⟨te,tq,t1,t3⟩:=zrj x.tag
   have cr:=eq_true hce.1
   have ct:=eq_true hce.2
   have n1000:(n<=1000)=True:=eq_true (by have:=of_eq_false q2;omega)
   have g2:=eq_true g
   have hfe:=ZVF x dl n
   have hres:fitE x dl n≠0->chkG m n=fitE x dl n:=fun hne=>by
    rw[if_pos hne]at hfx
    unfold chkG
    rw[if_neg q12,if_neg q3',hfx,if_pos hne]
   rcases emG (Qs7 x dl n) with p1|p1
   rotate_left
   ·have hv:fitE x dl n=2:=by rw[hfe,if_pos (of_eq_false p1)]
    rw[hres (by rw[hv];decide),hv]
    simp only[QhU,YqB,z16,KHD,Xq6,if_true,if_false,↓reduceIte,Nat.reduceAdd,Nat.reduceSub,Nat.reduceLeDiff,Nat.reduceEqDiff,Nat.reduceMul,Nat.reduceLT,Int.reduceLT,Int.reduceLE,Int.reduceEq,CO.tmps,Opd.tmps,optT,Nat.reducePow,Nat.reduceDiv,Nat.reduceMod,f1,g,g',e1,ZxE,hgd,ovE,Yja,qGK,Khb,Zz9,gx,cr,ct,r1,t1,n1000,p1,oe1,oe2,a0,a1,a3,a4,a5,w1,l1,lt,t2,c1,Option.bind_some,Option.map_some,List.drop_zero,if_true,oW hh hz,oD,ne_eq,forall_const]
    exact Bt.dropI _ hh rfl
   have p1':=not_not_intro (of_eq_true p1)
   rcases emG (x.kind<1) with k1|k1
   ·have hv:fitE x dl n=5:=by rw[hfe,if_neg p1',if_pos (.inl (of_eq_true k1))]
    rw[hres (by rw[hv];decide),hv]
    simp only[QhU,YqB,z16,KHD,Xq6,if_true,if_false,↓reduceIte,Nat.reduceAdd,Nat.reduceSub,Nat.reduceLeDiff,Nat.reduceEqDiff,Nat.reduceMul,Nat.reduceLT,Int.reduceLT,Int.reduceLE,Int.reduceEq,CO.tmps,Opd.tmps,optT,Nat.reducePow,Nat.reduceDiv,Nat.reduceMod,f1,g,g',e1,ZxE,hgd,ovE,Yja,qGK,Khb,QeF,zQi,Zz9,gx,gt,ht1,cr,ct,r1,t1,n1000,p1,k1,oe1,oe2,ot1,ot2,a0,a1,a3,a4,a5,w1,l1,lt,t2,c1,Option.bind_some,Option.map_some,List.drop_zero,if_true,oW hh hz,oD,ne_eq,forall_const]
    exact Bt.dropI _ hh rfl
   rcases emG (4<x.kind) with k2|k2
   ·have hv:fitE x dl n=5:=by rw[hfe,if_neg p1',if_pos (.inr (of_eq_true k2))]
    rw[hres (by rw[hv];decide),hv]
    simp only[QhU,YqB,z16,KHD,Xq6,if_true,if_false,↓reduceIte,Nat.reduceAdd,Nat.reduceSub,Nat.reduceLeDiff,Nat.reduceEqDiff,Nat.reduceMul,Nat.reduceLT,Int.reduceLT,Int.reduceLE,Int.reduceEq,CO.tmps,Opd.tmps,optT,Nat.reducePow,Nat.reduceDiv,Nat.reduceMod,f1,g,g',e1,ZxE,hgd,ovE,Yja,qGK,Khb,QeF,zQi,Zz9,gx,gt,ht1,cr,ct,r1,t1,n1000,p1,k1,k2,oe1,oe2,ot1,ot2,a0,a1,a3,a4,a5,w1,l1,lt,t2,c1,Option.bind_some,Option.map_some,List.drop_zero,if_true,oW hh hz,oD,ne_eq,forall_const]
    exact Bt.dropI _ hh rfl
   have k12:¬(x.kind<1\/4<x.kind):=fun z=>z.elim (of_eq_false k1) (of_eq_false k2)
   rcases emG (re=0) with y1|y1
   rotate_left
   ·have hv:fitE x dl n=7:=by rw[hfe,if_neg p1',if_neg k12,if_pos (.inl fun z=>of_eq_false y1 (r2.2 z))]
    rw[hres (by rw[hv];decide),hv]
    simp only[QhU,YqB,z16,KHD,Xq6,if_true,if_false,↓reduceIte,Nat.reduceAdd,Nat.reduceSub,Nat.reduceLeDiff,Nat.reduceEqDiff,Nat.reduceMul,Nat.reduceLT,Int.reduceLT,Int.reduceLE,Int.reduceEq,CO.tmps,Opd.tmps,optT,Nat.reducePow,Nat.reduceDiv,Nat.reduceMod,f1,g,g',e1,ZxE,hgd,ovE,Yja,qGK,Khb,QeF,zQi,Zz9,gx,gt,ht1,cr,ct,r1,t1,n1000,p1,k1,k2,y1,oe1,oe2,ot1,ot2,a0,a1,a3,a4,a5,w1,l1,lt,t2,c1,Option.bind_some,Option.map_some,List.drop_zero,if_true,oW hh hz,oD,ne_eq,forall_const]
    exact Bt.dropI _ hh rfl
   have okr:=r2.1 (of_eq_true y1)
   have tail:fitE x dl n=0->(x.dot∉(m.take i).map (·.1.dot)->chkA n (m.drop (i+1)) ((m.take (i+1)).map (·.1.dot))=chkA n m [])/\(x.dot∈(m.take i).map (·.1.dot)->chkG m n=19):=fun h0=>by
    rw[if_neg (not_not_intro h0)]at hfx
    refine ⟨fun z=>?_,fun z=>?_⟩
    ·rw[if_neg z,List.nil_append]at hfx
     exact hfx.symm
    ·rw[if_pos z]at hfx
     unfold chkG
     rw[if_neg q12,if_neg q3',hfx]
     rfl
   rcases emG (zXI x) with g5|g5
   ·rcases emG (te=0) with y2|y2
    rotate_left
    ·have hv:fitE x dl n=7:=by rw[hfe,if_neg p1',if_neg k12,if_pos (.inr ⟨of_eq_true g5,fun z=>of_eq_false y2 (t3.2 z)⟩)]
     rw[hres (by rw[hv];decide),hv]
     simp only[QhU,YqB,z16,KHD,Xq6,if_true,if_false,↓reduceIte,Nat.reduceAdd,Nat.reduceSub,Nat.reduceLeDiff,Nat.reduceEqDiff,Nat.reduceMul,Nat.reduceLT,Int.reduceLT,Int.reduceLE,Int.reduceEq,CO.tmps,Opd.tmps,optT,Nat.reducePow,Nat.reduceDiv,Nat.reduceMod,f1,g,g',e1,ZxE,hgd,ovE,Yja,qGK,Khb,QeF,zQi,Zz9,gx,gt,ht1,cr,ct,r1,t1,n1000,p1,k1,k2,y1,g5,y2,oe1,oe2,ot1,ot2,a0,a1,a3,a4,a5,w1,l1,lt,t2,c1,Option.bind_some,Option.map_some,List.drop_zero,if_true,oW hh hz,oD,ne_eq,forall_const]
     exact Bt.dropI _ hh rfl
    have hv:fitE x dl n=0:=by rw[hfe,if_neg p1',if_neg k12,if_neg (fun z=>z.elim (fun z=>z okr) fun z=>z.2 (t3.1 (of_eq_true y2)))]
    obtain ⟨u1,u2⟩:=tail hv
    rcases emG ((x.dot.1,x.dot.2)∈(m.take i).map (·.1.dot)) with u|u
    ·rw[u2 (of_eq_true u)]
     simp only[QhU,YqB,z16,KHD,Xq6,if_true,if_false,↓reduceIte,Nat.reduceAdd,Nat.reduceSub,Nat.reduceLeDiff,Nat.reduceEqDiff,Nat.reduceMul,Nat.reduceLT,Int.reduceLT,Int.reduceLE,Int.reduceEq,CO.tmps,Opd.tmps,optT,Nat.reducePow,Nat.reduceDiv,Nat.reduceMod,f1,g,g',e1,ZxE,hgd,ovE,Yja,qGK,Khb,QeF,zQi,Zz9,gx,gt,ht1,cr,ct,r1,t1,n1000,p1,k1,k2,y1,g5,y2,htl,u,oe1,oe2,ot1,ot2,a0,a1,a3,a4,a5,w1,l1,lt,t2,c1,Option.bind_some,Option.map_some,List.drop_zero,if_true,oW hh hz,oD,ne_eq,forall_const]
     exact Bt.dropI _ hh rfl
    ·simp only[QhU,YqB,z16,KHD,Xq6,if_true,if_false,↓reduceIte,Nat.reduceAdd,Nat.reduceSub,Nat.reduceLeDiff,Nat.reduceEqDiff,Nat.reduceMul,Nat.reduceLT,Int.reduceLT,Int.reduceLE,Int.reduceEq,CO.tmps,Opd.tmps,optT,Nat.reducePow,Nat.reduceDiv,Nat.reduceMod,f1,g,g',e1,ZxE,hgd,ovE,Yja,qGK,Khb,QeF,zQi,Zz9,gx,gt,ht1,cr,ct,r1,t1,n1000,p1,k1,k2,y1,g5,y2,htl,u,oe1,oe2,ot1,ot2,a0,a1,a3,a4,a5,w1,l1,lt,t2,c1,Option.bind_some,Option.map_some,List.drop_zero,if_true,oW hh hz,oD,ne_eq,forall_const]
     refine ⟨i+1,⟨g,u1 (of_eq_false u)⟩,by dsimp only;omega,?_⟩
     exact Bt.sel [] hh (by decide) (by simp only[KlC,FrSel,BlkSel,AV.ren,renL,AV.ok,okL,Option.some.injEq,exists_eq_left',List.length_cons,List.length_nil,Nat.reduceAdd,Nat.reduceLT,reduceCtorEq,implies_true,exists_eq']) (by simp only[KlC,FrSel,BlkSel,AV.ren,renL,AV.ok,okL,Option.some.injEq,exists_eq_left',List.length_cons,List.length_nil,Nat.reduceAdd,Nat.reduceLT,reduceCtorEq,implies_true,exists_eq',ho.1,so,sr])
   ·have hv:fitE x dl n=0:=by rw[hfe,if_neg p1',if_neg k12,if_neg (fun z=>z.elim (fun z=>z okr) fun z=>of_eq_false g5 z.1)]
    obtain ⟨u1,u2⟩:=tail hv
    rcases emG ((x.dot.1,x.dot.2)∈(m.take i).map (·.1.dot)) with u|u
    ·rw[u2 (of_eq_true u)]
     simp only[QhU,YqB,z16,KHD,Xq6,if_true,if_false,↓reduceIte,Nat.reduceAdd,Nat.reduceSub,Nat.reduceLeDiff,Nat.reduceEqDiff,Nat.reduceMul,Nat.reduceLT,Int.reduceLT,Int.reduceLE,Int.reduceEq,CO.tmps,Opd.tmps,optT,Nat.reducePow,Nat.reduceDiv,Nat.reduceMod,f1,g,g',e1,ZxE,hgd,ovE,Yja,qGK,Khb,QeF,zQi,Zz9,gx,gt,ht1,cr,ct,r1,t1,n1000,p1,k1,k2,y1,g5,htl,u,oe1,oe2,ot1,ot2,a0,a1,a3,a4,a5,w1,l1,lt,t2,c1,Option.bind_some,Option.map_some,List.drop_zero,if_true,oW hh hz,oD,ne_eq,forall_const]
     exact Bt.dropI _ hh rfl
    ·simp only[QhU,YqB,z16,KHD,Xq6,if_true,if_false,↓reduceIte,Nat.reduceAdd,Nat.reduceSub,Nat.reduceLeDiff,Nat.reduceEqDiff,Nat.reduceMul,Nat.reduceLT,Int.reduceLT,Int.reduceLE,Int.reduceEq,CO.tmps,Opd.tmps,optT,Nat.reducePow,Nat.reduceDiv,Nat.reduceMod,f1,g,g',e1,ZxE,hgd,ovE,Yja,qGK,Khb,QeF,zQi,Zz9,gx,gt,ht1,cr,ct,r1,t1,n1000,p1,k1,k2,y1,g5,htl,u,oe1,oe2,ot1,ot2,a0,a1,a3,a4,a5,w1,l1,lt,t2,c1,Option.bind_some,Option.map_some,List.drop_zero,if_true,oW hh hz,oD,ne_eq,forall_const]
     refine ⟨i+1,⟨g,u1 (of_eq_false u)⟩,by dsimp only;omega,?_⟩
     exact Bt.sel [] hh (by decide) (by simp only[KlC,FrSel,BlkSel,AV.ren,renL,AV.ok,okL,Option.some.injEq,exists_eq_left',List.length_cons,List.length_nil,Nat.reduceAdd,Nat.reduceLT,reduceCtorEq,implies_true,exists_eq']) (by simp only[KlC,FrSel,BlkSel,AV.ren,renL,AV.ok,okL,Option.some.injEq,exists_eq_left',List.length_cons,List.length_nil,Nat.reduceAdd,Nat.reduceLT,reduceCtorEq,implies_true,exists_eq',ho.1,so,sr])
  ·have g':((i:Int)<(m.length:Int))=False:=eq_false (by omega)
   have hA:chkA n m []=0:=by rw[<-h2,List.drop_eq_nil_of_le (by omega)];rfl
   have hres0:chkB m->chkG m n=0:=fun hB=>by
    unfold chkG
    rw[if_neg q12,if_neg q3',hA,if_neg (not_not_intro rfl),if_pos hB]
   have hres1:¬chkB m->chkG m n=25:=fun hB=>by
    unfold chkG
    rw[if_neg q12,if_neg q3',hA,if_neg (not_not_intro rfl),if_neg hB]
   obtain ⟨hA1,_,hA3⟩:=Js7 hA
   simp only[QhU,YqB,z16,KHD,Xq6,if_true,if_false,↓reduceIte,Nat.reduceAdd,Nat.reduceSub,Nat.reduceLeDiff,Nat.reduceEqDiff,Nat.reduceMul,Nat.reduceLT,Int.reduceLT,Int.reduceLE,Int.reduceEq,CO.tmps,Opd.tmps,optT,Nat.reducePow,Nat.reduceDiv,Nat.reduceMod,f1,g',oW hh hz,oD,ne_eq,forall_const]
   clear h1 h2 g g'
   refine q2X (S:=Nat) (fun i=>m.length-i) (fun i=>[s,.i .i64 n]++tp 7++[.i .i64 (i:Int)]++tp 99) (fun _=>h++[]) (fun i=>i<=m.length/\∀e∈m.take i,∀j,Zqo m e j) 0 ⟨Nat.zero_le _,fun e he=>by simp at he⟩ ?_ fun i hi=>?_
   ·refine Bt.wk ?_
    simp only[z16,Xq6,if_true,if_false,reduceIte,Nat.reduceAdd,Nat.reduceSub,Nat.reduceLeDiff,Nat.reduceEqDiff,Nat.reduceMul,Nat.reduceLT,Int.reduceLT,Int.reduceLE,Int.reduceEq]
   obtain ⟨h1,h2⟩:=hi
   by_cases g:i<m.length
   ·have gi:((i:Int)<(m.length:Int))=True:=eq_true (by omega)
    have gi2:=eq_true g
    have gz:((0:Int)<=(i:Int)/\(i:Int)<(m.length:Int))=True:=eq_true (by omega)
    have ei:IntKind.i64.wrap ((i:Int)+1)=((i+1:Nat):Int):=ZWm (by unfold In64;omega)
    have hgd:(m.map (·.1)).getD i evR.d=m[i].1:=by rw[List.getD_eq_getElem?_getD,List.getElem?_map,List.getElem?_eq_getElem g];rfl
    have hin:m[i]∈m:=List.getElem_mem g
    have hmi2:m.take (i+1)=m.take i++[m[i]]:=List.take_succ_eq_append_getElem g
    obtain ⟨e,hmi⟩:∃e,m[i]=e:=⟨_,rfl⟩
    rw[hmi]at hgd hin hmi2
    have hd:=hs.d _ hin
    have hoe:=hs.o _ hin
    have fP:=YRV (hA1 e hin)
    have oed:e.1.deps.a.ok (fun i=>decide (i<h.length))=true:=by
     rw[zNY,Bool.and_eq_true]at hoe
     exact hoe.1
    have fd:=hd.fx oed (sz:=1) rfl
    have h2e:(evR.f ((m.map (·.1)).getD i evR.d))[2]?=some e.1.deps.a:=by rw[hgd];rfl
    have gs:∀L,YgZ (h++L) s=some m:=fun L=>(hs.app L).get
    have gl:∀L,getS intR (h++L) e.1.deps.a=some e.2:=fun L=>(hd.app L).get
    have hlen:=eq_true (p:=∀e∈m,e.2.length<=1000000) fun e he=>by have:=(YRV (hA1 e he)).2.2.2.2.1;omega
    simp only[QhU,YqB,z16,KHD,Xq6,if_true,if_false,↓reduceIte,Nat.reduceAdd,Nat.reduceSub,Nat.reduceLeDiff,Nat.reduceEqDiff,Nat.reduceMul,Nat.reduceLT,Int.reduceLT,Int.reduceLE,Int.reduceEq,CO.tmps,Opd.tmps,optT,Nat.reducePow,Nat.reduceDiv,Nat.reduceMod,f1,gi,oD,ne_eq,forall_const]
    refine q2X (S:=Nat) (fun r=>e.2.length-r) (fun r=>[s,.i .i64 n]++tp 7++[.i .i64 (i:Int),.i .i64 ((r+1:Nat):Int)]++tp 98) (fun _=>h++[]) (fun r=>r<=e.2.length/\∀j<r,Zqo m e j) 0 ⟨Nat.zero_le _,fun j hj=>absurd hj (Nat.not_lt_zero _)⟩ ?_ fun r hr=>?_
    ·refine Bt.wk ?_
     simp only[z16,Xq6,if_true,if_false,reduceIte,Nat.reduceAdd,Nat.reduceSub,Nat.reduceLeDiff,Nat.reduceEqDiff,Nat.reduceMul,Nat.reduceLT,Int.reduceLT,Int.reduceLE,Int.reduceEq]
    obtain ⟨r1,r2⟩:=hr
    by_cases gr0:r<e.2.length
    ·have gr:(((r+1:Nat):Int)<=n)=True:=eq_true (by omega)
     have gr2:=eq_true gr0
     have gr3:((0:Int)<=(r:Int)/\(r:Int)<(e.2.length:Int))=True:=eq_true (by omega)
     have er:IntKind.i64.wrap (((r+1:Nat):Int)-1)=(r:Int):=by rw[ZWm (by unfold In64;omega)];omega
     have er2:IntKind.i64.wrap (((r+1:Nat):Int)+1)=((r+1+1:Nat):Int):=ZWm (by unfold In64;omega)
     obtain ⟨y,hay⟩:∃y,e.2.getD r intR.d=y:=⟨_,rfl⟩
     have hy2:e.2[r]?=some y:=by rw[<-hay,List.getD_eq_getElem?_getD,List.getElem?_eq_getElem gr0];rfl
     have hyp:=(fP.2.2.2.2.2.1 y (List.mem_of_getElem? hy2)).1
     have next:Zqo m e r->∀j<r+1,Zqo m e j:=fun hb j hj=>by
      rcases Nat.lt_or_ge j r with z|z
      ·exact r2 j z
      ·rw[show j=r by omega];exact hb
     rcases emG (0<y) with y1|y1
     ·rcases emG (YB2 m (((r+1:Nat):Int),y) e.2=true) with y2|y2
      ·have y3:=of_eq_true y2
       simp only[QhU,YqB,z16,KHD,Xq6,if_true,if_false,↓reduceIte,Nat.reduceAdd,Nat.reduceSub,Nat.reduceLeDiff,Nat.reduceEqDiff,Nat.reduceMul,Nat.reduceLT,Int.reduceLT,Int.reduceLE,Int.reduceEq,CO.tmps,Opd.tmps,optT,Nat.reducePow,Nat.reduceDiv,Nat.reduceMod,f1,fd,gi,gi2,gz,gr,gr2,gr3,er,er2,ei,h2e,hay,Zr0,QSt,gs,gl,hlen,y1,y3,Nat.zero_lt_one,Option.bind_some,Option.map_some,if_true,oW hh hz,oD,ne_eq,forall_const]
       refine ⟨r+1,⟨gr0,next fun a ha _=>?_⟩,by dsimp only;omega,?_⟩
       ·rw[hy2]at ha
        cases ha
        exact (qEw hA3 _ _).1 y3
       ·exact Bt.sel [] hh (by decide) (by simp only[KlC,FrSel,BlkSel,AV.ren,renL,AV.ok,okL,Option.some.injEq,exists_eq_left',List.length_cons,List.length_nil,Nat.reduceAdd,Nat.reduceLT,reduceCtorEq,implies_true,exists_eq']) (by simp only[KlC,FrSel,BlkSel,AV.ren,renL,AV.ok,okL,Option.some.injEq,exists_eq_left',List.length_cons,List.length_nil,Nat.reduceAdd,Nat.reduceLT,reduceCtorEq,implies_true,exists_eq',ho.1,so,sr])
      ·have y3:YB2 m (((r+1:Nat):Int),y) e.2=false:=by simpa using of_eq_false y2
       rw[hres1 fun hB=>of_eq_false y2 ((qEw hA3 _ _).2 (hB e hin r y hy2 (by have:=of_eq_true y1;omega)))]
       simp only[QhU,YqB,z16,KHD,Xq6,if_true,if_false,↓reduceIte,Nat.reduceAdd,Nat.reduceSub,Nat.reduceLeDiff,Nat.reduceEqDiff,Nat.reduceMul,Nat.reduceLT,Int.reduceLT,Int.reduceLE,Int.reduceEq,CO.tmps,Opd.tmps,optT,Nat.reducePow,Nat.reduceDiv,Nat.reduceMod,f1,fd,gi,gi2,gz,gr,gr2,gr3,er,er2,ei,h2e,hay,Zr0,QSt,gs,gl,hlen,y1,y3,Nat.zero_lt_one,Option.bind_some,Option.map_some,if_true,oW hh hz,oD,ne_eq,forall_const]
       exact Bt.dropI _ hh rfl
     ·simp only[QhU,YqB,z16,KHD,Xq6,if_true,if_false,↓reduceIte,Nat.reduceAdd,Nat.reduceSub,Nat.reduceLeDiff,Nat.reduceEqDiff,Nat.reduceMul,Nat.reduceLT,Int.reduceLT,Int.reduceLE,Int.reduceEq,CO.tmps,Opd.tmps,optT,Nat.reducePow,Nat.reduceDiv,Nat.reduceMod,f1,fd,gi,gi2,gz,gr,gr2,gr3,er,er2,ei,h2e,hay,Zr0,QSt,gs,gl,hlen,y1,Nat.zero_lt_one,Option.bind_some,Option.map_some,if_true,oW hh hz,oD,ne_eq,forall_const]
      refine ⟨r+1,⟨gr0,next fun a ha hne=>?_⟩,by dsimp only;omega,?_⟩
      ·rw[hy2]at ha
       cases ha
       have:=of_eq_false y1
       omega
      ·exact Bt.sel [] hh (by decide) (by simp only[KlC,FrSel,BlkSel,AV.ren,renL,AV.ok,okL,Option.some.injEq,exists_eq_left',List.length_cons,List.length_nil,Nat.reduceAdd,Nat.reduceLT,reduceCtorEq,implies_true,exists_eq']) (by simp only[KlC,FrSel,BlkSel,AV.ren,renL,AV.ok,okL,Option.some.injEq,exists_eq_left',List.length_cons,List.length_nil,Nat.reduceAdd,Nat.reduceLT,reduceCtorEq,implies_true,exists_eq',ho.1,so,sr])
    ·have gr:(((r+1:Nat):Int)<=n)=False:=eq_false (by have:=fP.2.2.2.2.1;omega)
     simp only[QhU,YqB,z16,KHD,Xq6,if_true,if_false,↓reduceIte,Nat.reduceAdd,Nat.reduceSub,Nat.reduceLeDiff,Nat.reduceEqDiff,Nat.reduceMul,Nat.reduceLT,Int.reduceLT,Int.reduceLE,Int.reduceEq,CO.tmps,Opd.tmps,optT,Nat.reducePow,Nat.reduceDiv,Nat.reduceMod,gr,ei,oD,ne_eq,forall_const]
     refine ⟨i+1,⟨g,fun z hz j=>?_⟩,by dsimp only;omega,?_⟩
     ·rw[hmi2]at hz
      rcases List.mem_append.1 hz with hz|hz
      ·exact h2 z hz j
      ·rw[List.mem_singleton.1 hz]
       by_cases hj:j<r
       ·exact r2 j hj
       ·intro a ha _
        rw[List.getElem?_eq_none (by omega)]at ha
        cases ha
     ·refine Bt.wk ?_
      simp only[z16,Xq6,if_true,if_false,reduceIte,Nat.reduceAdd,Nat.reduceSub,Nat.reduceLeDiff,Nat.reduceEqDiff,Nat.reduceMul,Nat.reduceLT,Int.reduceLT,Int.reduceLE,Int.reduceEq]
   ·have g':((i:Int)<(m.length:Int))=False:=eq_false (by omega)
    rw[List.take_of_length_le (by omega)]at h2
    rw[hres0 h2]
    simp only[QhU,YqB,z16,KHD,Xq6,if_true,if_false,↓reduceIte,Nat.reduceAdd,Nat.reduceSub,Nat.reduceLeDiff,Nat.reduceEqDiff,Nat.reduceMul,Nat.reduceLT,Int.reduceLT,Int.reduceLE,Int.reduceEq,CO.tmps,Opd.tmps,optT,Nat.reducePow,Nat.reduceDiv,Nat.reduceMod,f1,g',oD,ne_eq,forall_const]
    exact Bt.dropI _ hh rfl
 ·cases e
end
end Go.Proofs.YtebcngelgdpbjaaGreat
