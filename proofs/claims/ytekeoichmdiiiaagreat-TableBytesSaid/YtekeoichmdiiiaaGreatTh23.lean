/- Part 23 of what the laws' proofs rest on. No condition. -/
import Derived.Test.YtekeoichmdiiiaaGreatTh22
set_option linter.all false
namespace Go.Proofs.YtekeoichmdiiiaaGreat
section
set_option maxRecDepth 100000
set_option maxHeartbeats 4000000
def wsP:List AV->List Nat
 | .p k _::_=>[k]
 | _=>[]
theorem JH9 (k o:Nat) (l:List AV):wsP (.p k o::l)=[k]:=oI rfl
theorem qWp (a x:Nat) (hx:x<256):a*256 ||| x=a*256+x:=by
 have h:=Nat.two_pow_add_eq_or_of_lt (i:=8) (b:=x) (by simpa using hx) a
 rw[Nat.mul_comm a 256]
 exact h.symm
theorem qsH (a:Nat):binV .shl (.i .u64 (a:Int)) (.i .u64 8)=some (.i .u64 (IntKind.u64.wrap ((a:Int)*256))):=oI rfl
theorem ZzZ (k:IntKind) (a b:Int):binV .or (.i k a) (.i k b)=some (.i k (k.wrap (BitVec.ofInt k.bits a ||| BitVec.ofInt k.bits b).toNat)):=by simp [binV,binI]
theorem q0G (a:Nat) (ha:a<18446744073709551616):IntKind.u64.wrap (a:Int)=(a:Int):=by rw[IntKind.wrap_u64];omega
theorem qnH (a x:Nat) (ha:a<72057594037927936) (hx:x<256):binV .or (.i .u64 ((a*256:Nat):Int)) (.i .u64 (x:Int))=some (.i .u64 ((a*256+x:Nat):Int)):=by
 rw[ZzZ,<-qWp a x hx]
 have hx2:a*256 ||| x<2 ^ 64:=by rw[qWp a x hx];omega
 have e1:(BitVec.ofInt 64 ((a*256:Nat):Int)).toNat=a*256:=by
  rw[BitVec.ofInt_natCast,BitVec.toNat_ofNat];exact Nat.mod_eq_of_lt (by omega)
 have e2:(BitVec.ofInt 64 (x:Int)).toNat=x:=by
  rw[BitVec.ofInt_natCast,BitVec.toNat_ofNat];exact Nat.mod_eq_of_lt (by omega)
 have e3:IntKind.bits .u64=64:=rfl
 rw[e3,BitVec.toNat_or,e1,e2,q0G _ (by omega)]
theorem q0n (l:List UInt8) {m:Nat} (hm:m<l.length):QoH (l.take (m+1))=QoH (l.take m)*256+(l.getD m 0).toNat:=by
 rw[List.take_add_one,List.getD_eq_getElem?_getD,List.getElem?_eq_getElem hm]
 exact QGf _ _
theorem JgH (l:List UInt8) {m:Nat} (hm:m<=7):QoH (l.take m)<72057594037927936:=by
 have h:=zmK (l.take m)
 have h2:(l.take m).length<=7:=by rw[List.length_take];omega
 have h3:256 ^ (l.take m).length<=256 ^ 7:=Nat.pow_le_pow_right (by decide) h2
 have h4:256 ^ 7=72057594037927936:=by decide
 omega
theorem Zto (k:IntKind) (n:Int):(AV.i k n).int?=some n:=oI rfl
theorem ZTi (k:IntKind) (a b:Int):binV .geq (.i k a) (.i k b)=some (.b (decide (b<=a))):=by simp [binV,binI]
noncomputable def ZRt:List AV->List AB->Option (AV×List AB)
 | [.p i 0],h=>(rdM h i).bind fun y=>some (.i .i64 (KqA y.2.2.1 y.2.2.2).1,rB h i y.1 y.2.1 (KqA y.2.2.1 y.2.2.2).2)
 | _,_=>none
theorem btR {P:Program} {h:List AB} {i j:Nat} {s:AV} {x:RSt} {v a:AV} (e:v=a):Bt P h.length [v] (rB h i j s x++[]) [a] (rB h i j s x):=by
 rw[List.append_nil,e]
 exact Bt.refl _ _ _
theorem qHy:Spec Tryz.prog 202 ZRt:=by
 intro args h v h' e
 unfold ZRt at e
 split at e
 ·rename_i i
  obtain ⟨j,s,bs,n,er,a,hi,hj,H,hn,e⟩:=QN1 e
  cases e
  refine FnAt.c (FnAt.run (by kernel_rfl) (T:=⟨[⟨201,YN6,fun _=>[]⟩,⟨258,qJg,wsP⟩,⟨267,X2a,fun _=>[]⟩],[]⟩) ⟨⟨Qlv,Zvp,KEp,trivial⟩,trivial⟩ Tryz.func202 ZTK fun ho hh=>?_)
  have hok:=qC8 hh hi
  have e0:h++[]=rB h i j s ⟨n,er,a⟩++[]:=by rw[Y8O hi hj]
  rw[e0]
  have f1:=XLI H hok
  have f2:=XUu H hok
  unfold w202
  by_cases g:er=0
  case neg =>
   have g':=eq_false g
   have hr:KqA bs ⟨n,er,a⟩=(0,⟨n,er,a⟩):=KMw bs _ g
   rw[hr]
   simp only[z49,Qs3,XtK,K1H,JS3,simprocAttr,CO.tmps,Opd.tmps,optT,f1,f2,g',YN6,YNB,List.getElem?_cons_zero,List.getElem?_cons_succ,not_false_eq_true,decide_true]
   exact btR rfl
  subst g
  have ff:=fun S L e a'=>Y9b (x:=⟨n,0,a⟩) H S L e a' rfl
  have m1:bs.length<=maxLen:=H.rd.2
  unfold maxLen at m1
  by_cases g1:bs.length<=n
  ·have g1':((bs.length:Int)<=(n:Int))=True:=eq_true (by omega)
   have hr:KqA bs ⟨n,0,a⟩=(0,⟨n,6,n⟩):=by unfold KqA;rw[if_pos rfl,List.getElem?_eq_none (show bs.length<=n from g1)]
   rw[hr]
   simp only[z49,Qs3,XtK,K1H,JS3,simprocAttr,CO.tmps,Opd.tmps,optT,f1,f2,g1',ff,JH9,qNT H hok hh,YN6,YNB,List.getElem?_cons_zero,List.getElem?_cons_succ,not_true_eq_false,decide_false]
   exact btR rfl
  have g1':((bs.length:Int)<=(n:Int))=False:=eq_false (by omega)
  have hlt:(n<bs.length)=True:=eq_true (by omega)
  have hge:((0:Int)<=(n:Int)/\(n:Int)<(bs.length:Int))=True:=eq_true (by omega)
  obtain ⟨C,hC⟩:∃C,C=(bs.getD n 0).toNat:=⟨_,rfl⟩
  have hc1:u8A (bs.getD n 0)=.i .u8 (C:Int):=by rw[hC];rfl
  have hc2:C<256:=by rw[hC];exact UInt8.toNat_lt _
  have hr0:KqA bs ⟨n,0,a⟩=qUk bs ⟨n,0,a⟩ C:=by
   unfold KqA
   have q:n<bs.length:=by omega
   rw[if_pos rfl,List.getElem?_eq_getElem (show (⟨n,0,a⟩:RSt).pos<bs.length from q),hC,List.getD_eq_getElem?_getD,List.getElem?_eq_getElem q]
   rfl
  have e1:IntKind.i64.wrap (C:Int)=(C:Int):=Q7p (by unfold In64;omega)
  have e2:IntKind.i64.wrap ((C:Int)-191)=(C:Int)-191:=Q7p (by unfold In64;omega)
  have e3:IntKind.i64.wrap ((bs.length:Int)-(n:Int))=(bs.length:Int)-n:=Q7p (by unfold In64;omega)
  have e4:IntKind.i64.wrap ((bs.length:Int)-(n:Int)-1)=(bs.length:Int)-n-1:=Q7p (by unfold In64;omega)
  have e5:mmV true (.i .i64 ((C:Int)-191)) (.i .i64 0)=some (.i .i64 ((C-191:Nat):Int)):=by
   rw[Qnv]
   congr 2
   omega
  rw[hr0]
  by_cases g2:199<C
  ·have g2':((199:Int)<(C:Int))=True:=eq_true (by omega)
   have hr:qUk bs ⟨n,0,a⟩ C=(0,⟨n,5,n⟩):=by unfold qUk;rw[if_pos g2]
   rw[hr]
   simp only[z49,Qs3,XtK,K1H,JS3,simprocAttr,CO.tmps,Opd.tmps,optT,f1,f2,g1',hlt,hge,hc1,e1,e2,e5,Zto,g2',ff,JH9,qNT H hok hh,YN6,YNB,List.getElem?_cons_zero,List.getElem?_cons_succ,not_true_eq_false,decide_false]
   exact btR rfl
  have g2':((199:Int)<(C:Int))=False:=eq_false (by omega)
  by_cases g3:bs.length<n+1+(C-191)
  ·have g3':((bs.length:Int)-(n:Int)-1<((C-191:Nat):Int))=True:=eq_true (by omega)
   have hr:qUk bs ⟨n,0,a⟩ C=(0,⟨n,6,n⟩):=by unfold qUk;rw[if_neg g2,if_pos g3]
   rw[hr]
   simp only[z49,Qs3,XtK,K1H,JS3,simprocAttr,CO.tmps,Opd.tmps,optT,f1,f2,g1',hlt,hge,hc1,e1,e2,e3,e4,e5,Zto,g2',g3',ff,JH9,qNT H hok hh,YN6,YNB,List.getElem?_cons_zero,List.getElem?_cons_succ,not_true_eq_false,decide_false]
   exact btR rfl
  have g3':((bs.length:Int)-(n:Int)-1<((C-191:Nat):Int))=False:=eq_false (by omega)
  by_cases g4:C<192
  ·have g4':(((C-191:Nat):Int)=0)=True:=eq_true (by omega)
   have e6:IntKind.i64.wrap ((n:Int)+1)=((n+1:Nat):Int):=Q7p (by unfold In64;omega)
   have hr:qUk bs ⟨n,0,a⟩ C=((C:Int),⟨n+1,0,a⟩):=by unfold qUk;rw[if_neg g2,if_neg g3,if_pos g4]
   rw[hr]
   simp only[z49,Qs3,XtK,K1H,JS3,simprocAttr,CO.tmps,Opd.tmps,optT,f1,f2,g1',hlt,hge,hc1,e1,e2,e3,e4,e5,e6,Zto,g2',g3',g4',YN6,YNB,List.getElem?_cons_zero,List.getElem?_cons_succ,not_true_eq_false,decide_false]
   exact btR rfl
  have g4':(((C-191:Nat):Int)=0)=False:=eq_false (by omega)
  obtain ⟨K,hK⟩:∃K,K=C-191:=⟨_,rfl⟩
  have hK1:1<=K/\K<=8:=by omega
  obtain ⟨s',hs1,hs2,hs3,hs4⟩:=H.rd.cutS H.cap (a:=n+1) (b:=n+(1+K)) (by omega) (by omega) (sz:=1) rfl
  have e6:IntKind.i64.wrap ((n:Int)+1)=((n+1:Nat):Int):=Q7p (by unfold In64;omega)
  have e7:IntKind.i64.wrap (((n+1:Nat):Int)+(K:Int))=((n+(1+K):Nat):Int):=by
   rw[show ((n+1:Nat):Int)+(K:Int)=((n+(1+K):Nat):Int) by omega]
   exact Q7p (by unfold In64;omega)
  rw[show n+(1+K)-(n+1)=K by omega]at hs2
  obtain ⟨l,hl⟩:∃l,l=(bs.drop (n+1)).take K:=⟨_,rfl⟩
  have hll:l.length=K:=by rw[hl,List.length_take,List.length_drop];omega
  rw[<-hl]at hs2
  have hr1:qUk bs ⟨n,0,a⟩ C=if 9223372036854775808<=QoH l\/KyO (QoH l)≠K then (0,⟨n,5,n⟩) else (((QoH l:Nat):Int),⟨n+1+K,0,a⟩):=by
   unfold qUk
   rw[if_neg g2,if_neg g3,if_neg g4,hl,hK]
  rw[hr1]
  have fs:=hs2.fx (hs3 _ hok) (sz:=1) rfl
  have fp:=z48 H hs2 hs4
  rw[hll]at fs fp
  rw[<-hK]at g3' g4' e5
  simp only[z49,Qs3,XtK,K1H,JS3,simprocAttr,CO.tmps,Opd.tmps,optT,f1,f2,g1',hlt,hge,hc1,e1,e2,e3,e4,e5,e6,e7,hs1,fs,Zto,g2',g3',g4',YN6,YNB,List.getElem?_cons_zero,List.getElem?_cons_succ,not_true_eq_false,decide_false]
  refine ZDF (S:=Nat) (fun k=>K-k) (fun k=>[.p i 0]++tp 3++[.i .i64 K,.i .u64 (QoH (l.take k):Nat)]++tp 99++[s',.i .i64 K,.i .i64 k]++tp 38) (fun k=>k<=K) 0 (Nat.zero_le _) (by simp only[XtK,JS3,simprocAttr,List.take_zero];exact fun ρ c h=>h) fun k hk=>?_
  by_cases g5:k<K
  ·have g5':((k:Int)<(K:Int))=True:=eq_true (by omega)
   have g6':((0:Int)<=(k:Int)/\(k:Int)<(K:Int))=True:=eq_true (by omega)
   have g7':=eq_true g5
   have q1:IntKind.u64.wrap ((QoH (l.take k):Int)*256)=((QoH (l.take k)*256:Nat):Int):=by
    have:=JgH l (m:=k) (by omega)
    rw[show (QoH (l.take k):Int)*256=((QoH (l.take k)*256:Nat):Int) by omega]
    exact q0G _ (by omega)
   have q2:IntKind.u64.wrap (((l.getD k 0).toNat:Nat):Int)=((l.getD k 0).toNat:Int):=q0G _ (by have:=UInt8.toNat_lt (l.getD k 0);omega)
   have q3:=qnH (QoH (l.take k)) (l.getD k 0).toNat (JgH l (by omega)) (UInt8.toNat_lt _)
   have q4:IntKind.i64.wrap ((k:Int)+1)=((k+1:Nat):Int):=Q7p (by unfold In64;omega)
   simp only[XtK,K1H,JS3,simprocAttr,CO.tmps,Opd.tmps,optT,f1,f2,fs,fp,g5',g6',g7',u8A,q1,q2,q3,q4,Zto,qsH]
   refine ⟨k+1,by omega,by omega,?_⟩
   rw[q0n l (by omega)]
   exact ⟨fun _ _ h=>h,fun _ _ h=>h⟩
  ·have g5':((k:Int)<(K:Int))=False:=eq_false (by omega)
   obtain rfl:k=K:=by omega
   rw[List.take_of_length_le (by omega)]
   by_cases g8:9223372036854775808<=QoH l
   ·have g8':((9223372036854775808:Int)<=(QoH l:Int))=True:=eq_true (by omega)
    rw[if_pos (Or.inl g8)]
    simp only[XtK,K1H,JS3,simprocAttr,CO.tmps,Opd.tmps,optT,f1,f2,g5',g8',ZTi,ff,JH9,qNT H hok hh]
    exact btR rfl
   ·have g8':((9223372036854775808:Int)<=(QoH l:Int))=False:=eq_false (by omega)
    have q1:IntKind.i64.wrap (QoH l:Int)=(QoH l:Int):=Q7p (by unfold In64;omega)
    by_cases g9:KyO (QoH l)=k
    ·have g9':((KyO (QoH l):Int)=(k:Int))=True:=eq_true (by omega)
     have q2:IntKind.i64.wrap (1+(k:Int))=((1+k:Nat):Int):=Q7p (by unfold In64;omega)
     have q3:IntKind.i64.wrap ((n:Int)+((1+k:Nat):Int))=((n+(1+k):Nat):Int):=by
      rw[show (n:Int)+((1+k:Nat):Int)=((n+(1+k):Nat):Int) by omega]
      exact Q7p (by unfold In64;omega)
     rw[if_neg (by omega)]
     simp only[XtK,K1H,JS3,simprocAttr,CO.tmps,Opd.tmps,optT,f1,f2,g5',g8',g9',q1,q2,q3,ZTi,Zto,X2a]
     exact btR rfl
    ·have g9':((KyO (QoH l):Int)=(k:Int))=False:=eq_false (by omega)
     rw[if_pos (Or.inr g9)]
     simp only[XtK,K1H,JS3,simprocAttr,CO.tmps,Opd.tmps,optT,f1,f2,g5',g8',g9',q1,ZTi,Zto,X2a,ff,JH9,qNT H hok hh]
     exact btR rfl
 ·cases e
end
section
set_option maxRecDepth 100000
set_option maxHeartbeats 4000000
theorem Qu8 {bs:List UInt8} {x:RSt} (h:x.pos<=bs.length):(KqA bs x).2.pos<=bs.length:=by
 by_cases g:x.err=0
 ·exact (RGood.num (bs:=bs) ⟨h,fun q=>absurd g q⟩).1
 ·rw[KMw bs x g];exact h
theorem YDO {bs:List UInt8} {x:RSt} (m:Int) (h:x.pos<=bs.length):(qlW bs x m).2.pos<=bs.length:=by
 by_cases g:x.err=0
 ·exact (RGood.many (bs:=bs) ⟨h,fun q=>absurd g q⟩ m).1
 ·rw[KSu bs x m g];exact h
noncomputable def zVj:List AV->List AB->Option (AV×List AB)
 | [.p i 0,.i .i64 m],h=>(rdM h i).bind fun y=>some (.i .i64 (qlW y.2.2.1 y.2.2.2 m).1,rB h i y.1 y.2.1 (qlW y.2.2.1 y.2.2.2 m).2)
 | _,_=>none
theorem JoE:Spec Tryz.prog 200 zVj:=by
 intro args h v h' e
 unfold zVj at e
 split at e
 ·rename_i i most
  obtain ⟨j,s,bs,n,er,a,hi,hj,H,hn,e⟩:=QN1 e
  cases e
  refine FnAt.c (FnAt.run (by kernel_rfl) (T:=⟨[⟨201,YN6,fun _=>[]⟩,⟨258,qJg,wsP⟩,⟨202,ZRt,fun _=>[]⟩],[]⟩) ⟨⟨Qlv,Zvp,qHy,trivial⟩,trivial⟩ Tryz.func200 Zun fun ho hh=>?_)
  have hok:=qC8 hh hi
  have e0:h++[]=rB h i j s ⟨n,er,a⟩++[]:=by rw[Y8O hi hj]
  rw[e0]
  have f1:=XLI H hok
  have f2:=XUu H hok
  have f3:=qdK (x:=⟨n,er,a⟩) H hn
  have f4:=fun x=>Zuy (x:=x) H
  have f5:=fun x=>zUz (x:=x) H
  unfold w200
  by_cases g:er=0
  case neg =>
   have g':=eq_false g
   have hr:qlW bs ⟨n,er,a⟩ most=(0,⟨n,er,a⟩):=KSu bs _ most g
   rw[hr]
   simp only[z49,Qs3,XtK,K1H,JS3,simprocAttr,CO.tmps,Opd.tmps,optT,f1,f2,g',YN6,YNB,List.getElem?_cons_zero,List.getElem?_cons_succ,not_false_eq_true,decide_true]
   exact btR rfl
  have g':=eq_true g
  by_cases g2:most<(KqA bs ⟨n,er,a⟩).1
  ·have g2':=eq_true g2
   have hr:qlW bs ⟨n,er,a⟩ most=((KqA bs ⟨n,er,a⟩).1,(KqA bs ⟨n,er,a⟩).2.fail 4 n):=by unfold qlW;rw[if_pos g,if_pos g2]
   rw[hr]
   simp only[z49,Qs3,XtK,K1H,JS3,simprocAttr,CO.tmps,Opd.tmps,optT,f1,f2,f3,f4,f5,g',g2',YN6,ZRt,YNB,List.getElem?_cons_zero,List.getElem?_cons_succ,not_true_eq_false,decide_false]
   exact btR rfl
  ·have g2':=eq_false g2
   have hr:qlW bs ⟨n,er,a⟩ most=KqA bs ⟨n,er,a⟩:=by unfold qlW;rw[if_pos g,if_neg g2]
   rw[hr]
   simp only[z49,Qs3,XtK,K1H,JS3,simprocAttr,CO.tmps,Opd.tmps,optT,f1,f2,f3,f4,f5,g',g2',YN6,ZRt,YNB,List.getElem?_cons_zero,List.getElem?_cons_succ,not_true_eq_false,decide_false]
   exact btR rfl
 ·cases e
theorem KHg (S:List Nat) (H x:List AB):JkA [] (qRB S [] 0 H++x) 0 H=H++x:=by
 refine List.ext_getElem? fun k=>?_
 rw[Xwm,Nat.zero_add]
 split
 ·rename_i hk
  rw[if_neg (by simp),List.getElem?_append_left hk]
 ·rename_i hk
  rw[List.getElem?_append_right (by rw[ZOs];omega),List.getElem?_append_right (by omega),ZOs]
section
variable {c:Ctx} {k:List IT} {fr:List AV} {len0 n anc:Nat} {past:List Pt} {d:Option Nat} {ops:List DOp}
theorem Q9J (S : List Nat) (vs : List AV) (v : AV) (H x : List AB) : W c (.dmk [] vs (some (v, qRB S [] 0 H ++ x)) len0 n anc past d ops :: k) fr H = (okL (fun i => decide (i < H.length)) vs = true ∧ HOk H ∧ indA len0 anc past [] past = true ∧ v.ok (qOk len0 H.length (H.length + x.length) anc past) = true ∧ (x.all fun B => B.ok (qOk len0 H.length (H.length + x.length) anc past)) = true ∧
      W c (.drw len0 (n+1) (⟨n,H.length,H.length+x.length,seen len0 anc (ZLX past) H.length,[]⟩::past) ops::k) (put fr d v) (H++x)):=by
  have e0:(qRB S [] 0 H++x).length=H.length+x.length:=by rw[List.length_append,ZOs]
  have e1:(qRB S [] 0 H++x).drop H.length=x:=List.drop_left' (ZOs _ _ _ _)
  have e2:(H.length<=H.length+x.length)=True:=eq_true (by omega)
  rw[<-JbW,QPK,KHg,e0,e1]
  simp only[List.all_nil,e2,true_and]
end
noncomputable def XXc:List AV->List AB->Option (AV×List AB)
 | [.p i 0,.i .i64 m,.i .i64 a],h=>if 0<=m then (rdM h i).bind fun y=>if y.2.2.1.length<=1000000 then some (rsl X0d h.length (qwD y.2.2.1 y.2.2.2 m.toNat a).1,rB h i y.1 y.2.1 (qwD y.2.2.1 y.2.2.2 m.toNat a).2++[resB X0d true (qwD y.2.2.1 y.2.2.2 m.toNat a).1]) else none else none
 | _,_=>none
theorem btRn {P:Program} {h:List AB} {i j:Nat} {s:AV} {x:RSt} {l:List UInt8} (h0:l.length=0):Bt P h.length [.ns] (rB h i j s x++[]) [rsl X0d h.length l] (rB h i j s x++[resB X0d true l]):=by
 have:=Bt.one0 (P:=P) (h:=rB h i j s x) (v:=.ns) (r:=X0d) (l:=l) h0 (Wk.nil _ _)
 rw[Kz5]at this
 exact this
theorem qkq:Spec Tryz.prog 269 XXc:=by
 intro args h v h' e
 unfold XXc at e
 split at e
 ·rename_i i m at0
  split at e
  ·rename_i hm
   obtain ⟨m,rfl⟩:=Int.eq_ofNat_of_zero_le hm
   obtain ⟨j,s,bs,n,er,a,hi,hj,H,hn,e⟩:=QN1 e
   split at e
   ·rename_i hlen
    cases e
    rw[Int.toNat_natCast]
    refine FnAt.c (FnAt.run (by kernel_rfl) (T:=⟨[⟨201,YN6,fun _=>[]⟩,⟨258,qJg,wsP⟩,⟨170,qjh,fun _=>[]⟩],[]⟩) ⟨⟨Qlv,Zvp,Z6M,trivial⟩,trivial⟩ Tryz.func269 Qn7 fun ho hh=>?_)
    have hok:=qC8 hh hi
    have e0:h++[]=rB h i j s ⟨n,er,a⟩++[]:=by rw[Y8O hi hj]
    rw[e0]
    have f1:=XLI H hok
    have f2:=XUu H hok
    have f5:=fun x=>zUz (x:=x) H
    unfold w269
    by_cases g:er=0
    case neg =>
     have g':=eq_false g
     have hr:qwD bs ⟨n,er,a⟩ m at0=([],⟨n,er,a⟩):=z3v bs _ m at0 g
     rw[hr]
     simp only[z49,Qs3,XtK,K1H,JS3,simprocAttr,CO.tmps,Opd.tmps,optT,f1,f2,g',YN6,YNB,List.getElem?_cons_zero,List.getElem?_cons_succ,not_false_eq_true,decide_true]
     exact btRn rfl
    subst g
    dsimp only at hlen
    have e3:IntKind.i64.wrap ((bs.length:Int)-(n:Int))=(bs.length:Int)-n:=Q7p (by unfold In64;omega)
    by_cases g1:bs.length<n+m
    ·have g1':((bs.length:Int)-(n:Int)<(m:Int))=True:=eq_true (by omega)
     have hr:qwD bs ⟨n,0,a⟩ m at0=([],⟨n,6,at0⟩):=by unfold qwD;rw[if_pos rfl,if_pos g1]
     rw[hr]
     simp only[z49,Qs3,XtK,K1H,JS3,simprocAttr,CO.tmps,Opd.tmps,optT,f1,f2,f5,e3,g1',YN6,YNB,List.getElem?_cons_zero,List.getElem?_cons_succ,not_true_eq_false,decide_false]
     exact btRn rfl
    ·have g1':((bs.length:Int)-(n:Int)<(m:Int))=False:=eq_false (by omega)
     have hr:qwD bs ⟨n,0,a⟩ m at0=((bs.drop n).take m,⟨n+m,0,a⟩):=by unfold qwD;rw[if_pos rfl,if_neg g1]
     rw[hr]
     obtain ⟨s',hs1,hs2,hs3,hs4⟩:=H.rd.cutS H.cap (a:=n) (b:=n+m) (by omega) (by omega) (sz:=1) rfl
     rw[show n+m-n=m by omega]at hs2
     have e4:IntKind.i64.wrap ((n:Int)+(m:Int))=((n+m:Nat):Int):=by
      rw[<-Int.natCast_add]
      exact Q7p (by unfold In64;omega)
     have hll:((bs.drop n).take m).length=m:=by rw[List.length_take,List.length_drop];omega
     have fs:=hs2.fx (hs3 _ hok) (sz:=1) rfl
     have fp:=z48 H hs2 hs4
     have l1:(((bs.drop n).take m).length<=1000000)=True:=eq_true (by omega)
     have fm:∀(x:RSt) L c anc past n',n'=h.length+L.length->getS X0d (qRB (seen (h.length+c) anc past n') [] 0 (rB h i j s x++L)) s'=some ((bs.drop n).take m):=fun x L c anc past n' hn'=>by
      refine (Rd.mask (((hs2.setB (fun k hk=>(H.q k (hs4 k hk)).1) _).setB (fun k hk=>(H.q k (hs4 k hk)).2) _).app L) fun k hk=>?_).get
      have hlt:k<h.length:=H.lt k (hs4 k hk)
      exact z7v (by omega) (by omega)
     simp only[z49,Qs3,XtK,K1H,JS3,simprocAttr,CO.tmps,Opd.tmps,optT,f1,f2,f5,e3,e4,g1',hs1,fs,fp,fm,l1,qjh,ZOs,Q9J,YN6,YNB,qNT H hok hh,List.getElem?_cons_zero,List.getElem?_cons_succ,not_true_eq_false,decide_false]
     exact Bt.eq rfl rfl
   ·cases e
  ·cases e
 ·cases e
noncomputable def X0m:List AV->List AB->Option (AV×List AB)
 | [.p i 0,.i .i64 m],h=>(rdM h i).bind fun y=>if y.2.2.1.length<=1000000 then some (rsl X0d h.length (JrE y.2.2.1 y.2.2.2 m).1,rB h i y.1 y.2.1 (JrE y.2.2.1 y.2.2.2 m).2++[resB X0d true (JrE y.2.2.1 y.2.2.2 m).1]) else none
 | _,_=>none
theorem JdU:Spec Tryz.prog 205 X0m:=by
 intro args h v h' e
 unfold X0m at e
 split at e
 ·rename_i i m
  obtain ⟨j,s,bs,n,er,a,hi,hj,H,hn,e⟩:=QN1 e
  split at e
  ·rename_i hlen
   cases e
   refine FnAt.c (FnAt.run (by kernel_rfl) (T:=⟨[⟨268,QCH,fun _=>[]⟩,⟨200,zVj,fun _=>[]⟩,⟨269,XXc,fun _=>[]⟩],[]⟩) ⟨⟨KbD,JoE,qkq,trivial⟩,trivial⟩ Tryz.func205 qSj fun ho hh=>?_)
   have hok:=qC8 hh hi
   have e0:h++[]=rB h i j s ⟨n,er,a⟩++[]:=by rw[Y8O hi hj]
   rw[e0]
   dsimp only at hlen ⊢
   have f1:=XLI H hok
   have f2:=XUu H hok
   have f3:=qdK (x:=⟨n,er,a⟩) H hn
   have f4:=fun x=>Zuy (x:=x) H
   have f5:=XgF (x:=⟨n,er,a⟩) H
   have f6:=qdK (x:=(qlW bs ⟨n,er,a⟩ m).2) H (YDO m hn)
   obtain ⟨N,hN⟩:∃N:Nat,(qlW bs ⟨n,er,a⟩ m).1=(N:Int):=⟨_,(Int.toNat_of_nonneg (YTr bs _ m).1).symm⟩
   have g1:((0:Int)<=(N:Int))=True:=eq_true (by omega)
   have g2:(bs.length<=1000000)=True:=eq_true hlen
   have hr:JrE bs ⟨n,er,a⟩ m=qwD bs (qlW bs ⟨n,er,a⟩ m).2 N (if er=0 then (n:Int) else 0):=by
    unfold JrE
    rw[hN,Int.toNat_natCast]
    rfl
   rw[hr]
   unfold w205
   simp only[z49,Qs3,XtK,K1H,JS3,simprocAttr,CO.tmps,Opd.tmps,optT,f1,f2,f3,f4,f5,f6,g1,g2,hN,QCH,zVj,XXc,List.getElem?_cons_zero,List.getElem?_cons_succ]
   exact Bt.eq rfl rfl
  ·cases e
 ·cases e
noncomputable def JRM:List AV->List AB->Option (AV×List AB)
 | [.p i 0,.i .i64 m],h=>(rdM h i).bind fun y=>if y.2.2.1.length<=1000000 then some (.s (JrE y.2.2.1 y.2.2.2 m).1,rB h i y.1 y.2.1 (JrE y.2.2.1 y.2.2.2 m).2) else none
 | _,_=>none
theorem X5D (bs:List UInt8) (x:RSt) (m:Int) (h:bs.length<=1000000):(JrE bs x m).1.length<=1000000:=by
 unfold JrE qwD
 split
 ·split
  ·exact Nat.zero_le _
  ·dsimp only
   rw[List.length_take,List.length_drop]
   omega
 ·exact Nat.zero_le _
theorem KPa:Spec Tryz.prog 104 JRM:=by
 intro args h v h' e
 unfold JRM at e
 split at e
 ·rename_i i m
  obtain ⟨j,s,bs,n,er,a,hi,hj,H,hn,e⟩:=QN1 e
  split at e
  ·rename_i hlen
   cases e
   refine FnAt.c (FnAt.run (by kernel_rfl) (T:=⟨[⟨205,X0m,fun _=>[]⟩],[]⟩) ⟨⟨JdU,trivial⟩,trivial⟩ Tryz.func104 K9g fun ho hh=>?_)
   have hok:=qC8 hh hi
   have e0:h++[]=rB h i j s ⟨n,er,a⟩++[]:=by rw[Y8O hi hj]
   rw[e0]
   dsimp only at hlen ⊢
   have f1:=XLI H hok
   have f2:=XUu H hok
   have f3:=qdK (x:=⟨n,er,a⟩) H hn
   have f4:=fun x=>Zuy (x:=x) H
   have g2:(bs.length<=1000000)=True:=eq_true hlen
   have fs:∀(y:RSt) l,srcV (rB h i j s y++[resB X0d true l]) 1 (rsl X0d (h.length+0) l)=some (l.length,X0d.cells l):=fun y l=>by
    have:=J8W (h:=rB h i j s y) (r:=X0d) (sz:=1) rfl [resB X0d true l] 0 l ⟨true,rfl⟩
    rw[Kz5]at this
    exact this
   unfold w104
   simp only[z49,Qs3,XtK,K1H,JS3,simprocAttr,CO.tmps,Opd.tmps,optT,f1,f2,f3,f4,fs,g2,X0m,Qpw,YHj,List.getElem?_cons_zero,List.getElem?_cons_succ]
   have:=Bt.drop (P:=Tryz.prog) (h:=rB h i j s (JrE bs ⟨n,er,a⟩ m).2) (v:=.s (JrE bs ⟨n,er,a⟩ m).1) [resB X0d true (JrE bs ⟨n,er,a⟩ m).1] (qMc H hok hh _) rfl (by rw[Kz5];rfl)
   rw[Kz5]at this
   exact this
  ·cases e
 ·cases e
end
section
set_option maxRecDepth 100000
set_option maxHeartbeats 4000000
section
variable {h:List AB} {i j:Nat} {s:AV} {bs:List UInt8} {x:RSt}
theorem qIs (H:RdH h i j s bs) (S:List Nat) (L:List AB) (y:RSt):rB (qRB S [i,j] 0 (rB h i j s x++L)) i j s y=qRB S [i,j] 0 (rB h i j s y++L):=by
 have hi:i<(qRB S [i,j] 0 (rB h i j s x++L)).length:=by rw[ZOs,List.length_append,Kz5];have:=H.hi;omega
 have hj:j<(qRB S [i,j] 0 (rB h i j s x++L)).length:=by rw[ZOs,List.length_append,Kz5];have:=H.hj;omega
 have key:∀(G:List AB),i<G.length->j<G.length->∀k,(rB G i j s y)[k]?=if k=j then some (.blk true true [.i .i64 y.err,.i .i64 y.ea]) else if k=i then some (.blk false true [.p j 0,s,.i .i64 (y.pos:Nat)]) else G[k]?:=fun G gi gj k=>by
  unfold rB
  by_cases h1:k=j
  ·rw[if_pos h1,h1,List.getElem?_set_self (by rw[List.length_set];exact gj)]
  ·rw[if_neg h1,List.getElem?_set_ne (Ne.symm h1)]
   by_cases h2:k=i
   ·rw[if_pos h2,h2,List.getElem?_set_self gi]
   ·rw[if_neg h2,List.getElem?_set_ne (Ne.symm h2)]
 refine List.ext_getElem? fun k=>?_
 rw[key _ hi hj]
 by_cases h1:k=j
 ·rw[if_pos h1,h1,Qwa (by simp),List.getElem?_append_left (by rw[Kz5];exact H.hj),rB_j H]
 ·rw[if_neg h1]
  by_cases h2:k=i
  ·rw[if_pos h2,h2,Qwa (by simp),List.getElem?_append_left (by rw[Kz5];exact H.hi),rB_i H]
  ·rw[if_neg h2,z8h,z8h]
   have e1:∀z:RSt,(rB h i j s z++L)[k]?=(h++L)[k]?:=fun z=>by
    rw[List.getElem?_append,List.getElem?_append,Kz5,qO8 h2 h1]
   rw[e1,e1]
theorem Xkg (H:RdH h i j s bs) (hx:x.pos<=bs.length) (L:List AB) (c anc n:Nat) (past:List Pt) (hn:n=h.length+L.length):rdM (qRB (seen (h.length+c) anc past n) [i,j] 0 (rB h i j s x++L)) i=some (j,s,bs,x):=by
 unfold rdM
 have hs:Rd X0d (qRB (seen (h.length+c) anc past n) [i,j] 0 (rB h i j s x++L)) s bs:=Rd.mask ((H.rB x).app L) fun k hk=>by
  have:=H.lt k hk
  exact z7v (by omega) (by omega)
 have g1:(qRB (seen (h.length+c) anc past n) [i,j] 0 (rB h i j s x++L))[i]?=some (.blk false true [.p j 0,s,.i .i64 (x.pos:Nat)]):=by
  rw[Qwa (by simp),List.getElem?_append_left (by rw[Kz5];exact H.hi),rB_i H]
 have g2:(qRB (seen (h.length+c) anc past n) [i,j] 0 (rB h i j s x++L))[j]?=some (.blk true true [.i .i64 x.err,.i .i64 x.ea]):=by
  rw[Qwa (by simp),List.getElem?_append_left (by rw[Kz5];exact H.hj),rB_j H]
 simp only[g1,g2]
 rw[hs.get,Option.bind_some,if_pos ⟨by omega,by omega,List.all_eq_true.2 fun k hk=>decide_eq_true ⟨(H.q k hk).1,(H.q k hk).2,by have:=H.lt k hk;rw[ZOs,List.length_append,Kz5];omega⟩,H.cap⟩,Int.toNat_natCast]
theorem YCg (H:RdH h i j s bs) (S:List Nat) (L X:List AB) (y:RSt):JkA [i,j] (qRB S [i,j] 0 (rB h i j s y++L)++X) 0 (rB h i j s x++L)=rB h i j s y++(L++X):=by
 have hl:∀z:RSt,(rB h i j s z++L).length=h.length+L.length:=fun z=>by rw[List.length_append,Kz5]
 have hi:=H.hi
 have hj:=H.hj
 rw[<-List.append_assoc]
 refine List.ext_getElem? fun k=>?_
 rw[Xwm,Nat.zero_add,hl]
 by_cases hk:k<h.length+L.length
 ·have g1:(qRB S [i,j] 0 (rB h i j s y++L)++X)[k]?=(qRB S [i,j] 0 (rB h i j s y++L))[k]?:=List.getElem?_append_left (by rw[ZOs,hl];exact hk)
  have g2:(rB h i j s y++L++X)[k]?=(rB h i j s y++L)[k]?:=List.getElem?_append_left (by rw[hl];exact hk)
  rw[if_pos hk,g1,g2]
  by_cases hm:k∈[i,j]
  ·rw[if_pos hm,Qwa hm,List.getElem?_eq_getElem (by rw[hl];exact hk)]
   rfl
  ·rw[if_neg hm]
   simp only[List.mem_cons,List.not_mem_nil,or_false,not_or]at hm
   have e1:∀z:RSt,(rB h i j s z++L)[k]?=(h++L)[k]?:=fun z=>by
    rw[List.getElem?_append,List.getElem?_append,Kz5,qO8 hm.1 hm.2]
   rw[e1,e1]
 ·rw[if_neg hk,List.getElem?_append_right (by rw[ZOs,hl];omega),List.getElem?_append_right (by rw[hl];omega),ZOs,hl]
theorem q0F (H:RdH h i j s bs) (ho:s.ok (fun k=>decide (k<h.length))=true) :
  (∀S (y:RSt) L,(qRB S [i,j] 0 (rB h i j s y++L)).length=h.length+L.length) /\
  (∀S (y:RSt) L X c lo hi anc past,((qRB S [i,j] 0 (rB h i j s y++L)++X).getD i .dead).ok (qOk (h.length+c) lo hi anc past)=true)/\(∀S (y:RSt) L X q,((qRB S [i,j] 0 (rB h i j s y++L)++X).getD j .dead).ok q=true) /\
  (∀S (y:RSt) L X n,n=L.length->(qRB S [i,j] 0 (rB h i j s y++L)++X).drop (h.length+n)=X) /\
  (∀S (x y:RSt) L X,JkA [i,j] (qRB S [i,j] 0 (rB h i j s y++L)++X) 0 (rB h i j s x++L)=rB h i j s y++(L++X)):=by
 have l1:∀(S:List Nat) (y:RSt) (L:List AB),(qRB S [i,j] 0 (rB h i j s y++L)).length=h.length+L.length:=fun S y L=>by rw[ZOs,List.length_append,Kz5]
 have hi:=H.hi
 have hj:=H.hj
 refine ⟨l1,fun S y L X c lo hi anc past=>?_,fun S y L X q=>?_,fun S y L X n hn=>List.drop_left' (by rw[l1,hn]),fun S x y L X=>YCg (x:=x) H S L X y⟩
 ·rw[List.getD_eq_getElem?_getD,List.getElem?_append_left (by rw[l1];omega),Qwa (by simp),List.getElem?_append_left (by rw[Kz5];omega),rB_i H]
  simp only[Option.getD_some,AB.ok,ZiP,q0E,ok_i,Bool.and_true,Bool.and_eq_true]
  exact ⟨ZX5 (by omega),AV.ok_mono (fun k hk=>ZX5 (by simp only[decide_eq_true_eq]at hk;omega)) s ho⟩
 ·rw[List.getD_eq_getElem?_getD,List.getElem?_append_left (by rw[l1];omega),Qwa (by simp),List.getElem?_append_left (by rw[Kz5];omega),rB_j H]
  rfl
end
theorem qa0 {T:Env} {fr:List AV} {h:List AB} (n sz:Nat) (x:Opd) (lo hi mx:Option Opd):opR T (.sla n sz x lo hi mx) fr h=(slA n sz (x.ev fr) (lo.map (Opd.ev fr)) (hi.map (Opd.ev fr)) (mx.map (Opd.ev fr))).map (·,h):=oI rfl
theorem zFS (id:Nat):slA 32 1 (.p id 0) none none none=some (.sl id 0 32 32 none):=oI rfl
theorem X4f {T:Env} {fr:List AV} {h:List AB} (str:Bool) (sz:Nat) (d s:Opd):opR T (.cpy str sz d s) fr h=if (s.ev fr).isStr=str then cpyV h sz (d.ev fr) (s.ev fr) else none:=oI rfl
theorem JVs {T:Env} {ev:Opd->AV} (str:Bool) (sz:Nat) (d s:Opd):wsC T ev (.cpy str sz d s)=idOf (ev d):=oI rfl
theorem YFq {h:List AB} {i j:Nat} {s:AV} {bs:List UInt8} {x:RSt} (H:RdH h i j s bs) (L:List AB) (c anc n:Nat) (past:List Pt) (hn:n=h.length+L.length):rdr (qRB (seen (h.length+c) anc past n) [] 0 (rB h i j s x++L)) i=some (j,s,((x.pos:Nat):Int),x.err,x.ea):=by
 have hi:=H.hi
 have hj:=H.hj
 have g1:(qRB (seen (h.length+c) anc past n) [] 0 (rB h i j s x++L))[i]?=some (.blk false false [.p j 0,s,.i .i64 (x.pos:Nat)]):=by
  rw[q3P (z7v (by omega) (by omega)) (by simp),List.getElem?_append_left (by rw[Kz5];exact H.hi),rB_i H]
  rfl
 have g2:zZU (qRB (seen (h.length+c) anc past n) [] 0 (rB h i j s x++L)) j=some [.i .i64 x.err,.i .i64 x.ea]:=by
  rw[Kjc (z7v (by omega) (by omega))]
  unfold zZU
  rw[List.getElem?_append_left (by rw[Kz5];exact H.hj),rB_j H]
 unfold rdr
 simp only[g1,g2]
theorem J8y {B:List AB} {p:Nat} (hp:B.length=p) {xs:List AV} (hx:xs.length=32) (m:Bool) (l:List UInt8) (hl:l.length<=32):cpyV (B++[.blk true true xs,resB X0d m l]) 1 (.sl (p+0) 0 32 32 none) (rsl X0d (p+1) l)=some (.i .i64 l.length,B++[.blk true true (over xs 0 (X0d.cells l)),resB X0d m l]):=by
 subst hp
 have e1:=J8W (h:=B) (r:=X0d) (sz:=1) rfl [.blk true true xs,resB X0d m l] 1 l ⟨m,rfl⟩
 unfold cpyV
 rw[e1]
 simp only[Option.bind_some]
 rw[if_pos hl,K7j,YHg,if_pos ⟨by rw[X0d.cells_len,YPl,hx];omega,qrm l⟩]
 rfl
theorem XA7 (zs l:List AV) (h:l.length=zs.length):over zs 0 l=l:=by
 simp only[over,List.take_zero,List.nil_append,Nat.zero_add]
 rw[List.drop_eq_nil_of_le (by omega),List.append_nil]
theorem YTo {l:List UInt8} (h:l.length=32):(l.map u8A).length=32/\(l.map u8A).take 32=l.map u8A/\(l.map u8A).all (wrOk true)=true/\(∀q,okL q (l.map u8A)=true)/\over (l.map u8A) 0 (l.map u8A)=l.map u8A:=by
 have e:(l.map u8A).length=32:=by rw[List.length_map,h]
 exact ⟨e,List.take_of_length_le (by omega),ZE3 l,fun q=>QMm q l,XA7 _ _ rfl⟩
theorem btD {P:Program} {h:List AB} {i j:Nat} {s:AV} {bs:List UInt8} (H:RdH h i j s bs) (hok:s.ok (fun k=>decide (k<h.length))=true) (hh:HOk h) {x:RSt} {v a:AV} (L:List AB) (e:v=a) (ho:v.ok (fun k=>decide (k<h.length))=true):Bt P h.length [v] (rB h i j s x++L) [a] (rB h i j s x):=by
 have:=Bt.drop (P:=P) (h:=rB h i j s x) (v:=v) (a:=a) L (qMc H hok hh x) e (by rw[Kz5];exact ho)
 rw[Kz5]at this
 exact this
noncomputable def Kuo:List AV->List AB->Option (AV×List AB)
 | [.p i 0],h=>(rdM h i).bind fun y=>if y.2.2.1.length<=1000000 then some (.ag ((rdID y.2.2.1 y.2.2.2).1.map u8A),rB h i y.1 y.2.1 (rdID y.2.2.1 y.2.2.2).2) else none
 | _,_=>none
theorem Zqe:Spec Tryz.prog 208 Kuo:=by
 intro args h v h' e
 unfold Kuo at e
 split at e
 ·rename_i i
  obtain ⟨j,s,bs,n,er,a,hi,hj,H,hn,e⟩:=QN1 e
  split at e
  ·rename_i hlen
   cases e
   refine FnAt.c (FnAt.run (by kernel_rfl) (T:=⟨[⟨268,QCH,fun _=>[]⟩,⟨269,XXc,fun _=>[i,j]⟩],[]⟩) ⟨⟨KbD,qkq,trivial⟩,trivial⟩ Tryz.func208 ZN4 fun ho hh=>?_)
   have hok:=qC8 hh hi
   have e0:h++[]=rB h i j s ⟨n,er,a⟩++[]:=by rw[Y8O hi hj]
   rw[e0]
   dsimp only at hlen ⊢
   have f1:=XLI H hok
   have f2:=XUu H hok
   have f3:=fun L c anc n' past=>Xkg (x:=⟨n,er,a⟩) H hn L c anc n' past
   have f4:=fun x=>qIs (x:=x) H
   have fm:=q0F H hok
   have g2:(bs.length<=1000000)=True:=eq_true hlen
   have f5:=fun L c anc n' past=>YFq (x:=⟨n,er,a⟩) H L c anc n' past
   have mk:=fun (x:RSt) c anc n' past L=>ZDq (h:=rB h i j s x) (p:=h.length) Kz5 c anc n' past [h.length+0] L
   have mg:=fun (x:RSt) G l=>X9V (h:=rB h i j s x) [h.length+0] G l
   obtain ⟨y,hy⟩:∃y,y=qwD bs ⟨n,er,a⟩ 32 (if er=0 then (n:Int) else 0):=⟨_,rfl⟩
   have hr:rdID bs ⟨n,er,a⟩=(if y.1.length=32 then y.1 else List.replicate 32 0,y.2):=by rw[hy];rfl
   have t32:Int.toNat 32=32:=rfl
   have hfz:∀x:RSt,((rB h i j s x).map AB.freeze).length=h.length:=fun x=>by rw[List.length_map,Kz5]
   rw[hr]
   have hol:=Kii bs ⟨n,er,a⟩ 32 (if er=0 then (n:Int) else 0)
   rw[<-hy]at hol
   unfold w208
   rcases hol with hol|hol
   ·have cp:=fun (x:RSt) m (xs:List AV) hx=>J8y (hfz x) (xs:=xs) hx m y.1 (Nat.le_of_eq hol)
    rw[if_pos hol]
    have o1:∀zs:List AV,zs.length=32->over zs 0 (X0d.cells y.1)=y.1.map u8A:=fun zs hz=>by rw[YG4];exact XA7 zs _ (by rw[List.length_map,hol,hz])
    obtain ⟨b1,b2,b3,b4,b5⟩:=YTo hol
    simp only[z49,Qs3,XtK,K1H,JS3,simprocAttr,CO.tmps,Opd.tmps,optT,qRn,qSM,YNH,KMT,XrP,zEY,f1,f2,f3,f4,f5,fm,mk,mg,cp,g2,hfz,o1,b1,b2,b3,b4,b5,<-hy,t32,qNT H hok hh,JW9,qa0,zFS,X4f,JVs,Option.map_none,QCH,XXc,List.getElem?_cons_zero,List.getElem?_cons_succ]
    exact btD H hok hh _ rfl (by rw[JL2];exact b4 _)
   ·have h0:y.1.length<=32:=by rw[hol];exact Nat.zero_le _
    have cp:=fun (x:RSt) m (xs:List AV) hx=>J8y (hfz x) (xs:=xs) hx m y.1 h0
    rw[if_neg (by rw[hol];decide)]
    have o1:∀zs:List AV,over zs 0 (X0d.cells y.1)=zs:=fun zs=>by rw[hol];exact QUA zs
    simp only[z49,Qs3,XtK,K1H,JS3,simprocAttr,CO.tmps,Opd.tmps,optT,qRn,qSM,YNH,KMT,XrP,zEY,f1,f2,f3,f4,f5,fm,mk,mg,cp,g2,hfz,o1,<-hy,t32,qNT H hok hh,JW9,qa0,zFS,X4f,JVs,Option.map_none,QCH,XXc,List.getElem?_cons_zero,List.getElem?_cons_succ]
    exact btD H hok hh _ rfl rfl
  ·cases e
 ·cases e
end
section
set_option maxRecDepth 100000
set_option maxHeartbeats 4000000
theorem JXB {P:Program} {h:List AB} {i j:Nat} {s:AV} {bs:List UInt8} (H:RdH h i j s bs) (hok:s.ok (fun k=>decide (k<h.length))=true) (hh:HOk h) {x:RSt} {l l':List AB} {fr fr':List AV} (sel:List Nat) (hnd:sel.Nodup) (hb:BlkSel h.length sel sel.length l sel l') (hfr:FrSel h.length sel sel.length fr fr'):Bt P h.length fr (rB h i j s x++l) fr' (rB h i j s x++l'):=by
 have:=Bt.sel (P:=P) (h:=rB h i j s x) (l:=l) (l':=l') (fr:=fr) (fr':=fr') sel (qMc H hok hh x) hnd (by rw[Kz5];exact hb) (by rw[Kz5];exact hfr)
 rw[Kz5]at this
 exact this
end
section
set_option maxRecDepth 100000
set_option maxHeartbeats 4000000
theorem WkL.refl:∀l:List AV,WkL l l
 | []=>trivial
 | a::l=>⟨Wk.refl a,WkL.refl l⟩
end
section
set_option maxRecDepth 100000
set_option maxHeartbeats 4000000
theorem zg2 {T:Env} {fr:List AV} {h:List AB} (x:Opd) (t:TypeId) (ok:Bool) (z:AV):opR T (.tas x t ok z) fr h=(match x.ev fr with
  | .ifc t' v=>if t'=t then some (if ok=true then .tu [v,.b true] else v,h) else if ok=true then some (.tu [z,.b false],h) else none
  | .ni=>if ok=true then some (.tu [z,.b false],h) else none
  | _=>none):=by
 simp only[opR,CO.isCall,CO.run]
 cases x.ev fr <;> rfl
theorem XHr {T:Env} {fr:List AV} {h:List AB} (t:TypeId) (x:Opd):opR T (.ifc t x) fr h=some (.ifc t (x.ev fr),h):=oI rfl
theorem Y3v (x:Int):IntKind.u8.wrap x=((UInt8.ofInt x).toNat:Int):=by
 rw[IntKind.wrap_u8,qTL]
theorem ZcP (x:Int):AV.i .u8 (IntKind.u8.wrap x)=u8A (UInt8.ofInt x):=by rw[Y3v];rfl
theorem Xhc (b:UInt8):(u8A b).one=true:=oI rfl
theorem QpM (b:UInt8):(u8A b).known=true:=oI rfl
theorem q9E (b:UInt8):(u8A b).cells=[u8A b]:=oI rfl
theorem Qn4 (b:UInt8):(u8A b).flat=true:=oI rfl
theorem QAA (b:UInt8):wrOk true (u8A b)=true:=oI rfl
def Xyh (n:Int) (k:Nat):List UInt8:=UInt8.ofInt (191+KyO n)::(List.range k).map (J8Z n (KyO n))
theorem Zdh (n:Int) (k:Nat):Xyh n (k+1)=Xyh n k++[J8Z n (KyO n) k]:=by
 unfold Xyh
 rw[List.range_succ,List.map_append]
 rfl
theorem Y4d (n:Int) (k:Nat):(Xyh n k).length=k+1:=by simp [Xyh]
instance (n:Int):Decidable (In64 n):=by unfold In64;infer_instance
noncomputable def YCh:List AV->List AB->Option (AV×List AB)
 | [.ns,.ifc ty (.i .i64 n)],h=>if ty=3/\In64 n then some (.tu [apS X0d h.length (qkv n),.b (decide (0<=n))],h++[resB X0d true (qkv n)]) else none
 | _,_=>none
theorem qiF:Spec Tryz.prog 257 YCh:=by
 intro args h v h' e
 unfold YCh at e
 split at e
 ·rename_i ty n
  split at e
  ·rename_i hty
   obtain ⟨rfl,hn⟩:=hty
   cases e
   refine FnAt.c (FnAt.run (by kernel_rfl) (T:=⟨[⟨267,X2a,fun _=>[]⟩],[]⟩) ⟨⟨KEp,trivial⟩,trivial⟩ Tryz.func257 YvR fun ho hh=>?_)
   unfold w257
   have z3:(1*1<=140737488355328/\1<=maxLen)=True:=eq_true ⟨by decide,by unfold maxLen;omega⟩
   have sb:=qcd n
   by_cases g1:KyO n=0
   ·have g1':((KyO n:Int)=0)=True:=eq_true (by omega)
    have he:qkv n=[UInt8.ofInt n]:=by unfold qkv;rw[if_pos g1]
    rw[he]
    simp only[z49,Qs3,XtK,K1H,JS3,simprocAttr,CO.tmps,Opd.tmps,optT,zg2,XHr,X2a,g1',ZcP,Xhc,QpM,q9E,QAA,Qn4,Zto,ZTi,z3]
    exact Bt.sel [1] hh (by decide) (by simp only[Ztz,FrSel,BlkSel,AV.ren,renL,AV.ok,okL,Option.some.injEq,exists_eq_left',List.length_cons,List.length_nil,Nat.reduceAdd,Nat.reduceLT,reduceCtorEq,implies_true,exists_eq',Qmm,qrk]) (by simp only[Ztz,FrSel,BlkSel,AV.ren,renL,AV.ok,okL,Option.some.injEq,exists_eq_left',List.length_cons,List.length_nil,Nat.reduceAdd,Nat.reduceLT,reduceCtorEq,implies_true,exists_eq',Jkk,YPl])
   ·have g1':((KyO n:Int)=0)=False:=eq_false (by omega)
    have he:qkv n=Xyh n (KyO n):=by unfold qkv;rw[if_neg g1];rfl
    have hp:0<=n:=by
     have:¬n<192:=fun q=>g1 (by unfold KyO;rw[if_pos q])
     omega
    have e1:IntKind.i64.wrap (191+(KyO n:Int))=191+(KyO n:Int):=Q7p (by unfold In64;omega)
    have e2:IntKind.i64.wrap ((KyO n:Int)-1)=(KyO n:Int)-1:=Q7p (by unfold In64;omega)
    rw[he]
    simp only[z49,Qs3,XtK,K1H,JS3,simprocAttr,CO.tmps,Opd.tmps,optT,zg2,XHr,X2a,g1',e1,ZcP,Xhc,QpM,q9E,QAA,Qn4,Zto,ZTi,z3]
    refine JLk (S:=Nat) (fun k=>KyO n-k) (fun k=>[apS X0d (h.length+0) (Xyh n k)]++tp 5++[.i .i64 n,.i .i64 (KyO n)]++tp 30++[.i .i64 (KyO n),.i .i64 k]++tp 117) (fun k=>h++[resB X0d true (Xyh n k)]) (fun k=>k<=KyO n) 0 (Nat.zero_le _) ?_ fun k hk=>?_
    ·simp only[show Xyh n 0=[UInt8.ofInt (191+KyO n)] from rfl,Jkk,Qmm,qrk]
     exact Bt.sel [1] hh (by decide) (by simp only[Ztz,FrSel,BlkSel,AV.ren,renL,AV.ok,okL,Option.some.injEq,exists_eq_left',List.length_cons,List.length_nil,Nat.reduceAdd,Nat.reduceLT,reduceCtorEq,implies_true,exists_eq']) (by simp only[tp_0,tp_s,J5y,Q2P,Int.natCast_zero,Ztz,FrSel,BlkSel,AV.ren,renL,AV.ok,okL,Option.some.injEq,exists_eq_left',List.length_cons,List.length_nil,Nat.reduceAdd,Nat.reduceLT,reduceCtorEq,implies_true,exists_eq',YPl])
    ·by_cases gi:k<KyO n
     ·have gi':((k:Int)<(KyO n:Int))=True:=eq_true (by omega)
      have q1:IntKind.i64.wrap ((k:Int)+1)=((k+1:Nat):Int):=Q7p (by unfold In64;omega)
      have q2:IntKind.i64.wrap ((KyO n:Int)-1-(k:Int))=((KyO n-1-k:Nat):Int):=by
       rw[show (KyO n:Int)-1-(k:Int)=((KyO n-1-k:Nat):Int) by omega]
       exact Q7p (by unfold In64;omega)
      have q3:IntKind.i64.wrap (8*((KyO n-1-k:Nat):Int))=((8*(KyO n-1-k):Nat):Int):=by
       rw[Int.natCast_mul]
       exact Q7p (by unfold In64;omega)
      have q4:min (8*(KyO n-1-k)) 64=8*(KyO n-1-k):=by omega
      have q5:Int.fdiv n (2 ^ (8*(KyO n-1-k)))=n / 2 ^ (8*(KyO n-1-k)):=Int.fdiv_eq_ediv_of_nonneg _ (Int.le_of_lt (Int.pow_pos (by decide)))
      have hB:(Xyh n k).length≠0:=by rw[Y4d];omega
      have gr:∀id,apS X0d id (Xyh n k)=rsl X0d id (Xyh n k):=fun id=>JgW _ hB
      have lo:=Y4d n k
      have fa:=fun L j ys hb=>K0E (h:=h) (p:=h.length) rfl (r:=X0d) (sz:=1) rfl L j (Xyh n k) 1 1 ys hB hb (by decide) (by omega) (by unfold maxLen;omega)
      simp only[gr,XtK,K1H,JS3,simprocAttr,CO.tmps,Opd.tmps,optT,gi',q1,e2,q2,q3,q4,q5,KxK,qfj,zZJ,ZcP,Xhc,QpM,q9E,QAA,Qn4,Zto,fa]
      refine ⟨k+1,gi,by dsimp only;omega,?_⟩
      have hst:apS X0d (h.length+0) (Xyh n (k+1))=.sl (h.length+0) 0 ((Xyh n k).length+1) ((Xyh n k).length+1) (some 1):=by rw[Zdh,K2H,YPl]
      have hst2:resB X0d true (Xyh n (k+1))=.blk true true (X0d.cells (Xyh n k)++[u8A (J8Z n (KyO n) k)]):=by rw[Zdh,zKv,qrk]
      simp only[hst,hst2]
      exact Bt.sel [2] hh (by decide) (by simp only[Ztz,FrSel,BlkSel,AV.ren,renL,AV.ok,okL,Option.some.injEq,exists_eq_left',List.length_cons,List.length_nil,Nat.reduceAdd,Nat.reduceLT,reduceCtorEq,implies_true,exists_eq',J8Z]) (by simp only[Ztz,FrSel,BlkSel,AV.ren,renL,AV.ok,okL,Option.some.injEq,exists_eq_left',List.length_cons,List.length_nil,Nat.reduceAdd,Nat.reduceLT,reduceCtorEq,implies_true,exists_eq'])
     ·obtain rfl:k=KyO n:=by omega
      have gi':((KyO n:Int)<(KyO n:Int))=False:=eq_false (by omega)
      have gp:=eq_true hp
      simp only[XtK,K1H,JS3,simprocAttr,CO.tmps,Opd.tmps,optT,gi']
      exact Bt.eq (by rw[decide_eq_true hp];rfl) rfl
  ·cases e
 ·cases e
end
section
set_option maxRecDepth 100000
set_option maxHeartbeats 4000000
theorem Bt.selMd {P:Program} {h g l l':List AB} {fr fr':List AV} (sel:List Nat) (hlen:g.length=h.length) (hold:∀(i:Nat) B',g[i]?=some B'->(h[i]?=some B'/\B'.ok (fun i=>decide (i<h.length))=true)\/(∃B,h[i]?=some B/\BWk (fun i=>decide (i<h.length+sel.length)) (selN h.length sel) B' B)) (hnd:sel.Nodup) (hb:BlkSel h.length sel sel.length l sel l') (hfr:FrSel h.length sel sel.length fr fr'):Bt P h.length fr (h++l) fr' (g++l'):=by
 intro ρ w cs hp r v
 obtain ⟨b1,b2⟩:=hb.get
 obtain ⟨f1,f2⟩:=hfr.get
 have hlt:∀(i k:Nat),sel[i]?=some k->k<l.length:=fun i k hk=>by
  have hi:i<l'.length:=by rw[b1];exact (List.getElem?_eq_some_iff.1 hk).1
  obtain ⟨k',B,q1,q2,_⟩:=b2 i l'[i] (List.getElem?_eq_getElem hi)
  rw[hk]at q1
  cases q1
  exact (List.getElem?_eq_some_iff.1 q2).1
 have hρ:=r.len
 rw[List.length_append]at hρ
 let ρ':Mp:=ρ.take h.length++sel.map fun k=>ρ.getD (h.length+k) (0,0,0)
 have old:∀i,i<h.length->ρ'[i]?=ρ[i]?:=fun i hi=>by
  simp only[ρ']
  rw[List.getElem?_append_left (by rw[List.length_take];omega),List.getElem?_take,if_pos hi]
 have new:∀i k,sel[i]?=some k->ρ'[h.length+i]?=ρ[h.length+k]?:=fun i k hk=>by
  have:=hlt i k hk
  simp only[ρ']
  rw[List.getElem?_append_right (by rw[List.length_take];omega),List.length_take,show h.length+i-min h.length ρ.length=i by omega,List.getElem?_map,hk,Option.map_some,List.getD_eq_getElem?_getD,List.getElem?_eq_getElem (by omega:h.length+k<ρ.length)]
  rfl
 have hq:∀i,(fun i=>decide (i<h.length+sel.length)) i=true->ρ'[i]?=ρ[selN h.length sel i]?:=fun i hi=>by
  by_cases h1:i<h.length
  ·rw[qMB h1,old i h1]
  ·obtain ⟨k,rfl⟩:∃k,i=h.length+k:=⟨i-h.length,by omega⟩
   have hk:k<sel.length:=by simp only[decide_eq_true_eq]at hi;omega
   rw[qtm,List.getD_eq_getElem?_getD,List.getElem?_eq_getElem hk]
   exact new k _ (List.getElem?_eq_getElem hk)
 have cls:∀i B',(g++l')[i]?=some B'->(i<h.length/\h[i]?=some B'/\B'.ok (fun i=>decide (i<h.length))=true)\/(∃j B,(h++l)[j]?=some B/\ρ'[i]?=ρ[j]?/\((i<h.length/\j=i)\/(∃i' k,i=h.length+i'/\sel[i']?=some k/\j=h.length+k))/\BWk (fun i=>decide (i<h.length+sel.length)) (selN h.length sel) B' B):=fun i B' hB=>by
  rw[List.getElem?_append]at hB
  split at hB
  ·rename_i hlt'
   rw[hlen]at hlt'
   rcases hold i B' hB with ⟨q,qo⟩|⟨B,q,qb⟩
   ·exact .inl ⟨hlt',q,qo⟩
   ·exact .inr ⟨i,B,by rw[List.getElem?_append_left hlt'];exact q,old i hlt',.inl ⟨hlt',rfl⟩,qb⟩
  ·rename_i hge
   rw[hlen]at hge hB
   obtain ⟨k,B,q1,q2,q3⟩:=b2 _ B' hB
   refine .inr ⟨h.length+k,B,?_,?_,.inr ⟨i-h.length,k,by omega,q1,rfl⟩,q3⟩
   ·rw[List.getElem?_append_right (by omega),Nat.add_sub_cancel_left]
    exact q2
   ·have:=new _ k q1
    rw[show h.length+(i-h.length)=i by omega]at this
    exact this
 have up:∀i B' x,(g++l')[i]?=some B'->ρ'[i]?=some x->∃j B,(h++l)[j]?=some B/\ρ[j]?=some x/\(B'.mut=true->B.mut=true)/\(B'.live=true->B.live=true)/\((i<h.length/\j=i)\/(∃i' k,i=h.length+i'/\sel[i']?=some k/\j=h.length+k)):=fun i B' x hB hx=>by
  rcases cls i B' hB with ⟨hi,q,_⟩|⟨j,B,q1,q2,q3,q4⟩
  ·exact ⟨i,B',by rw[List.getElem?_append_left hi];exact q,by rw[<-old i hi];exact hx,id,id,.inl ⟨hi,rfl⟩⟩
  ·exact ⟨j,B,q1,by rw[<-q2];exact hx,q4.mut,q4.live,q3⟩
 refine ⟨by rw[List.length_append,b1,hlen];omega,ρ',⟨f1.trans v.1,fun j a' c ha hc=>?_⟩,⟨?_,fun i B' b o n hB hx=>?_,fun i j bi oi bj oj Bi Bj hne h1 h2 h3 h4 hm hl=>?_,r.gl.sub fun b ⟨i,B',o,h1,h2,h3⟩=>by
  obtain ⟨i',C,u1,u2,u3,_,_⟩:=up i B' _ h1 h3
  exact ⟨i',C,o,u1,u3 h2,u2⟩⟩,fun b ⟨i,B',o,h1,h2,h3⟩=>?_,fun i b ⟨B',o,h1,h2,h3⟩=>?_,fun i hi=>?_⟩
 ·rcases f2 j a' ha with rfl|⟨q1,a,q2,q3⟩
  ·exact .top c
  ·exact VR.ren_down hq a' q1 c (q3 ρ c (v.2 j a c q2 hc))
 ·simp only[ρ',List.length_append,List.length_take,List.length_map,b1,hlen]
  omega
 ·rcases cls i B' hB with ⟨hi,q,qo⟩|⟨j,B,q1,q2,q3,q4⟩
  ·have:=r.blk i B' b o n (by rw[List.getElem?_append_left hi];exact q) (by rw[<-old i hi];exact hx)
   exact this.agree (q:=fun i=>decide (i<h.length)) (fun i hi=>old i (by simpa using hi)) qo (fun _=>rfl)
  ·exact q4.br hq (r.blk _ B b o n q1 (by rw[<-q2];exact hx))
 ·obtain ⟨i',Ci,u1,u2,u3,_,u5⟩:=up i Bi _ h1 h3
  obtain ⟨j',Cj,z1,z2,_,z4,z5⟩:=up j Bj _ h2 h4
  refine r.sep i' j' bi oi bj oj Ci Cj (fun e=>hne ?_) u1 z1 u2 z2 (u3 hm) (z4 hl)
  subst e
  rcases u5 with ⟨x1,x2⟩|⟨s,k,x1,x2,x3⟩ <;> rcases z5 with ⟨y1,y2⟩|⟨t,m,y1,y2,y3⟩
  ·omega
  ·omega
  ·omega
  ·have:k=m:=by omega
   subst this
   have:=(List.getElem?_inj (List.getElem?_eq_some_iff.1 x2).1 hnd).1 (x2.trans y2.symm)
   omega
 ·obtain ⟨j,B,q1,q2,q3,_,_⟩:=up i B' _ h1 h3
  exact ⟨j,B,o,q1,q3 h2,q2⟩
 ·obtain ⟨j,B,q1,q2,_,q4,q5⟩:=up i B' _ h1 h3
  refine ⟨j,⟨B,o,q1,q4 h2,q2⟩,fun hi=>?_,fun hi=>?_⟩
  ·rcases q5 with ⟨_,x⟩|⟨s,k,x,y,z⟩
   ·exact x
   ·omega
  ·rcases q5 with ⟨x,_⟩|⟨s,k,z,y,x⟩
   ·omega
   ·omega
 ·exact old i hi
end
section
set_option maxRecDepth 100000
set_option maxHeartbeats 4000000
open Classical in
noncomputable def qIH (a:AV):Option Dg:=if e:∃y,a=.ag (idR.f y) then some e.choose else none
theorem KVT (y:Dg):qIH (.ag (idR.f y))=some y:=by
 unfold qIH
 have hx:∃z,AV.ag (idR.f y)=.ag (idR.f z):=⟨y,rfl⟩
 rw[dif_pos hx]
 have:=hx.choose_spec
 injection this with h
 rw[idR.inj _ _ h.symm]
theorem Jib {a:AV} {y:Dg} (e:qIH a=some y):a=.ag (idR.f y):=by
 unfold qIH at e
 split at e
 ·rename_i h
  cases e
  exact h.choose_spec
 ·cases e
noncomputable def encV (ty:TypeId) (v:AV):Option (List UInt8×Bool):=
 if ty=3 then (match v with
  | .i .i64 n=>if In64 n then some (qkv n,decide (0<=n)) else none
  | _=>none)
 else if ty=9 then (match v with
  | .s l=>if l.length<=1000000 then some (qkv l.length++l,true) else none
  | _=>none)
 else if ty=42 then (qIH v).map fun d=>(d.l,true)
 else none
noncomputable def XJM:List AV->List AB->Option (AV×List AB)
 | [.ns,.ifc ty v],h=>(encV ty v).map fun p=>(.tu [apS X0d h.length p.1,.b p.2],h++[resB X0d true p.1])
 | _,_=>none
theorem Zuh (l:List UInt8):(AV.s l).isStr=true:=oI rfl
theorem qZq (l:List UInt8):lenV (.s l)=some (l.length:Int):=oI rfl
theorem zRz (h:List AB) (l:List UInt8):srcV h 1 (.s l)=some (l.length,X0d.cells l):=by
 rw[YG4]
 rfl
theorem zUV {r:Row UInt8} (id:Nat) {l m:List UInt8} (h0:l.length≠0):apS r id (l++m)=.sl id 0 (l.length+m.length) (l.length+m.length) (some r.sz):=by
 unfold apS
 rw[if_neg (by rw[List.length_append];omega),List.length_append]
theorem zP9 {l m:List UInt8} (h0:l.length≠0):resB X0d true (l++m)=.blk true true (X0d.cells l++X0d.cells m):=by
 unfold resB
 rw[if_neg (by rw[List.length_append];omega)]
 simp only[Row.cells,List.flatMap_append]
theorem YHu (n:Int):(qkv n).length≠0:=by
 unfold qkv
 split <;> simp
theorem XEC:Spec Tryz.prog 257 XJM:=by
 intro args h v h' e
 unfold XJM at e
 split at e
 ·rename_i ty x
  obtain ⟨p,hp,e⟩:=Option.map_eq_some_iff.1 e
  cases e
  unfold encV at hp
  split at hp
  ·rename_i ht
   split at hp
   ·rename_i n
    split at hp
    ·rename_i hn
     cases hp
     exact qiF _ _ _ _ (if_pos ⟨ht,hn⟩)
    ·cases hp
   ·cases hp
  split at hp
  ·rename_i ht
   subst ht
   split at hp
   ·rename_i l
    split at hp
    ·rename_i hl
     cases hp
     refine FnAt.c (FnAt.run (by kernel_rfl) (T:=⟨[⟨257,YCh,fun _=>[]⟩],[]⟩) ⟨⟨qiF,trivial⟩,trivial⟩ Tryz.func257 YvR fun ho hh=>?_)
     have w1:(In64 (l.length:Int))=True:=eq_true (by unfold In64;omega)
     have fs:=fun (L:List AB)=>zRz (h++L) l
     have gr:∀id,apS X0d id (qkv l.length)=rsl X0d id (qkv l.length):=fun id=>JgW _ (YHu _)
     unfold w257
     by_cases h0:l=[]
     ·have fz:∀H id ys,appW H true 1 1 (apS X0d id (qkv l.length)) l.length ys=some (apS X0d id (qkv l.length),H):=fun H id ys=>by
       rw[h0]
       rfl
      simp only[z49,Qs3,XtK,K1H,JS3,simprocAttr,CO.tmps,Opd.tmps,optT,zg2,XHr,YCh,w1,fs,Zuh,qZq,qrm,fz]
      exact Bt.eq (by rw[h0,List.append_nil];rfl) (by rw[h0,List.append_nil])
     ·have hl0:l.length≠0:=fun q=>h0 (List.eq_nil_of_length_eq_zero q)
      have el:=zHu l.length
      have fa:=fun L k ys hb=>K0E (h:=h) (p:=h.length) rfl (r:=X0d) (sz:=1) rfl L k (qkv l.length) 1 l.length ys (YHu _) hb hl0 (by omega) (by unfold maxLen;omega)
      simp only[z49,Qs3,XtK,K1H,JS3,simprocAttr,CO.tmps,Opd.tmps,optT,zg2,XHr,YCh,w1,fs,Zuh,qZq,gr,fa,qrm]
      have hst:=fun id=>zUV (r:=X0d) id (l:=qkv l.length) (m:=l) (YHu _)
      have hst2:=zP9 (l:=qkv l.length) (m:=l) (YHu _)
      simp only[hst,hst2]
      exact Bt.sel [1] hh (by decide) (by simp only[Ztz,FrSel,BlkSel,AV.ren,renL,AV.ok,okL,Option.some.injEq,exists_eq_left',List.length_cons,List.length_nil,Nat.reduceAdd,Nat.reduceLT,reduceCtorEq,implies_true,exists_eq']) ⟨.inr ⟨by simp only[Ztz,FrSel,BlkSel,AV.ren,renL,AV.ok,okL,Option.some.injEq,exists_eq_left',List.length_cons,List.length_nil,Nat.reduceAdd,Nat.reduceLT,reduceCtorEq,implies_true,exists_eq'],by simp only[Ztz,FrSel,BlkSel,AV.ren,renL,AV.ok,okL,Option.some.injEq,exists_eq_left',List.length_cons,List.length_nil,Nat.reduceAdd,Nat.reduceLT,reduceCtorEq,implies_true,exists_eq',YPl]⟩,trivial⟩
    ·cases hp
   ·cases hp
  split at hp
  ·rename_i ht
   subst ht
   obtain ⟨d,hd,hp⟩:=Option.map_eq_some_iff.1 hp
   cases hp
   rw[Jib hd]
   refine FnAt.c (FnAt.run (by kernel_rfl) (T:=⟨[],[]⟩) ⟨trivial,trivial⟩ Tryz.func257 YvR fun ho hh=>?_)
   obtain ⟨b1,b2,b3,b4,b5⟩:=YTo d.h
   rw[show d.l.map u8A=idR.f d from rfl]at *
   have o1:∀zs:List AV,zs.length=32->over zs 0 (idR.f d)=idR.f d:=fun zs hz=>XA7 zs _ (b1.trans hz.symm)
   have z3:(32*1<=140737488355328/\32<=maxLen)=True:=eq_true ⟨by decide,by unfold maxLen;omega⟩
   have hl0:d.l.length≠0:=by rw[d.h];decide
   have hst:∀id,apS X0d id d.l=.sl id 0 32 32 (some 1):=fun id=>by unfold apS;rw[if_neg hl0,d.h];rfl
   have hst2:resB X0d true d.l=.blk true true (idR.f d):=by unfold resB;rw[if_neg hl0,YG4];rfl
   unfold w257
   simp only[z49,Qs3,XtK,K1H,JS3,simprocAttr,CO.tmps,Opd.tmps,optT,zg2,XHr,qa0,zFS,Option.map_none,b1,b2,b3,b4,b5,o1,z3]
   simp only[hst,hst2]
   exact Bt.sel [1] hh (by decide) (by simp only[Ztz,FrSel,BlkSel,AV.ren,renL,AV.ok,okL,Option.some.injEq,exists_eq_left',List.length_cons,List.length_nil,Nat.reduceAdd,Nat.reduceLT,reduceCtorEq,implies_true,exists_eq']) ⟨.inr ⟨by simp only[Ztz,FrSel,BlkSel,AV.ren,renL,AV.ok,okL,Option.some.injEq,exists_eq_left',List.length_cons,List.length_nil,Nat.reduceAdd,Nat.reduceLT,reduceCtorEq,implies_true,exists_eq'],by simp only[Ztz,FrSel,BlkSel,AV.ren,renL,AV.ok,okL,Option.some.injEq,exists_eq_left',List.length_cons,List.length_nil,Nat.reduceAdd,Nat.reduceLT,reduceCtorEq,implies_true,exists_eq',YPl]⟩,trivial⟩
  ·cases hp
 ·cases e
end
end Go.Proofs.YtekeoichmdiiiaaGreat
