/- Part 21 of what the laws' proofs rest on. No condition. -/
import Derived.Test.YtebcngelgdpbjaaGreatGq20
set_option linter.all false
namespace Go.Proofs.YtebcngelgdpbjaaGreat
section
set_option maxRecDepth 100000
set_option maxHeartbeats 4000000
def Q0m:List AV->List AB->Option (AV×List AB)
 | [.i .i64 e,.i .i64 a],h=>some (.ag [.i .i64 e,.i .i64 a],h)
 | _,_=>none
theorem XND:Spec Tryz.prog 132 Q0m:=by
 intro args h v h' e
 unfold Q0m at e
 split at e
 ·rename_i x a
  cases e
  refine FnAt.c (FnAt.run (by kernel_rfl) (T:=⟨[],[]⟩) ⟨trivial,trivial⟩ Tryz.func132 QbJ fun ho hh=>?_)
  unfold w132
  simp only[QhU,YqB,z16,KHD,Xq6,simprocAttr,CO.tmps,Opd.tmps,optT]
  exact Bt.drop _ hh rfl rfl
 ·cases e
def zeR (b:List UInt8):Int:=if b.length=0 then 47 else (b.getD (b.length-1) 0).toNat
def Yxb (b:List UInt8):Int:=if b.length<=1 then 47 else (b.getD (b.length-2) 0).toNat
def Z3m (l a c:Int):Prop:=lowP c\/(¬(l=47\/l=46)/\((lowP l/\(c=46\/c=95\/c=45\/c=47))\/(¬lowP l/\((l=95/\c=95/\a≠95)\/(l≠95/\c=45)))))
instance (l a c:Int):Decidable (Z3m l a c):=by unfold Z3m;infer_instance
theorem emT (p:Prop):(p/\p=True)\/(¬p/\p=False):=by
 by_cases h:p
 ·exact .inl ⟨h,eq_true h⟩
 ·exact .inr ⟨h,eq_false h⟩
noncomputable def XiT:List AV->List AB->Option (AV×List AB)
 | [.s b,.i .i32 c],h=>if b.length<=1000000 then some (.b (decide (Z3m (zeR b) (Yxb b) c)),h) else none
 | _,_=>none
theorem J70 {L:Int} (h1:0<=L) (h2:L<=255):IntKind.i32.wrap L=L:=IntWalk.i32_in _ (by omega)
theorem QnJ:Spec Tryz.prog 133 XiT:=by
 intro args h v h' e
 unfold XiT at e
 split at e
 ·rename_i b c
  split at e
  ·rename_i hs
   cases e
   refine FnAt.c (FnAt.run (by kernel_rfl) (T:=⟨[⟨134,XmB,fun _=>[]⟩],[]⟩) ⟨⟨KTC,trivial⟩,trivial⟩ Tryz.func133 qAo fun ho hh=>?_)
   unfold w133
   have e32:∀L:Int,0<=L->L<=255->IntKind.i32.wrap L=L:=fun L h1 h2=>J70 h1 h2
   have eI:∀k x,(AV.i k x).int?=some x:=fun _ _=>rfl
   by_cases n2:1<b.length
   ·have n2':((1:Int)<(b.length:Int))=True:=eq_true (by omega)
    have n1':((0:Int)<(b.length:Int))=True:=eq_true (by omega)
    have w1:IntKind.i64.wrap ((b.length:Int)-1)=((b.length-1:Nat):Int):=by rw[ZWm (by unfold In64;omega)];omega
    have w2:IntKind.i64.wrap ((b.length:Int)-2)=((b.length-2:Nat):Int):=by rw[ZWm (by unfold In64;omega)];omega
    have x1:=QDA (l:=b) (n:=b.length-1) .i64 (by omega)
    have x2:=QDA (l:=b) (n:=b.length-2) .i64 (by omega)
    have hL:zeR b=((b.getD (b.length-1) 0).toNat:Int):=by unfold zeR;rw[if_neg (by omega)]
    have hA:Yxb b=((b.getD (b.length-2) 0).toNat:Int):=by unfold Yxb;rw[if_neg (by omega)]
    have bL:(0:Int)<=((b.getD (b.length-1) 0).toNat:Int)/\((b.getD (b.length-1) 0).toNat:Int)<=255:=⟨by omega,by have:=(b.getD (b.length-1) 0).toNat_lt;omega⟩
    rw[hL,hA]
    generalize ((b.getD (b.length-1) 0).toNat:Int)=L at *
    generalize ((b.getD (b.length-2) 0).toNat:Int)=A at *
    have e32:=e32 L bL.1 bL.2
    by_cases c1:lowP c
    ·simp only[QhU,YqB,z16,KHD,Xq6,simprocAttr,CO.tmps,Opd.tmps,optT,zFg,JaZ,XPB,XmB,e32,n1',n2',w1,w2,x1,x2,eI,decide_true,decide_false,ne_eq,not_false_eq_true,not_true_eq_false,false_implies,forall_const,and_true,true_and,eq_true c1]
     (first|exact Bt.dropB _ hh (decide_eq_true (by unfold Z3m lowP at *;omega)).symm|exact Bt.dropB _ hh (decide_eq_false (by unfold Z3m lowP at *;omega)).symm)
    by_cases c2:L=47
    ·subst c2
     simp only[QhU,YqB,z16,KHD,Xq6,simprocAttr,CO.tmps,Opd.tmps,optT,zFg,JaZ,XPB,XmB,e32,n1',n2',w1,w2,x1,x2,eI,decide_true,decide_false,ne_eq,not_false_eq_true,not_true_eq_false,false_implies,forall_const,and_true,true_and,eq_false c1]
     (first|exact Bt.dropB _ hh (decide_eq_true (by unfold Z3m lowP at *;omega)).symm|exact Bt.dropB _ hh (decide_eq_false (by unfold Z3m lowP at *;omega)).symm)
    by_cases c3:L=46
    ·subst c3
     simp only[QhU,YqB,z16,KHD,Xq6,simprocAttr,CO.tmps,Opd.tmps,optT,zFg,JaZ,XPB,XmB,e32,n1',n2',w1,w2,x1,x2,eI,decide_true,decide_false,ne_eq,not_false_eq_true,not_true_eq_false,false_implies,forall_const,and_true,true_and,eq_false c1]
     (first|exact Bt.dropB _ hh (decide_eq_true (by unfold Z3m lowP at *;omega)).symm|exact Bt.dropB _ hh (decide_eq_false (by unfold Z3m lowP at *;omega)).symm)
    by_cases c4:lowP L
    ·rcases emT (c=46) with ⟨d5,c5⟩|⟨d5,c5⟩ <;> rcases emT (c=95) with ⟨d6,c6⟩|⟨d6,c6⟩ <;> rcases emT (c=45) with ⟨d7,c7⟩|⟨d7,c7⟩ <;> rcases emT (c=47) with ⟨d8,c8⟩|⟨d8,c8⟩ <;>
      (simp only[QhU,YqB,z16,KHD,Xq6,simprocAttr,CO.tmps,Opd.tmps,optT,zFg,JaZ,XPB,XmB,e32,n1',n2',w1,w2,x1,x2,eI,decide_true,decide_false,ne_eq,not_false_eq_true,not_true_eq_false,false_implies,forall_const,and_true,true_and,eq_false c1,eq_false c2,eq_false c3,eq_true c4,c5,c6,c7,c8];(first|exact Bt.dropB _ hh (decide_eq_true (by unfold Z3m lowP at *;omega)).symm|exact Bt.dropB _ hh (decide_eq_false (by unfold Z3m lowP at *;omega)).symm))
    by_cases c5:L=95
    ·rcases emT (c=95) with ⟨d6,c6⟩|⟨d6,c6⟩ <;> rcases emT (A=95) with ⟨d7,c7⟩|⟨d7,c7⟩ <;>
      (simp only[QhU,YqB,z16,KHD,Xq6,simprocAttr,CO.tmps,Opd.tmps,optT,zFg,JaZ,XPB,XmB,e32,n1',n2',w1,w2,x1,x2,eI,decide_true,decide_false,ne_eq,not_false_eq_true,not_true_eq_false,false_implies,forall_const,and_true,true_and,eq_false c1,eq_false c2,eq_false c3,eq_false c4,eq_true c5,c6,c7];(first|exact Bt.dropB _ hh (decide_eq_true (by unfold Z3m lowP at *;omega)).symm|exact Bt.dropB _ hh (decide_eq_false (by unfold Z3m lowP at *;omega)).symm))
    rcases emT (c=45) with ⟨d6,c6⟩|⟨d6,c6⟩ <;>
     (simp only[QhU,YqB,z16,KHD,Xq6,simprocAttr,CO.tmps,Opd.tmps,optT,zFg,JaZ,XPB,XmB,e32,n1',n2',w1,w2,x1,x2,eI,decide_true,decide_false,ne_eq,not_false_eq_true,not_true_eq_false,false_implies,forall_const,and_true,true_and,eq_false c1,eq_false c2,eq_false c3,eq_false c4,eq_false c5,c6];(first|exact Bt.dropB _ hh (decide_eq_true (by unfold Z3m lowP at *;omega)).symm|exact Bt.dropB _ hh (decide_eq_false (by unfold Z3m lowP at *;omega)).symm))
   ·by_cases n1:0<b.length
    ·have n2':((1:Int)<(b.length:Int))=False:=eq_false (by omega)
     have n1':((0:Int)<(b.length:Int))=True:=eq_true (by omega)
     have w1:IntKind.i64.wrap ((b.length:Int)-1)=((b.length-1:Nat):Int):=by rw[ZWm (by unfold In64;omega)];omega
     have x1:=QDA (l:=b) (n:=b.length-1) .i64 (by omega)
     have hL:zeR b=((b.getD (b.length-1) 0).toNat:Int):=by unfold zeR;rw[if_neg (by omega)]
     have hA:Yxb b=47:=by unfold Yxb;rw[if_pos (by omega)]
     have bL:(0:Int)<=((b.getD (b.length-1) 0).toNat:Int)/\((b.getD (b.length-1) 0).toNat:Int)<=255:=⟨by omega,by have:=(b.getD (b.length-1) 0).toNat_lt;omega⟩
     rw[hL,hA]
     generalize ((b.getD (b.length-1) 0).toNat:Int)=L at *
     have e32:=e32 L bL.1 bL.2
     by_cases c1:lowP c
     ·simp only[QhU,YqB,z16,KHD,Xq6,simprocAttr,CO.tmps,Opd.tmps,optT,zFg,JaZ,XPB,XmB,e32,n1',n2',w1,x1,eI,decide_true,decide_false,ne_eq,not_false_eq_true,not_true_eq_false,false_implies,forall_const,and_true,true_and,eq_true c1]
      (first|exact Bt.dropB _ hh (decide_eq_true (by unfold Z3m lowP at *;omega)).symm|exact Bt.dropB _ hh (decide_eq_false (by unfold Z3m lowP at *;omega)).symm)
     by_cases c2:L=47
     ·subst c2
      simp only[QhU,YqB,z16,KHD,Xq6,simprocAttr,CO.tmps,Opd.tmps,optT,zFg,JaZ,XPB,XmB,e32,n1',n2',w1,x1,eI,decide_true,decide_false,ne_eq,not_false_eq_true,not_true_eq_false,false_implies,forall_const,and_true,true_and,eq_false c1]
      (first|exact Bt.dropB _ hh (decide_eq_true (by unfold Z3m lowP at *;omega)).symm|exact Bt.dropB _ hh (decide_eq_false (by unfold Z3m lowP at *;omega)).symm)
     by_cases c3:L=46
     ·subst c3
      simp only[QhU,YqB,z16,KHD,Xq6,simprocAttr,CO.tmps,Opd.tmps,optT,zFg,JaZ,XPB,XmB,e32,n1',n2',w1,x1,eI,decide_true,decide_false,ne_eq,not_false_eq_true,not_true_eq_false,false_implies,forall_const,and_true,true_and,eq_false c1]
      (first|exact Bt.dropB _ hh (decide_eq_true (by unfold Z3m lowP at *;omega)).symm|exact Bt.dropB _ hh (decide_eq_false (by unfold Z3m lowP at *;omega)).symm)
     by_cases c4:lowP L
     ·rcases emT (c=46) with ⟨d5,c5⟩|⟨d5,c5⟩ <;> rcases emT (c=95) with ⟨d6,c6⟩|⟨d6,c6⟩ <;> rcases emT (c=45) with ⟨d7,c7⟩|⟨d7,c7⟩ <;> rcases emT (c=47) with ⟨d8,c8⟩|⟨d8,c8⟩ <;>
       (simp only[QhU,YqB,z16,KHD,Xq6,simprocAttr,CO.tmps,Opd.tmps,optT,zFg,JaZ,XPB,XmB,e32,n1',n2',w1,x1,eI,decide_true,decide_false,ne_eq,not_false_eq_true,not_true_eq_false,false_implies,forall_const,and_true,true_and,eq_false c1,eq_false c2,eq_false c3,eq_true c4,c5,c6,c7,c8];(first|exact Bt.dropB _ hh (decide_eq_true (by unfold Z3m lowP at *;omega)).symm|exact Bt.dropB _ hh (decide_eq_false (by unfold Z3m lowP at *;omega)).symm))
     by_cases c5:L=95
     ·rcases emT (c=95) with ⟨d6,c6⟩|⟨d6,c6⟩ <;> rcases emT ((47:Int)=95) with ⟨d7,c7⟩|⟨d7,c7⟩ <;>
       (simp only[QhU,YqB,z16,KHD,Xq6,simprocAttr,CO.tmps,Opd.tmps,optT,zFg,JaZ,XPB,XmB,e32,n1',n2',w1,x1,eI,decide_true,decide_false,ne_eq,not_false_eq_true,not_true_eq_false,false_implies,forall_const,and_true,true_and,eq_false c1,eq_false c2,eq_false c3,eq_false c4,eq_true c5,c6,c7];(first|exact Bt.dropB _ hh (decide_eq_true (by unfold Z3m lowP at *;omega)).symm|exact Bt.dropB _ hh (decide_eq_false (by unfold Z3m lowP at *;omega)).symm))
     rcases emT (c=45) with ⟨d6,c6⟩|⟨d6,c6⟩ <;>
      (simp only[QhU,YqB,z16,KHD,Xq6,simprocAttr,CO.tmps,Opd.tmps,optT,zFg,JaZ,XPB,XmB,e32,n1',n2',w1,x1,eI,decide_true,decide_false,ne_eq,not_false_eq_true,not_true_eq_false,false_implies,forall_const,and_true,true_and,eq_false c1,eq_false c2,eq_false c3,eq_false c4,eq_false c5,c6];(first|exact Bt.dropB _ hh (decide_eq_true (by unfold Z3m lowP at *;omega)).symm|exact Bt.dropB _ hh (decide_eq_false (by unfold Z3m lowP at *;omega)).symm))
    ·obtain rfl:b=[]:=List.eq_nil_of_length_eq_zero (by omega)
     rw[show zeR []=47 from rfl,show Yxb []=47 from rfl]
     by_cases c1:lowP c
     ·simp only[QhU,YqB,z16,KHD,Xq6,simprocAttr,CO.tmps,Opd.tmps,optT,zFg,JaZ,XPB,XmB,List.length_nil,Int.natCast_zero,Int.lt_irrefl,eq_true c1,oD,ne_eq,forall_const]
      (first|exact Bt.dropB _ hh (decide_eq_true (by unfold Z3m lowP at *;omega)).symm|exact Bt.dropB _ hh (decide_eq_false (by unfold Z3m lowP at *;omega)).symm)
     ·simp only[QhU,YqB,z16,KHD,Xq6,simprocAttr,CO.tmps,Opd.tmps,optT,zFg,JaZ,XPB,XmB,List.length_nil,Int.natCast_zero,Int.lt_irrefl,eq_false c1,oD,ne_eq,forall_const]
      (first|exact Bt.dropB _ hh (decide_eq_true (by unfold Z3m lowP at *;omega)).symm|exact Bt.dropB _ hh (decide_eq_false (by unfold Z3m lowP at *;omega)).symm)
  ·cases e
 ·cases e
end
section
set_option maxRecDepth 100000
set_option maxHeartbeats 4000000
def okR:RK->Int->Int->Prop
 | .w,l,a=>l=47\/l=46\/(l=95/\a=95)
 | .i,l,_=>lowP l
 | .s,l,a=>l=95/\a≠95
 | .d,l,_=>l=45
theorem YcU {q:RQ} {l a c:Int} (hk:okR q.k l a):(Z3m l a c/\(c=47->0<q.left))↔(KGW q c).isSome:=by
 obtain ⟨n,k⟩:=q
 have hw:(QIO n c).isSome↔lowP c:=by unfold QIO;split <;> simp_all
 cases k <;> dsimp only[KGW,okR]at hk ⊢
 ·rw[hw];unfold Z3m lowP at *;omega
 ·by_cases h1:c=47/\0<n
  ·rw[if_pos h1];simp only[Option.isSome_some,iff_true];unfold Z3m lowP at *;omega
  ·rw[if_neg h1]
   by_cases h2:c=46
   ·rw[if_pos h2];simp only[Option.isSome_some,iff_true];unfold Z3m lowP at *;omega
   ·rw[if_neg h2]
    by_cases h3:c=95
    ·rw[if_pos h3];simp only[Option.isSome_some,iff_true];unfold Z3m lowP at *;omega
    ·rw[if_neg h3]
     by_cases h4:c=45
     ·rw[if_pos h4];simp only[Option.isSome_some,iff_true];unfold Z3m lowP at *;omega
     ·rw[if_neg h4,hw];unfold Z3m lowP at *;omega
 ·by_cases h1:c=95
  ·rw[if_pos h1];simp only[Option.isSome_some,iff_true];unfold Z3m lowP at *;omega
  ·rw[if_neg h1,hw];unfold Z3m lowP at *;omega
 ·by_cases h1:c=45
  ·rw[if_pos h1];simp only[Option.isSome_some,iff_true];unfold Z3m lowP at *;omega
  ·rw[if_neg h1,hw];unfold Z3m lowP at *;omega
theorem qpl {q q':RQ} {l a c:Int} (hk:okR q.k l a) (e:KGW q c=some q'):okR q'.k c l/\(q'.left:Int)=(q.left:Int)-(if c=47 then 1 else 0):=by
 obtain ⟨n,k⟩:=q
 have hw:∀r,QIO n c=some r->okR r.k c l/\(r.left:Int)=(n:Int)-(if c=47 then 1 else 0):=fun r e=>by
  unfold QIO at e
  split at e
  ·rename_i hc
   cases e
   refine ⟨hc,?_⟩
   rw[if_neg (by unfold lowP at hc;omega)]
   simp
  ·cases e
 cases k <;> dsimp only[KGW,okR]at hk e ⊢
 ·exact hw _ e
 ·by_cases h1:c=47/\0<n
  ·rw[if_pos h1]at e
   cases e
   rw[if_pos h1.1]
   exact ⟨.inl h1.1,by dsimp only;omega⟩
  ·rw[if_neg h1]at e
   by_cases h2:c=46
   ·rw[if_pos h2]at e
    cases e
    rw[if_neg (by omega)]
    exact ⟨.inr (.inl h2),by simp⟩
   ·rw[if_neg h2]at e
    by_cases h3:c=95
    ·rw[if_pos h3]at e
     cases e
     rw[if_neg (by omega)]
     exact ⟨⟨h3,by unfold lowP at hk;omega⟩,by simp⟩
    ·rw[if_neg h3]at e
     by_cases h4:c=45
     ·rw[if_pos h4]at e
      cases e
      rw[if_neg (by omega)]
      exact ⟨h4,by simp⟩
     ·rw[if_neg h4]at e
      exact hw _ e
 ·by_cases h1:c=95
  ·rw[if_pos h1]at e
   cases e
   rw[if_neg (by omega)]
   exact ⟨.inr (.inr ⟨h1,hk.1⟩),by simp⟩
  ·rw[if_neg h1]at e
   exact hw _ e
 ·by_cases h1:c=45
  ·rw[if_pos h1]at e
   cases e
   rw[if_neg (by omega)]
   exact ⟨h1,by simp⟩
  ·rw[if_neg h1]at e
   exact hw _ e
theorem zck {q:RQ} {l a:Int} (hk:okR q.k l a):zcI q=decide (lowP l):=by
 obtain ⟨n,k⟩:=q
 cases k <;> dsimp only[okR]at hk <;> unfold zcI
 ·rw[decide_eq_false (by intro z;cases z),decide_eq_false (by unfold lowP;omega)]
 ·rw[decide_eq_true rfl,decide_eq_true hk]
 ·rw[decide_eq_false (by intro z;cases z),decide_eq_false (by unfold lowP;omega)]
 ·rw[decide_eq_false (by intro z;cases z),decide_eq_false (by unfold lowP;omega)]
theorem zGp {s:List UInt8} {pos:Nat} (g:pos<s.length):zeR (s.take (pos+1))=((s.getD pos 0).toNat:Int):=by
 unfold zeR
 have hl:(s.take (pos+1)).length=pos+1:=by rw[List.length_take];omega
 rw[hl,if_neg (by omega),Nat.add_sub_cancel,List.getD_eq_getElem?_getD,List.getElem?_take,if_pos (by omega),<-List.getD_eq_getElem?_getD]
theorem Xj5 {s:List UInt8} {pos:Nat} (g:pos<s.length):Yxb (s.take (pos+1))=zeR (s.take pos):=by
 unfold zeR Yxb
 have hl:(s.take (pos+1)).length=pos+1:=by rw[List.length_take];omega
 have hl':(s.take pos).length=pos:=by rw[List.length_take];omega
 rw[hl,hl']
 by_cases p0:pos=0
 ·subst p0;rfl
 ·rw[if_neg (by omega),if_neg (by omega),List.getD_eq_getElem?_getD,List.getD_eq_getElem?_getD,List.getElem?_take,List.getElem?_take,if_pos (by omega),if_pos (by omega),show pos+1-2=pos-1 from by omega]
theorem qwB {s:List UInt8} {pos:Nat} (g:pos<s.length) (h:(Utf8.decode ⟨s.toArray⟩ pos).1<128):((Utf8.decode ⟨s.toArray⟩ pos).1:Int)=((s.getD pos 0).toNat:Int):=by
 have hd:s.getD pos 0=s[pos]:=by rw[List.getD_eq_getElem?_getD,List.getElem?_eq_getElem g];rfl
 by_cases ha:(s[pos]).toNat<128
 ·rw[ZmB g ha,hd]
 ·have:=qXJ g ha
  omega
theorem XNP (k:IntKind) (x:Int):(AV.i k x).int?=some x:=oI rfl
def prt (q:RQ):AV:=.i .i64 (8-(q.left:Int))
theorem QOi:Spec Tryz.prog 65 Yja:=by
 intro args h v h' e
 unfold Yja at e
 split at e
 ·rename_i s
  split at e
  ·rename_i hs
   cases e
   refine FnAt.c (FnAt.run (by kernel_rfl) (T:=⟨[⟨132,Q0m,fun _=>[]⟩,⟨133,XiT,fun _=>[]⟩,⟨134,XmB,fun _=>[]⟩],[]⟩) ⟨⟨XND,QnJ,KTC,trivial⟩,trivial⟩ Tryz.func65 sw65 fun ho hh=>?_)
   unfold w65 KRN
   by_cases g:(128:Int)<(s.length:Int)
   ·have g':=eq_true g
    simp only[QhU,YqB,z16,KHD,Xq6,simprocAttr,CO.tmps,Opd.tmps,optT,Q0m,JaZ,XPB,g',decide_true,decide_false,false_implies,forall_const,and_true,true_and,not_true_eq_false,not_false_eq_true,if_true]
    exact Bt.drop _ hh rfl rfl
   have g':=eq_false g
   rw[if_neg g]
   simp only[QhU,YqB,z16,KHD,Xq6,simprocAttr,CO.tmps,Opd.tmps,optT,z79,JaZ,XPB,g',decide_true,decide_false,false_implies,forall_const,and_true,true_and,not_true_eq_false,not_false_eq_true]
   refine q2X (S:=Nat×RQ) (fun σ=>s.length-σ.1) (fun σ=>[.s s]++tp 1++[.p (h.length+0) 0,prt σ.2]++tp 7++[.p (h.length+1) 0]++tp 36) (fun σ=>h++[.blk true true [.i .i64 0,.i .i64 0],itr s σ.1])
    (fun σ=>σ.1<=s.length/\σ.2.left<=7/\okR σ.2.k (zeR (s.take σ.1)) (Yxb (s.take σ.1))/\runB KGW zcI (s.drop σ.1) σ.1 σ.2=runB KGW zcI s 0 ⟨7,.w⟩) (0,⟨7,.w⟩) ⟨Nat.zero_le _,Nat.le_refl _,.inl rfl,rfl⟩ ?_ fun σ hσ=>?_
   ·refine Bt.wk ?_
    simp only[prt,z16,Xq6,simprocAttr]
    all_goals exact Wk.refl _
   obtain ⟨pos,q⟩:=σ
   obtain ⟨h1,h2,h3,h4⟩:=hσ
   dsimp only at h1 h2 h3 h4 ⊢
   have hn:nxV (h++[.blk true true [.i .i64 0,.i .i64 0],itr s pos]) (.p (h.length+1) 0)=if pos<s.length then some (.tu [.b true,.i .i64 (pos:Int),.i .i32 ((Utf8.decode ⟨s.toArray⟩ pos).1:Int)],h++[.blk true true [.i .i64 0,.i .i64 0],itr s (pos+(Utf8.decode ⟨s.toArray⟩ pos).2)]) else some (.tu [.b false],h++[.blk true true [.i .i64 0,.i .i64 0],itr s pos]):=J23 _ 1 s pos rfl
   by_cases g:pos<s.length
   ·have hd:=ZPy (step:=KGW) (ends:=zcI) (q:=q) g
    rw[h4]at hd
    obtain ⟨e1,e2⟩:=Ze8 (step:=KGW) (fun _ _=>qeA) g q
    rw[e1]at hd
    have hg:=YcU (c:=((Utf8.decode ⟨s.toArray⟩ pos).1:Int)) h3
    have hok:=fun q'=>qpl (q':=q') (c:=((Utf8.decode ⟨s.toArray⟩ pos).1:Int)) h3
    have hdc:=qwB g
    have hbig:∀q',KGW q ((Utf8.decode ⟨s.toArray⟩ pos).1:Int)=some q'->(Utf8.decode ⟨s.toArray⟩ pos).1<128:=fun q' e=>by
     have:=fun z=>(qeA (q:=q) (c:=((Utf8.decode ⟨s.toArray⟩ pos).1:Int)) z)
     by_cases hx:(Utf8.decode ⟨s.toArray⟩ pos).1<128
     ·exact hx
     ·rw[this (by omega)]at e;cases e
    have htk:=XEc (l:=s) (n:=pos) .i64 (by omega)
    have hln:((s.take pos).length<=1000000)=True:=eq_true (by rw[List.length_take];omega)
    have wp:IntKind.i64.wrap (8-(q.left:Int)+1)=8-(q.left:Int)+1:=ZWm (by unfold In64;omega)
    generalize hC:((Utf8.decode ⟨s.toArray⟩ pos).1:Int)=c at *
    rcases emT (c=47) with ⟨d1,c1⟩|⟨d1,c1⟩
    ·cases hst:KGW q c with
     | none =>
      rw[hst]at hd hg
      dsimp only at hd
      by_cases hgo:Z3m (zeR (s.take pos)) (Yxb (s.take pos)) c
      ·have hl0:q.left=0:=by
        have:=mt hg.1 (by simp)
        have:¬0<q.left:=fun z=>this ⟨hgo,fun _=>z⟩
        omega
       have hp:((8:Int)<8-(q.left:Int)+1)=True:=eq_true (by omega)
       simp only[QhU,YqB,z16,KHD,Xq6,simprocAttr,CO.tmps,Opd.tmps,optT,X6H,hn,g,c1,prt,wp,Z2c,htk,XiT,hln,eq_true hgo,hp,XJx,Q0m,if_true,decide_true,decide_false,Bool.not_true,Bool.not_false,ne_eq,not_false_eq_true,not_true_eq_false,false_implies,forall_const,and_true,true_and,Option.map_some,Option.map_none]
       rw[hd]
       exact Bt.drop _ hh rfl rfl
      ·simp only[QhU,YqB,z16,KHD,Xq6,simprocAttr,CO.tmps,Opd.tmps,optT,X6H,hn,g,c1,prt,wp,Z2c,htk,XiT,hln,eq_false hgo,XJx,Q0m,if_true,decide_true,decide_false,Bool.not_true,Bool.not_false,ne_eq,not_false_eq_true,not_true_eq_false,false_implies,forall_const,and_true,true_and,Option.map_some,Option.map_none]
       rw[hd]
       exact Bt.drop _ hh rfl rfl
     | some q' =>
      have e3:=e2 q' hst
      have hgo:=hg.2 (by rw[hst];rfl)
      have hk:=hok q' hst
      rw[if_pos d1]at hk
      have hp:((8:Int)<8-(q.left:Int)+1)=False:=eq_false (by have:=hgo.2 d1;omega)
      have hcc:=hdc (hbig q' hst)
      rw[hst]at hd
      dsimp only at hd
      simp only[QhU,YqB,z16,KHD,Xq6,simprocAttr,CO.tmps,Opd.tmps,optT,X6H,hn,g,c1,prt,wp,Z2c,htk,XiT,hln,eq_true hgo.1,hp,XJx,Q0m,e3,if_true,decide_true,decide_false,Bool.not_true,Bool.not_false,ne_eq,not_false_eq_true,not_true_eq_false,false_implies,forall_const,and_true,true_and,Option.map_some,Option.map_none]
      refine ⟨(pos+1,q'),⟨g,by have:=hk.2;dsimp only;omega,?_,hd.symm⟩,by dsimp only;omega,?_⟩
      ·dsimp only
       rw[zGp g,Xj5 g,<-hcc]
       exact hk.1
      ·dsimp only
       rw[show (8-(q'.left:Int))=8-(q.left:Int)+1 from by have:=hk.2;omega]
       exact Bt.sel [0,1] hh (by decide) (by simp only[KlC,FrSel,BlkSel,AV.ren,renL,AV.ok,okL,Option.some.injEq,exists_eq_left',List.length_cons,List.length_nil,Nat.reduceAdd,Nat.reduceLT,reduceCtorEq,implies_true,exists_eq',itr,YmR,and_self]) (by simp only[KlC,FrSel,BlkSel,AV.ren,renL,AV.ok,okL,Option.some.injEq,exists_eq_left',List.length_cons,List.length_nil,Nat.reduceAdd,Nat.reduceLT,reduceCtorEq,implies_true,exists_eq'])
    ·cases hst:KGW q c with
     | none =>
      rw[hst]at hd hg
      dsimp only at hd
      have hgo:¬Z3m (zeR (s.take pos)) (Yxb (s.take pos)) c:=fun z=>by
       have:=hg.1 ⟨z,fun w=>absurd w d1⟩
       simp at this
      simp only[QhU,YqB,z16,KHD,Xq6,simprocAttr,CO.tmps,Opd.tmps,optT,X6H,hn,g,c1,prt,wp,Z2c,htk,XiT,hln,eq_false hgo,XJx,Q0m,if_true,decide_true,decide_false,Bool.not_true,Bool.not_false,ne_eq,not_false_eq_true,not_true_eq_false,false_implies,forall_const,and_true,true_and,Option.map_some,Option.map_none]
      rw[hd]
      exact Bt.drop _ hh rfl rfl
     | some q' =>
      have e3:=e2 q' hst
      have hgo:=hg.2 (by rw[hst];rfl)
      have hk:=hok q' hst
      rw[if_neg d1]at hk
      have hp:((8:Int)<8-(q.left:Int))=False:=eq_false (by omega)
      have hcc:=hdc (hbig q' hst)
      rw[hst]at hd
      dsimp only at hd
      simp only[QhU,YqB,z16,KHD,Xq6,simprocAttr,CO.tmps,Opd.tmps,optT,X6H,hn,g,c1,prt,wp,Z2c,htk,XiT,hln,eq_true hgo.1,hp,XJx,Q0m,e3,if_true,decide_true,decide_false,Bool.not_true,Bool.not_false,ne_eq,not_false_eq_true,not_true_eq_false,false_implies,forall_const,and_true,true_and,Option.map_some,Option.map_none]
      refine ⟨(pos+1,q'),⟨g,by have:=hk.2;dsimp only;omega,?_,hd.symm⟩,by dsimp only;omega,?_⟩
      ·dsimp only
       rw[zGp g,Xj5 g,<-hcc]
       exact hk.1
      ·dsimp only
       rw[show (8-(q'.left:Int))=8-(q.left:Int) from by have:=hk.2;omega]
       exact Bt.sel [0,1] hh (by decide) (by simp only[KlC,FrSel,BlkSel,AV.ren,renL,AV.ok,okL,Option.some.injEq,exists_eq_left',List.length_cons,List.length_nil,Nat.reduceAdd,Nat.reduceLT,reduceCtorEq,implies_true,exists_eq',itr,YmR,and_self]) (by simp only[KlC,FrSel,BlkSel,AV.ren,renL,AV.ok,okL,Option.some.injEq,exists_eq_left',List.length_cons,List.length_nil,Nat.reduceAdd,Nat.reduceLT,reduceCtorEq,implies_true,exists_eq'])
   ·have hpos:pos=s.length:=by omega
    have hd:runB KGW zcI s 0 ⟨7,.w⟩=if zcI q then none else some s.length:=by
     rw[<-h4,hpos,List.drop_length]
     rfl
    have ht:s.take pos=s:=by rw[hpos];exact List.take_length
    rw[ht]at h3
    rw[zck h3]at hd
    by_cases hz:s=[]
    ·subst hz
     rw[show zeR []=47 from rfl,decide_eq_false (by decide)]at hd
     rw[hd]
     have hnil:(([]:List UInt8)=[])=True:=eq_true rfl
     simp only[QhU,YqB,z16,KHD,Xq6,simprocAttr,CO.tmps,Opd.tmps,optT,X6H,hn,g,QAQ,hnil,JaZ,XPB,Q0m,oD,ne_eq,forall_const]
     exact Bt.drop _ hh rfl rfl
    ·have hlen:0<s.length:=List.length_pos_iff.2 hz
     have w1:IntKind.i64.wrap ((s.length:Int)-1)=((s.length-1:Nat):Int):=by rw[ZWm (by unfold In64;omega)];omega
     have x1:=QDA (l:=s) (n:=s.length-1) .i64 (by omega)
     have hL:zeR s=((s.getD (s.length-1) 0).toNat:Int):=by unfold zeR;rw[if_neg (by omega)]
     have e32:IntKind.i32.wrap ((s.getD (s.length-1) 0).toNat:Int)=((s.getD (s.length-1) 0).toNat:Int):=J70 (by omega) (by have:=(s.getD (s.length-1) 0).toNat_lt;omega)
     rw[hL]at hd
     have hz':(s=[])=False:=eq_false hz
     generalize ((s.getD (s.length-1) 0).toNat:Int)=L at *
     by_cases hl:lowP L
     ·rw[decide_eq_true hl]at hd
      rw[hd]
      simp only[QhU,YqB,z16,KHD,Xq6,simprocAttr,CO.tmps,Opd.tmps,optT,X6H,hn,g,QAQ,hz',JaZ,XPB,zFg,w1,x1,e32,XNP,Option.map_some,XmB,Q0m,XJx,eq_true hl,decide_true,decide_false,Bool.not_true,Bool.not_false,ne_eq,not_false_eq_true,not_true_eq_false,false_implies,forall_const,and_true,true_and]
      exact Bt.drop _ hh rfl rfl
     ·rw[decide_eq_false hl]at hd
      rw[hd]
      simp only[QhU,YqB,z16,KHD,Xq6,simprocAttr,CO.tmps,Opd.tmps,optT,X6H,hn,g,QAQ,hz',JaZ,XPB,zFg,w1,x1,e32,XNP,Option.map_some,XmB,Q0m,XJx,eq_false hl,decide_true,decide_false,Bool.not_true,Bool.not_false,ne_eq,not_false_eq_true,not_true_eq_false,false_implies,forall_const,and_true,true_and]
      exact Bt.drop _ hh rfl rfl
  ·cases e
 ·cases e
end
section
set_option maxRecDepth 100000
set_option maxHeartbeats 4000000
def SameRd (H H':List AB):Prop:=∀i cs,ZMh H i=some cs->ZMh H' i=some cs
theorem SameRd.app (H L:List AB):SameRd H (H++L):=fun i cs e=>by
 unfold ZMh at e ⊢
 by_cases hi:i<H.length
 ·rw[List.getElem?_append_left hi];exact e
 ·rw[List.getElem?_eq_none (by omega)]at e;cases e
theorem SameRd.it (h M:List AB) (A:AB) (s:List UInt8) (p p':Nat):SameRd (h++A::itr s p::M) (h++A::itr s p'::M):=fun i cs e=>by
 unfold ZMh at e ⊢
 by_cases hi:i<h.length
 ·rw[List.getElem?_append_left hi]at e ⊢;exact e
 ·rw[List.getElem?_append_right (by omega)]at e ⊢
  generalize i-h.length=k at e ⊢
  match k with
  | 0=>exact e
  | 1=>cases e
  | k+2=>exact e
structure Aut (Tb:Tab) (Q:Type) where
 step:Q->Int->Option Q
 ends:Q->Bool
 Rep:List AB->Nat->Q->Prop
 big:∀q c,128<=c->step q c=none
 mono:∀ {H H' j q},SameRd H H'->Rep H j q->Rep H' j q
 cel:∀ {H j q},Rep H j q->∃g fst cap,ZMh H j=some [.f (.func g) fst cap,.b (ends q)]/\∀c:Int,
  (step q c=none->Tb.at g (fst++[.i .i32 c]++cap) H=some (.np,H)) /\
  ∀q',step q c=some q'->∃j' L,Tb.at g (fst++[.i .i32 c]++cap) H=some (.p j' 0,H++L)/\Rep (H++L) j' q'
theorem runA {Tb:Tab} (hTb:Yla (Spec Tryz.prog) Tb) {Q:Type} (A:Aut Tb Q) {h:List AB} {s:List UInt8} {j0:Nat} {e:Int} {q0:Q} (hj:A.Rep h j0 q0) (hs:s.length<=1000000) :
  FnAt Tryz.prog 184 [.s s,.p j0 0,.i .i64 e] h (fltA e (runB A.step A.ends s 0 q0)) h:=by
 refine FnAt.run (by kernel_rfl) (T:=⟨Tb,[]⟩) ⟨hTb,trivial⟩ Tryz.func184 zjP fun ho hh=>?_
 unfold w184
 have en0:q70 .np .np=some true:=rfl
 have en1:∀a b,q70 (.p a b) .np=some false:=fun _ _=>rfl
 simp only[QhU,YqB,z16,KHD,Xq6,simprocAttr,CO.tmps,Opd.tmps,optT,z79]
 refine q2X (S:=Nat×Q×Nat×List AB) (fun σ=>s.length-σ.1) (fun σ=>[.s s,.p σ.2.2.1 0,.i .i64 e]++tp 3++[.p (h.length+0) 0]++tp 3++[.p (h.length+1) 0]++tp 25) (fun σ=>h++.blk true true [.i .i64 0,.i .i64 0]::itr s σ.1::σ.2.2.2)
  (fun σ=>σ.1<=s.length/\A.Rep (h++.blk true true [.i .i64 0,.i .i64 0]::itr s σ.1::σ.2.2.2) σ.2.2.1 σ.2.1/\runB A.step A.ends (s.drop σ.1) σ.1 σ.2.1=runB A.step A.ends s 0 q0) (0,q0,j0,[]) ⟨Nat.zero_le _,A.mono (SameRd.app _ _) hj,rfl⟩ ?_ fun σ hσ=>?_
 ·refine Bt.wk ?_
  simp only[z16,Xq6,simprocAttr]
 obtain ⟨pos,q,j,M⟩:=σ
 obtain ⟨h1,h2,h4⟩:=hσ
 dsimp only at h1 h2 h4 ⊢
 have hn:nxV (h++.blk true true [.i .i64 0,.i .i64 0]::itr s pos::M) (.p (h.length+1) 0)=if pos<s.length then some (.tu [.b true,.i .i64 (pos:Int),.i .i32 ((Utf8.decode ⟨s.toArray⟩ pos).1:Int)],h++.blk true true [.i .i64 0,.i .i64 0]::itr s (pos+(Utf8.decode ⟨s.toArray⟩ pos).2)::M) else some (.tu [.b false],h++.blk true true [.i .i64 0,.i .i64 0]::itr s pos::M):=J23 _ 1 s pos rfl
 by_cases g:pos<s.length
 ·have hd:=ZPy (step:=A.step) (ends:=A.ends) (q:=q) g
  rw[h4]at hd
  obtain ⟨e1,e2⟩:=Ze8 (step:=A.step) A.big g q
  rw[e1]at hd
  have h2':=A.mono (SameRd.it h M (.blk true true [.i .i64 0,.i .i64 0]) s pos (pos+(Utf8.decode ⟨s.toArray⟩ pos).2)) h2
  obtain ⟨gf,fst,cap,r1,r2⟩:=A.cel h2'
  obtain ⟨r3,r4⟩:=r2 ((Utf8.decode ⟨s.toArray⟩ pos).1:Int)
  have lj0:ldV (h++.blk true true [.i .i64 0,.i .i64 0]::itr s (pos+(Utf8.decode ⟨s.toArray⟩ pos).2)::M) none (.p j 0)=some (.f (.func gf) fst cap):=by
   simp only[ldV,r1,Option.bind_some]
   rfl
  cases hst:A.step q ((Utf8.decode ⟨s.toArray⟩ pos).1:Int) with
  | none =>
   rw[hst]at hd
   dsimp only at hd
   have r5:=r3 hst
   simp only[QhU,YqB,z16,KHD,Xq6,simprocAttr,CO.tmps,Opd.tmps,optT,X6H,hn,g,lj0,r5,en0,en1,oD,ne_eq,forall_const]
   rw[hd]
   exact Bt.drop _ hh rfl rfl
  | some q' =>
   have e3:=e2 q' hst
   rw[hst]at hd
   dsimp only at hd
   obtain ⟨j',L,r5,r6⟩:=r4 q' hst
   rw[e3]at hn lj0 r5 r6
   simp only[QhU,YqB,z16,KHD,Xq6,simprocAttr,CO.tmps,Opd.tmps,optT,X6H,hn,g,lj0,r5,en0,en1,oD,ne_eq,forall_const]
   refine ⟨(pos+1,q',j',M++L),⟨g,?_,hd.symm⟩,by dsimp only;omega,?_⟩
   ·dsimp only
    rw[List.append_assoc,List.cons_append,List.cons_append]at r6
    exact r6
   ·dsimp only
    refine Bt.wk ?_
    simp only[z16,Xq6,simprocAttr]
 ·have hpos:pos=s.length:=by omega
  have hd:runB A.step A.ends s 0 q0=if A.ends q then none else some s.length:=by
   rw[<-h4,hpos,List.drop_length]
   rfl
  obtain ⟨gf,fst,cap,r1,_⟩:=A.cel h2
  have lj1:ldV (h++.blk true true [.i .i64 0,.i .i64 0]::itr s pos::M) none (.p j 1)=some (.b (A.ends q)):=by
   simp only[ldV,r1,Option.bind_some]
   rfl
  cases he:A.ends q with
  | true =>
   rw[he]at hd lj1
   simp only[QhU,YqB,z16,KHD,Xq6,simprocAttr,CO.tmps,Opd.tmps,optT,X6H,hn,g,lj1,XJx,Bool.not_true,Bool.not_false,JaZ,XPB,oD,ne_eq,forall_const]
   rw[hd]
   exact Bt.drop _ hh rfl rfl
  | false =>
   rw[he]at hd lj1
   simp only[QhU,YqB,z16,KHD,Xq6,simprocAttr,CO.tmps,Opd.tmps,optT,X6H,hn,g,lj1,XJx,Bool.not_true,Bool.not_false,JaZ,XPB,oD,ne_eq,forall_const]
   rw[hd]
   exact Bt.drop _ hh rfl rfl
end
end Go.Proofs.YtebcngelgdpbjaaGreat
