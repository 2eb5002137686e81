/- Part 22 of what the laws' proofs rest on. No condition. -/
import Derived.Test.YtebcngelgdpbjaaGreatGq21
set_option linter.all false
namespace Go.Proofs.YtebcngelgdpbjaaGreat
section
set_option maxRecDepth 100000
set_option maxHeartbeats 4000000
def tagP (c:Int):Prop:=lowP c\/(65<=c/\c<=90)\/c=95\/c=46\/c=45
instance (c:Int):Decidable (tagP c):=inferInstanceAs (Decidable (_\/_))
def Qml (c:Int):Prop:=lowP c\/(65<=c/\c<=90)\/c=95
instance (c:Int):Decidable (Qml c):=inferInstanceAs (Decidable (_\/_))
theorem emE (p:Prop):p=True\/p=False:=Classical.propComplete p
theorem ZeS (c:Int):(Qml c/\lowP c=True)\/(Qml c/\lowP c=False/\(65<=c)=True/\(c<=90)=True) \/
  ((¬Qml c/\tagP c)/\lowP c=False/\(65<=c)=False/\(c=95)=False/\(c=46)=True) \/
  ((¬Qml c/\tagP c)/\lowP c=False/\(65<=c)=False/\(c=95)=False/\(c=46)=False/\(c=45)=True) \/
  (¬tagP c/\lowP c=False/\(65<=c)=False/\(c=95)=False/\(c=46)=False/\(c=45)=False) \/
  (Qml c/\lowP c=False/\(65<=c)=True/\(c<=90)=False/\(c=95)=True) \/
  (¬tagP c/\lowP c=False/\(65<=c)=True/\(c<=90)=False/\(c=95)=False/\(c=46)=False/\(c=45)=False):=by
 by_cases h1:lowP c
 ·exact .inl ⟨.inl h1,eq_true h1⟩
 by_cases h2:65<=c
 ·by_cases h3:c<=90
  ·exact .inr (.inl ⟨.inr (.inl ⟨h2,h3⟩),eq_false h1,eq_true h2,eq_true h3⟩)
  by_cases h4:c=95
  ·exact .inr (.inr (.inr (.inr (.inr (.inl ⟨.inr (.inr h4),eq_false h1,eq_true h2,eq_false h3,eq_true h4⟩)))))
  ·exact .inr (.inr (.inr (.inr (.inr (.inr ⟨(fun z=>by rcases z with z|z|z|z|z <;> first|exact h1 z|omega),eq_false h1,eq_true h2,eq_false h3,eq_false h4,eq_false (by omega),eq_false (by omega)⟩)))))
 ·have h4:¬c=95:=by omega
  have hh:¬Qml c:=fun z=>by rcases z with z|z|z <;> first|exact h1 z|omega
  by_cases h5:c=46
  ·exact .inr (.inr (.inl ⟨⟨hh,.inr (.inr (.inr (.inl h5)))⟩,eq_false h1,eq_false h2,eq_false h4,eq_true h5⟩))
  by_cases h6:c=45
  ·exact .inr (.inr (.inr (.inl ⟨⟨hh,.inr (.inr (.inr (.inr h6)))⟩,eq_false h1,eq_false h2,eq_false h4,eq_false h5,eq_true h6⟩)))
  ·exact .inr (.inr (.inr (.inr (.inl ⟨(fun z=>by rcases z with z|z|z|z|z <;> first|exact h1 z|omega),eq_false h1,eq_false h2,eq_false h4,eq_false h5,eq_false h6⟩))))
theorem qr6 {c:Int} (h:Qml c):tagP c:=by
 rcases h with h|h|h
 ·exact .inl h
 ·exact .inr (.inl h)
 ·exact .inr (.inr (.inl h))
def Kwc:List AV->List AB->Option (AV×List AB)
 | [.i .i32 c],h=>some (.b (decide (tagP c)),h)
 | _,_=>none
theorem q22:Spec Tryz.prog 182 Kwc:=by
 intro args h v h' e
 unfold Kwc at e
 split at e
 ·rename_i c
  cases e
  refine FnAt.c (FnAt.run (by kernel_rfl) (T:=⟨[⟨224,XmB,fun _=>[]⟩],[]⟩) ⟨⟨QJz,trivial⟩,trivial⟩ Tryz.func182 Kg1 fun ho hh=>?_)
  unfold w182
  rcases ZeS c with ⟨d,a1⟩|⟨d,a1,a2,a3⟩|⟨d,a1,a2,a4,a5⟩|⟨d,a1,a2,a4,a5,a6⟩|⟨d,a1,a2,a4,a5,a6⟩|⟨d,a1,a2,a3,a4⟩|⟨d,a1,a2,a3,a4,a5,a6⟩
  ·simp only[QhU,YqB,z16,KHD,Xq6,simprocAttr,CO.tmps,Opd.tmps,optT,XmB,a1,oD,ne_eq,forall_const]
   exact Bt.dropB _ hh (decide_eq_true (qr6 d)).symm
  ·simp only[QhU,YqB,z16,KHD,Xq6,simprocAttr,CO.tmps,Opd.tmps,optT,XmB,a1,a2,a3,oD,ne_eq,forall_const]
   exact Bt.dropB _ hh (decide_eq_true (qr6 d)).symm
  ·simp only[QhU,YqB,z16,KHD,Xq6,simprocAttr,CO.tmps,Opd.tmps,optT,XmB,a1,a2,a4,a5,oD,ne_eq,forall_const]
   exact Bt.dropB _ hh (decide_eq_true d.2).symm
  ·simp only[QhU,YqB,z16,KHD,Xq6,simprocAttr,CO.tmps,Opd.tmps,optT,XmB,a1,a2,a4,a5,a6,oD,ne_eq,forall_const]
   exact Bt.dropB _ hh (decide_eq_true d.2).symm
  ·simp only[QhU,YqB,z16,KHD,Xq6,simprocAttr,CO.tmps,Opd.tmps,optT,XmB,a1,a2,a4,a5,a6,oD,ne_eq,forall_const]
   exact Bt.dropB _ hh (decide_eq_false d).symm
  ·simp only[QhU,YqB,z16,KHD,Xq6,simprocAttr,CO.tmps,Opd.tmps,optT,XmB,a1,a2,a3,a4,oD,ne_eq,forall_const]
   exact Bt.dropB _ hh (decide_eq_true (qr6 d)).symm
  ·simp only[QhU,YqB,z16,KHD,Xq6,simprocAttr,CO.tmps,Opd.tmps,optT,XmB,a1,a2,a3,a4,a5,a6,oD,ne_eq,forall_const]
   exact Bt.dropB _ hh (decide_eq_false d).symm
 ·cases e
inductive QT where
 | first
 | rest
deriving DecidableEq
def zdl:QT->Int->Option QT
 | .first,c=>if Qml c then some .rest else none
 | .rest,c=>if tagP c then some .rest else none
def z0i (q:QT):Bool:=decide (q=.rest)
theorem YQD (q:QT) (c:Int) (h:128<=c):zdl q c=none:=by
 have h1:¬tagP c:=by unfold tagP lowP;omega
 have h2:¬Qml c:=by unfold Qml lowP;omega
 cases q
 ·exact if_neg h2
 ·exact if_neg h1
def allB (n:Nat):List AB:=[.blk false true [.f (.func 182) [] []],.blk false true [.p (n+2) 0],.blk false true [.f (.func 225) [] [.p (n+0) 0,.p (n+1) 0],.b true]]
theorem zXN {P:Program} {p:Nat} {a:AV} {h:List AB}:Bt P p [a] (h++[]) [a] h:=by
 rw[List.append_nil]
 exact Bt.wk1 (Wk.refl _)
def JFA:List AV->List AB->Option (AV×List AB)
 | [.f (.func g) [] []],h=>if g=182 then some (.p (h.length+2) 0,h++allB h.length) else none
 | _,_=>none
theorem ZcI:Spec Tryz.prog 183 JFA:=by
 intro args h v h' e
 unfold JFA at e
 split at e
 ·rename_i g
  split at e
  ·rename_i hg
   subst hg
   cases e
   refine FnAt.c (FnAt.run (by kernel_rfl) (T:=⟨[],[]⟩) ⟨trivial,trivial⟩ Tryz.func183 KMa fun ho hh=>?_)
   unfold w183 allB
   simp only[QhU,YqB,z16,KHD,Xq6,simprocAttr,CO.tmps,Opd.tmps,optT]
   exact ⟨rfl,Bt.wk1 (Wk.refl _)⟩
  ·cases e
 ·cases e
def KED:List AV->List AB->Option (AV×List AB)
 | [.i .i32 c,.p b1 0,.p b2 0],h=>match ldV h none (.p b1 0),ldV h none (.p b2 0) with
  | some (.f (.func g) [] []),some (.p j 0)=>if g=182 then some (if tagP c then .p j 0 else .np,h) else none
  | _,_=>none
 | _,_=>none
theorem Y3r:Spec Tryz.prog 225 KED:=by
 intro args h v h' e
 unfold KED at e
 split at e
 ·rename_i c b1 b2
  split at e
  ·rename_i g j l1 l2
   split at e
   ·rename_i hg
    subst hg
    cases e
    refine FnAt.c (FnAt.run (by kernel_rfl) (T:=⟨[⟨182,Kwc,fun _=>[]⟩],[]⟩) ⟨⟨q22,trivial⟩,trivial⟩ Tryz.func225 Jmz fun ho hh=>?_)
    unfold w225
    have m1:ldV (h++[]) none (.p b1 0)=some (.f (.func 182) [] []):=by rw[List.append_nil];exact l1
    have m2:ldV (h++[]) none (.p b2 0)=some (.p j 0):=by rw[List.append_nil];exact l2
    by_cases hc:tagP c
    ·rw[if_pos hc]
     simp only[QhU,YqB,z16,KHD,Xq6,simprocAttr,CO.tmps,Opd.tmps,optT,Kwc,m1,m2,eq_true hc,oD,ne_eq,forall_const]
     exact zXN
    ·rw[if_neg hc]
     simp only[QhU,YqB,z16,KHD,Xq6,simprocAttr,CO.tmps,Opd.tmps,optT,Kwc,m1,m2,eq_false hc,oD,ne_eq,forall_const]
     exact zXN
   ·cases e
  ·cases e
 ·cases e
def XQw:List AV->List AB->Option (AV×List AB)
 | [.i .i32 c],h=>if Qml c then some (.p (h.length+2) 0,h++allB h.length) else some (.np,h)
 | _,_=>none
theorem YkZ:Spec Tryz.prog 181 XQw:=by
 intro args h v h' e
 unfold XQw at e
 split at e
 ·rename_i c
  refine FnAt.c (FnAt.run (by kernel_rfl) (T:=⟨[⟨182,Kwc,fun _=>[]⟩,⟨183,JFA,fun _=>[]⟩],[]⟩) ⟨⟨q22,ZcI,trivial⟩,trivial⟩ Tryz.func181 KCg fun ho hh=>?_)
  unfold w181
  by_cases h1:Qml c
  ·rw[if_pos h1]at e
   cases e
   have c1:(c=46)=False:=eq_false (by unfold Qml lowP at h1;omega)
   have c2:(c=45)=False:=eq_false (by unfold Qml lowP at h1;omega)
   simp only[QhU,YqB,z16,KHD,Xq6,simprocAttr,CO.tmps,Opd.tmps,optT,Kwc,JFA,c1,c2,eq_true (qr6 h1),oD,ne_eq,forall_const]
   exact Bt.wk1 (Wk.refl _)
  ·rw[if_neg h1]at e
   cases e
   rcases emE (c=46) with c1|c1
   ·simp only[QhU,YqB,z16,KHD,Xq6,simprocAttr,CO.tmps,Opd.tmps,optT,Kwc,JFA,c1,oD,ne_eq,forall_const]
    exact zXN
   rcases emE (c=45) with c2|c2
   ·simp only[QhU,YqB,z16,KHD,Xq6,simprocAttr,CO.tmps,Opd.tmps,optT,Kwc,JFA,c1,c2,oD,ne_eq,forall_const]
    exact zXN
   have c3:tagP c=False:=eq_false fun z=>by
    rcases z with z|z|z|z|z
    ·exact h1 (.inl z)
    ·exact h1 (.inr (.inl z))
    ·exact h1 (.inr (.inr z))
    ·exact of_eq_false c1 z
    ·exact of_eq_false c2 z
   simp only[QhU,YqB,z16,KHD,Xq6,simprocAttr,CO.tmps,Opd.tmps,optT,Kwc,JFA,c1,c2,c3,oD,ne_eq,forall_const]
   exact zXN
 ·cases e
def Xcf:Tab:=[⟨181,XQw,fun _=>[]⟩,⟨225,KED,fun _=>[]⟩]
def repT (h:List AB) (j:Nat):QT->Prop
 | .first=>ZMh h j=some [.f (.func 181) [] [],.b false]
 | .rest=>∃b1 b2,ZMh h j=some [.f (.func 225) [] [.p b1 0,.p b2 0],.b true]/\ZMh h b1=some [.f (.func 182) [] []]/\ZMh h b2=some [.p j 0]
theorem Qzf (h L:List AB) (k:Nat) (fl m:Bool) (xs:List AV) (e:L[k]?=some (.blk fl m xs)):ZMh (h++L) (h.length+k)=some xs:=by
 unfold ZMh
 rw[List.getElem?_append_right (by omega),Nat.add_sub_cancel_left,e]
def autT:Aut Xcf QT where
 step:=zdl
 ends:=z0i
 Rep:=repT
 big:=YQD
 mono {H H' j q} hs h:=by
  cases q
  ·exact hs _ _ h
  ·obtain ⟨b1,b2,q1,q2,q3⟩:=h
   exact ⟨b1,b2,hs _ _ q1,hs _ _ q2,hs _ _ q3⟩
 cel {H j q} h:=by
  cases q
  ·refine ⟨_,_,_,h,fun c=>⟨fun e=>?_,fun q' e=>?_⟩⟩
   ·show XQw [.i .i32 c] H=_
    unfold XQw
    by_cases hc:Qml c
    ·rw[show zdl .first c=some .rest from if_pos hc]at e;cases e
    ·exact if_neg hc
   ·by_cases hc:Qml c
    ·rw[show zdl .first c=some .rest from if_pos hc]at e
     cases e
     refine ⟨H.length+2,allB H.length,?_,H.length+0,H.length+1,Qzf _ _ 2 _ _ _ rfl,Qzf _ _ 0 _ _ _ rfl,Qzf _ _ 1 _ _ _ rfl⟩
     show XQw [.i .i32 c] H=_
     exact if_pos hc
    ·rw[show zdl .first c=none from if_neg hc]at e;cases e
  ·obtain ⟨b1,b2,q1,q2,q3⟩:=h
   have l1:ldV H none (.p b1 0)=some (.f (.func 182) [] []):=by simp only[ldV,q2,Option.bind_some];rfl
   have l2:ldV H none (.p b2 0)=some (.p j 0):=by simp only[ldV,q3,Option.bind_some];rfl
   have hT:∀c,KED [.i .i32 c,.p b1 0,.p b2 0] H=some (if tagP c then .p j 0 else .np,H):=fun c=>by
    unfold KED
    simp only[l1,l2,if_true]
   refine ⟨_,_,_,q1,fun c=>⟨fun e=>?_,fun q' e=>?_⟩⟩
   ·by_cases hc:tagP c
    ·rw[show zdl .rest c=some .rest from if_pos hc]at e;cases e
    ·have:=hT c
     rw[if_neg hc]at this
     exact this
   ·by_cases hc:tagP c
    ·rw[show zdl .rest c=some .rest from if_pos hc]at e
     cases e
     have:=hT c
     rw[if_pos hc]at this
     exact ⟨j,[],by rw[List.append_nil];exact this,b1,b2,by rw[List.append_nil];exact q1,by rw[List.append_nil];exact q2,by rw[List.append_nil];exact q3⟩
    ·rw[show zdl .rest c=none from if_neg hc]at e;cases e
theorem KU1:Yla (Spec Tryz.prog) Xcf:=⟨YkZ,Y3r,trivial⟩
def tagV (s:List UInt8):AV:=if (64:Int)<(s.length:Int) then .ag [.i .i64 4,.i .i64 64] else fltA 7 (runB zdl z0i s 0 .first)
noncomputable def qGK:List AV->List AB->Option (AV×List AB)
 | [.s s],h=>if s.length<=1000000 then some (tagV s,h) else none
 | _,_=>none
open Classical in
noncomputable def Zdr:List AV->List AB->Option (AV×List AB)
 | [.s s,.p j 0,.i .i64 e],h=>if repT h j .first/\s.length<=1000000 then some (fltA e (runB zdl z0i s 0 .first),h) else none
 | _,_=>none
theorem Xu6:Spec Tryz.prog 184 Zdr:=by
 intro args h v h' e
 unfold Zdr at e
 split at e
 ·split at e
  ·rename_i hc
   cases e
   exact FnAt.c (runA KU1 autT (q0:=.first) hc.1 hc.2)
  ·cases e
 ·cases e
theorem qPE:Spec Tryz.prog 123 qGK:=by
 intro args h v h' e
 unfold qGK at e
 split at e
 ·rename_i s
  split at e
  ·rename_i hs
   cases e
   refine FnAt.c (FnAt.run (by kernel_rfl) (T:=⟨[⟨180,XjM,fun _=>[]⟩,⟨184,Zdr,fun _=>[]⟩],[]⟩) ⟨⟨qlF,Xu6,trivial⟩,trivial⟩ Tryz.func123 QzU fun ho hh=>?_)
   unfold w123 tagV
   by_cases g:(64:Int)<(s.length:Int)
   ·have g':=eq_true g
    simp only[QhU,YqB,z16,KHD,Xq6,simprocAttr,CO.tmps,Opd.tmps,optT,XjM,g',decide_true,decide_false,ne_eq,not_false_eq_true,not_true_eq_false,false_implies,forall_const,and_true,true_and,if_true]
    exact Bt.drop _ hh rfl rfl
   ·have g':=eq_false g
    have hq:∀B C:AB,repT (h++[B,C,.blk false true [.f (.func 181) [] [],.b false]]) (h.length+2) .first=True:=fun B C=>eq_true (Qzf _ _ 2 _ _ _ rfl)
    have hs':=eq_true hs
    obtain ⟨a,b,hab⟩:=KUw 7 (runB zdl z0i s 0 .first)
    rw[if_neg g]
    simp only[QhU,YqB,z16,KHD,Xq6,simprocAttr,CO.tmps,Opd.tmps,optT,XjM,g',Zdr,hq,hs',hab,decide_true,decide_false,ne_eq,not_false_eq_true,not_true_eq_false,false_implies,forall_const,and_true,true_and,if_false,if_true]
    exact Bt.drop _ hh rfl rfl
  ·cases e
 ·cases e
theorem Ya8:Spec Tryz.prog 66 qGK:=by
 intro args h v h' e
 unfold qGK at e
 split at e
 ·rename_i s
  split at e
  ·rename_i hs
   cases e
   refine FnAt.c (FnAt.run (by kernel_rfl) (T:=⟨[⟨132,Q0m,fun _=>[]⟩,⟨134,XmB,fun _=>[]⟩],[]⟩) ⟨⟨XND,KTC,trivial⟩,trivial⟩ Tryz.func66 sw66 fun ho hh=>?_)
   unfold w66 tagV
   by_cases g:(64:Int)<(s.length:Int)
   ·have g':=eq_true g
    simp only[QhU,YqB,z16,KHD,Xq6,simprocAttr,CO.tmps,Opd.tmps,optT,Q0m,JaZ,XPB,g',decide_true,decide_false,ne_eq,not_false_eq_true,not_true_eq_false,false_implies,forall_const,and_true,true_and,if_true]
    exact Bt.drop _ hh rfl rfl
   have g':=eq_false g
   rw[if_neg g]
   simp only[QhU,YqB,z16,KHD,Xq6,simprocAttr,CO.tmps,Opd.tmps,optT,z79,JaZ,XPB,g',oD,ne_eq,forall_const]
   refine q2X (S:=Nat×QT) (fun σ=>s.length-σ.1) (fun σ=>[.s s]++tp 1++[.p (h.length+0) 0]++tp 7++[.p (h.length+1) 0]++tp 37) (fun σ=>h++[.blk true true [.i .i64 0,.i .i64 0],itr s σ.1])
    (fun σ=>σ.1<=s.length/\(σ.2=.first↔σ.1=0)/\runB zdl z0i (s.drop σ.1) σ.1 σ.2=runB zdl z0i s 0 .first) (0,.first) ⟨Nat.zero_le _,by simp,rfl⟩ ?_ fun σ hσ=>?_
   ·refine Bt.wk ?_
    simp only[z16,Xq6,simprocAttr]
   obtain ⟨pos,q⟩:=σ
   obtain ⟨h1,h3,h4⟩:=hσ
   dsimp only at h1 h3 h4 ⊢
   have hn:nxV (h++[.blk true true [.i .i64 0,.i .i64 0],itr s pos]) (.p (h.length+1) 0)=if pos<s.length then some (.tu [.b true,.i .i64 (pos:Int),.i .i32 ((Utf8.decode ⟨s.toArray⟩ pos).1:Int)],h++[.blk true true [.i .i64 0,.i .i64 0],itr s (pos+(Utf8.decode ⟨s.toArray⟩ pos).2)]) else some (.tu [.b false],h++[.blk true true [.i .i64 0,.i .i64 0],itr s pos]):=J23 _ 1 s pos rfl
   by_cases g:pos<s.length
   ·have hd:=ZPy (step:=zdl) (ends:=z0i) (q:=q) g
    rw[h4]at hd
    obtain ⟨e1,e2⟩:=Ze8 (step:=zdl) YQD g q
    rw[e1]at hd
    generalize hC:((Utf8.decode ⟨s.toArray⟩ pos).1:Int)=c at *
    cases q with
    | first =>
     have p0:pos=0:=h3.1 rfl
     subst p0
     have b0:((0:Int)<((0:Nat):Int))=False:=eq_false (by decide)
     rcases ZeS c with ⟨d,a1⟩|⟨d,a1,a2,a3⟩|⟨d,a1,a2,a4,a5⟩|⟨d,a1,a2,a4,a5,a6⟩|⟨d,a1,a2,a4,a5,a6⟩|⟨d,a1,a2,a3,a4⟩|⟨d,a1,a2,a3,a4,a5,a6⟩
     ·have hst:zdl .first c=some .rest:=if_pos (d)
      have e3:=e2 _ hst
      rw[hst]at hd
      dsimp only at hd
      simp only[QhU,YqB,z16,KHD,Xq6,simprocAttr,CO.tmps,Opd.tmps,optT,X6H,hn,g,XmB,Q0m,e3,XJx,b0,a1,Bool.not_true,Bool.not_false,decide_true,decide_false,ne_eq,not_false_eq_true,not_true_eq_false,false_implies,forall_const,and_true,true_and,if_true]
      refine ⟨(0+1,.rest),⟨g,by simp,hd.symm⟩,by dsimp only;omega,?_⟩
      dsimp only
      exact Bt.sel [0,1] hh (by decide) (by simp only[KlC,FrSel,BlkSel,AV.ren,renL,AV.ok,okL,Option.some.injEq,exists_eq_left',List.length_cons,List.length_nil,Nat.reduceAdd,Nat.reduceLT,reduceCtorEq,implies_true,exists_eq',itr,YmR,and_self]) (by simp only[KlC,FrSel,BlkSel,AV.ren,renL,AV.ok,okL,Option.some.injEq,exists_eq_left',List.length_cons,List.length_nil,Nat.reduceAdd,Nat.reduceLT,reduceCtorEq,implies_true,exists_eq'])
     ·have hst:zdl .first c=some .rest:=if_pos (d)
      have e3:=e2 _ hst
      rw[hst]at hd
      dsimp only at hd
      simp only[QhU,YqB,z16,KHD,Xq6,simprocAttr,CO.tmps,Opd.tmps,optT,X6H,hn,g,XmB,Q0m,e3,XJx,b0,a1,a2,a3,Bool.not_true,Bool.not_false,decide_true,decide_false,ne_eq,not_false_eq_true,not_true_eq_false,false_implies,forall_const,and_true,true_and,if_true]
      refine ⟨(0+1,.rest),⟨g,by simp,hd.symm⟩,by dsimp only;omega,?_⟩
      dsimp only
      exact Bt.sel [0,1] hh (by decide) (by simp only[KlC,FrSel,BlkSel,AV.ren,renL,AV.ok,okL,Option.some.injEq,exists_eq_left',List.length_cons,List.length_nil,Nat.reduceAdd,Nat.reduceLT,reduceCtorEq,implies_true,exists_eq',itr,YmR,and_self]) (by simp only[KlC,FrSel,BlkSel,AV.ren,renL,AV.ok,okL,Option.some.injEq,exists_eq_left',List.length_cons,List.length_nil,Nat.reduceAdd,Nat.reduceLT,reduceCtorEq,implies_true,exists_eq'])
     ·have hst:zdl .first c=none:=if_neg (d.1)
      rw[hst]at hd
      dsimp only at hd
      simp only[QhU,YqB,z16,KHD,Xq6,simprocAttr,CO.tmps,Opd.tmps,optT,X6H,hn,g,XmB,Q0m,XJx,b0,a1,a2,a4,a5,Bool.not_true,Bool.not_false,decide_true,decide_false,ne_eq,not_false_eq_true,not_true_eq_false,false_implies,forall_const,and_true,true_and,if_true]
      rw[hd]
      exact Bt.drop _ hh rfl rfl
     ·have hst:zdl .first c=none:=if_neg (d.1)
      rw[hst]at hd
      dsimp only at hd
      simp only[QhU,YqB,z16,KHD,Xq6,simprocAttr,CO.tmps,Opd.tmps,optT,X6H,hn,g,XmB,Q0m,XJx,b0,a1,a2,a4,a5,a6,Bool.not_true,Bool.not_false,decide_true,decide_false,ne_eq,not_false_eq_true,not_true_eq_false,false_implies,forall_const,and_true,true_and,if_true]
      rw[hd]
      exact Bt.drop _ hh rfl rfl
     ·have hst:zdl .first c=none:=if_neg (fun z=>d (qr6 z))
      rw[hst]at hd
      dsimp only at hd
      simp only[QhU,YqB,z16,KHD,Xq6,simprocAttr,CO.tmps,Opd.tmps,optT,X6H,hn,g,XmB,Q0m,XJx,b0,a1,a2,a4,a5,a6,Bool.not_true,Bool.not_false,decide_true,decide_false,ne_eq,not_false_eq_true,not_true_eq_false,false_implies,forall_const,and_true,true_and,if_true]
      rw[hd]
      exact Bt.drop _ hh rfl rfl
     ·have hst:zdl .first c=some .rest:=if_pos (d)
      have e3:=e2 _ hst
      rw[hst]at hd
      dsimp only at hd
      simp only[QhU,YqB,z16,KHD,Xq6,simprocAttr,CO.tmps,Opd.tmps,optT,X6H,hn,g,XmB,Q0m,e3,XJx,b0,a1,a2,a3,a4,Bool.not_true,Bool.not_false,decide_true,decide_false,ne_eq,not_false_eq_true,not_true_eq_false,false_implies,forall_const,and_true,true_and,if_true]
      refine ⟨(0+1,.rest),⟨g,by simp,hd.symm⟩,by dsimp only;omega,?_⟩
      dsimp only
      exact Bt.sel [0,1] hh (by decide) (by simp only[KlC,FrSel,BlkSel,AV.ren,renL,AV.ok,okL,Option.some.injEq,exists_eq_left',List.length_cons,List.length_nil,Nat.reduceAdd,Nat.reduceLT,reduceCtorEq,implies_true,exists_eq',itr,YmR,and_self]) (by simp only[KlC,FrSel,BlkSel,AV.ren,renL,AV.ok,okL,Option.some.injEq,exists_eq_left',List.length_cons,List.length_nil,Nat.reduceAdd,Nat.reduceLT,reduceCtorEq,implies_true,exists_eq'])
     ·have hst:zdl .first c=none:=if_neg (fun z=>d (qr6 z))
      rw[hst]at hd
      dsimp only at hd
      simp only[QhU,YqB,z16,KHD,Xq6,simprocAttr,CO.tmps,Opd.tmps,optT,X6H,hn,g,XmB,Q0m,XJx,b0,a1,a2,a3,a4,a5,a6,Bool.not_true,Bool.not_false,decide_true,decide_false,ne_eq,not_false_eq_true,not_true_eq_false,false_implies,forall_const,and_true,true_and,if_true]
      rw[hd]
      exact Bt.drop _ hh rfl rfl
    | rest =>
     have p0:¬pos=0:=fun z=>by have:=h3.2 z;cases this
     have b0:((0:Int)<(pos:Int))=True:=eq_true (by omega)
     rcases ZeS c with ⟨d,a1⟩|⟨d,a1,a2,a3⟩|⟨d,a1,a2,a4,a5⟩|⟨d,a1,a2,a4,a5,a6⟩|⟨d,a1,a2,a4,a5,a6⟩|⟨d,a1,a2,a3,a4⟩|⟨d,a1,a2,a3,a4,a5,a6⟩
     ·have hst:zdl .rest c=some .rest:=if_pos (qr6 d)
      have e3:=e2 _ hst
      rw[hst]at hd
      dsimp only at hd
      simp only[QhU,YqB,z16,KHD,Xq6,simprocAttr,CO.tmps,Opd.tmps,optT,X6H,hn,g,XmB,Q0m,e3,XJx,b0,a1,Bool.not_true,Bool.not_false,decide_true,decide_false,ne_eq,not_false_eq_true,not_true_eq_false,false_implies,forall_const,and_true,true_and,if_true]
      refine ⟨(pos+1,.rest),⟨g,by simp,hd.symm⟩,by dsimp only;omega,?_⟩
      dsimp only
      exact Bt.sel [0,1] hh (by decide) (by simp only[KlC,FrSel,BlkSel,AV.ren,renL,AV.ok,okL,Option.some.injEq,exists_eq_left',List.length_cons,List.length_nil,Nat.reduceAdd,Nat.reduceLT,reduceCtorEq,implies_true,exists_eq',itr,YmR,and_self]) (by simp only[KlC,FrSel,BlkSel,AV.ren,renL,AV.ok,okL,Option.some.injEq,exists_eq_left',List.length_cons,List.length_nil,Nat.reduceAdd,Nat.reduceLT,reduceCtorEq,implies_true,exists_eq'])
     ·have hst:zdl .rest c=some .rest:=if_pos (qr6 d)
      have e3:=e2 _ hst
      rw[hst]at hd
      dsimp only at hd
      simp only[QhU,YqB,z16,KHD,Xq6,simprocAttr,CO.tmps,Opd.tmps,optT,X6H,hn,g,XmB,Q0m,e3,XJx,b0,a1,a2,a3,Bool.not_true,Bool.not_false,decide_true,decide_false,ne_eq,not_false_eq_true,not_true_eq_false,false_implies,forall_const,and_true,true_and,if_true]
      refine ⟨(pos+1,.rest),⟨g,by simp,hd.symm⟩,by dsimp only;omega,?_⟩
      dsimp only
      exact Bt.sel [0,1] hh (by decide) (by simp only[KlC,FrSel,BlkSel,AV.ren,renL,AV.ok,okL,Option.some.injEq,exists_eq_left',List.length_cons,List.length_nil,Nat.reduceAdd,Nat.reduceLT,reduceCtorEq,implies_true,exists_eq',itr,YmR,and_self]) (by simp only[KlC,FrSel,BlkSel,AV.ren,renL,AV.ok,okL,Option.some.injEq,exists_eq_left',List.length_cons,List.length_nil,Nat.reduceAdd,Nat.reduceLT,reduceCtorEq,implies_true,exists_eq'])
     ·have hst:zdl .rest c=some .rest:=if_pos (d.2)
      have e3:=e2 _ hst
      rw[hst]at hd
      dsimp only at hd
      simp only[QhU,YqB,z16,KHD,Xq6,simprocAttr,CO.tmps,Opd.tmps,optT,X6H,hn,g,XmB,Q0m,e3,XJx,b0,a1,a2,a4,a5,Bool.not_true,Bool.not_false,decide_true,decide_false,ne_eq,not_false_eq_true,not_true_eq_false,false_implies,forall_const,and_true,true_and,if_true]
      refine ⟨(pos+1,.rest),⟨g,by simp,hd.symm⟩,by dsimp only;omega,?_⟩
      dsimp only
      exact Bt.sel [0,1] hh (by decide) (by simp only[KlC,FrSel,BlkSel,AV.ren,renL,AV.ok,okL,Option.some.injEq,exists_eq_left',List.length_cons,List.length_nil,Nat.reduceAdd,Nat.reduceLT,reduceCtorEq,implies_true,exists_eq',itr,YmR,and_self]) (by simp only[KlC,FrSel,BlkSel,AV.ren,renL,AV.ok,okL,Option.some.injEq,exists_eq_left',List.length_cons,List.length_nil,Nat.reduceAdd,Nat.reduceLT,reduceCtorEq,implies_true,exists_eq'])
     ·have hst:zdl .rest c=some .rest:=if_pos (d.2)
      have e3:=e2 _ hst
      rw[hst]at hd
      dsimp only at hd
      simp only[QhU,YqB,z16,KHD,Xq6,simprocAttr,CO.tmps,Opd.tmps,optT,X6H,hn,g,XmB,Q0m,e3,XJx,b0,a1,a2,a4,a5,a6,Bool.not_true,Bool.not_false,decide_true,decide_false,ne_eq,not_false_eq_true,not_true_eq_false,false_implies,forall_const,and_true,true_and,if_true]
      refine ⟨(pos+1,.rest),⟨g,by simp,hd.symm⟩,by dsimp only;omega,?_⟩
      dsimp only
      exact Bt.sel [0,1] hh (by decide) (by simp only[KlC,FrSel,BlkSel,AV.ren,renL,AV.ok,okL,Option.some.injEq,exists_eq_left',List.length_cons,List.length_nil,Nat.reduceAdd,Nat.reduceLT,reduceCtorEq,implies_true,exists_eq',itr,YmR,and_self]) (by simp only[KlC,FrSel,BlkSel,AV.ren,renL,AV.ok,okL,Option.some.injEq,exists_eq_left',List.length_cons,List.length_nil,Nat.reduceAdd,Nat.reduceLT,reduceCtorEq,implies_true,exists_eq'])
     ·have hst:zdl .rest c=none:=if_neg (d)
      rw[hst]at hd
      dsimp only at hd
      simp only[QhU,YqB,z16,KHD,Xq6,simprocAttr,CO.tmps,Opd.tmps,optT,X6H,hn,g,XmB,Q0m,XJx,b0,a1,a2,a4,a5,a6,Bool.not_true,Bool.not_false,decide_true,decide_false,ne_eq,not_false_eq_true,not_true_eq_false,false_implies,forall_const,and_true,true_and,if_true]
      rw[hd]
      exact Bt.drop _ hh rfl rfl
     ·have hst:zdl .rest c=some .rest:=if_pos (qr6 d)
      have e3:=e2 _ hst
      rw[hst]at hd
      dsimp only at hd
      simp only[QhU,YqB,z16,KHD,Xq6,simprocAttr,CO.tmps,Opd.tmps,optT,X6H,hn,g,XmB,Q0m,e3,XJx,b0,a1,a2,a3,a4,Bool.not_true,Bool.not_false,decide_true,decide_false,ne_eq,not_false_eq_true,not_true_eq_false,false_implies,forall_const,and_true,true_and,if_true]
      refine ⟨(pos+1,.rest),⟨g,by simp,hd.symm⟩,by dsimp only;omega,?_⟩
      dsimp only
      exact Bt.sel [0,1] hh (by decide) (by simp only[KlC,FrSel,BlkSel,AV.ren,renL,AV.ok,okL,Option.some.injEq,exists_eq_left',List.length_cons,List.length_nil,Nat.reduceAdd,Nat.reduceLT,reduceCtorEq,implies_true,exists_eq',itr,YmR,and_self]) (by simp only[KlC,FrSel,BlkSel,AV.ren,renL,AV.ok,okL,Option.some.injEq,exists_eq_left',List.length_cons,List.length_nil,Nat.reduceAdd,Nat.reduceLT,reduceCtorEq,implies_true,exists_eq'])
     ·have hst:zdl .rest c=none:=if_neg (d)
      rw[hst]at hd
      dsimp only at hd
      simp only[QhU,YqB,z16,KHD,Xq6,simprocAttr,CO.tmps,Opd.tmps,optT,X6H,hn,g,XmB,Q0m,XJx,b0,a1,a2,a3,a4,a5,a6,Bool.not_true,Bool.not_false,decide_true,decide_false,ne_eq,not_false_eq_true,not_true_eq_false,false_implies,forall_const,and_true,true_and,if_true]
      rw[hd]
      exact Bt.drop _ hh rfl rfl
   ·have hpos:pos=s.length:=by omega
    have hd:runB zdl z0i s 0 .first=if z0i q then none else some s.length:=by
     rw[<-h4,hpos,List.drop_length]
     rfl
    by_cases hz:s=[]
    ·subst hz
     have hq:q=.first:=h3.2 (by simpa using hpos)
     subst hq
     rw[hd]
     have hnil:(([]:List UInt8)=[])=True:=eq_true rfl
     simp only[QhU,YqB,z16,KHD,Xq6,simprocAttr,CO.tmps,Opd.tmps,optT,X6H,hn,g,QAQ,hnil,JaZ,XPB,Q0m,oD,ne_eq,forall_const]
     exact Bt.drop _ hh rfl rfl
    ·have hlen:0<s.length:=List.length_pos_iff.2 hz
     have hq:q=.rest:=by
      cases q with
      | rest=>rfl
      | first=>have:=h3.1 rfl;omega
     subst hq
     have hz':(s=[])=False:=eq_false hz
     rw[hd]
     simp only[QhU,YqB,z16,KHD,Xq6,simprocAttr,CO.tmps,Opd.tmps,optT,X6H,hn,g,QAQ,hz',JaZ,XPB,Q0m,XJx,Bool.not_true,Bool.not_false,oD,ne_eq,forall_const]
     exact Bt.drop _ hh rfl rfl
  ·cases e
 ·cases e
end
section
theorem qV8 {α:Type} {xs ys:List α} {i:Nat} (d:α) (hx:i<xs.length) (hy:i<ys.length) (e:xs.take i=ys.take i):(xs.take (i+1)=ys.take (i+1))↔xs.getD i d=ys.getD i d:=by
 rw[List.take_succ_eq_append_getElem hx,List.take_succ_eq_append_getElem hy,e,List.append_right_inj,List.getD_eq_getElem?_getD,List.getD_eq_getElem?_getD,List.getElem?_eq_getElem hx,List.getElem?_eq_getElem hy]
 simp
theorem JeQ {α:Type} {xs ys:List α} {i:Nat} (hi:xs.length<=i):(xs.length=ys.length/\xs.take i=ys.take i)↔xs=ys:=by
 constructor
 ·rintro ⟨h1,h2⟩
  rwa [List.take_of_length_le hi,List.take_of_length_le (by omega)]at h2
 ·rintro rfl
  exact ⟨rfl,rfl⟩
theorem Qhu {α:Type} {xs ys:List α} {i:Nat} (h:¬(xs.length=ys.length/\xs.take i=ys.take i)):¬xs=ys:=by
 rintro rfl
 exact h ⟨rfl,rfl⟩
end
section
set_option maxRecDepth 100000
noncomputable def XvL:List AV->List AB->Option (AV×List AB)
 | [a,b],h=>(getS intR h a).bind fun xs=>(getS intR h b).bind fun ys=>some (.b (decide (xs=ys)),h)
 | _,_=>none
theorem X5R:Spec Tryz.prog 18 XvL:=by
 intro args h v h' e
 unfold XvL at e
 split at e
 ·rename_i a b
  obtain ⟨xs,ha,e⟩:=zZy e
  obtain ⟨ys,hb,e⟩:=zZy e
  cases e
  refine FnAt.c (FnAt.frz0 fun hz=>?_)
  replace ha:=ha.frz
  replace hb:=hb.frz
  generalize h.map AB.freeze=h at *
  refine FnAt.run (by kernel_rfl) (T:=⟨[],[]⟩) ⟨trivial,trivial⟩ Tryz.func18 sw18 fun ho hh=>?_
  simp only[XDA,Bool.and_eq_true]at ho
  have fa:=ha.fx ho.1 (sz:=1) rfl
  have fb:=hb.fx ho.2.1 (sz:=1) rfl
  unfold w18
  simp only[QhU,YqB,z16,Xq6,simprocAttr,fa,fb]
  refine zXM (S:=Nat) (fun i=>xs.length-i) (fun i=>[a,b]++tp 3++[.b (decide (xs.length=ys.length/\xs.take i=ys.take i)),.i .i64 i]++tp 24) (fun i=>xs.length=ys.length->i<=xs.length) 0 (fun _=>Nat.zero_le _) (by simp only[z16,Xq6,simprocAttr,List.take_zero]) fun i hi=>?_
  simp only[z16,Xq6,simprocAttr,fa,fb]
  refine ⟨fun h1=>⟨fun h2=>?_,fun h2=>?_⟩,fun h1=>?_⟩
  ·have h3:i<ys.length:=by omega
   have e1:IntKind.i64.wrap ((i:Int)+1)=((i+1:Nat):Int):=ZWm (by have:=ha.2;unfold maxLen at this;unfold In64;omega)
   simp only[z16,qdd,Xq6,simprocAttr,CO.tmps,Opd.tmps,optT,fa,fb,h2,h3,Zr0,Nat.zero_lt_one,e1]
   refine ⟨i+1,fun _=>h2,by omega,?_,Wk.refl _⟩
   have e2:(xs.length=ys.length/\xs.take (i+1)=ys.take (i+1))=(xs.getD i intR.d=ys.getD i intR.d):=propext (by rw[and_iff_right h1.1];exact qV8 _ h2 h3 h1.2)
   simp only[e2,Jje]
  ·exact Bt.eq (by simp only[AV.b.injEq,decide_eq_decide];exact JeQ (by omega)) (List.append_nil h)
  ·exact Bt.eq (by simp only[AV.b.injEq,decide_eq_decide];exact iff_of_false h1 (Qhu h1)) (List.append_nil h)
 ·cases e
noncomputable def Yow:List AV->List AB->Option (AV×List AB)
 | [a,b],h=>(getS dotR h a).bind fun xs=>(getS dotR h b).bind fun ys=>some (.b (decide (xs=ys)),h)
 | _,_=>none
theorem Jex:Spec Tryz.prog 35 Yow:=by
 intro args h v h' e
 unfold Yow at e
 split at e
 ·rename_i a b
  obtain ⟨xs,ha,e⟩:=zZy e
  obtain ⟨ys,hb,e⟩:=zZy e
  cases e
  refine FnAt.c (FnAt.frz0 fun hz=>?_)
  replace ha:=ha.frz
  replace hb:=hb.frz
  generalize h.map AB.freeze=h at *
  refine FnAt.run (by kernel_rfl) (T:=⟨[],[]⟩) ⟨trivial,trivial⟩ Tryz.func35 sw35 fun ho hh=>?_
  simp only[XDA,Bool.and_eq_true]at ho
  have fa:=ha.fx ho.1 (sz:=2) rfl
  have fb:=hb.fx ho.2.1 (sz:=2) rfl
  unfold w35
  simp only[QhU,YqB,z16,Xq6,simprocAttr,fa,fb]
  refine zXM (S:=Nat) (fun i=>xs.length-i) (fun i=>[a,b]++tp 3++[.b (decide (xs.length=ys.length/\xs.take i=ys.take i)),.i .i64 i]++tp 24) (fun i=>xs.length=ys.length->i<=xs.length) 0 (fun _=>Nat.zero_le _) (by simp only[z16,Xq6,simprocAttr,List.take_zero]) fun i hi=>?_
  simp only[z16,Xq6,simprocAttr,fa,fb]
  refine ⟨fun h1=>⟨fun h2=>?_,fun h2=>?_⟩,fun h1=>?_⟩
  ·have h3:i<ys.length:=by omega
   have e1:IntKind.i64.wrap ((i:Int)+1)=((i+1:Nat):Int):=ZWm (by have:=ha.2;unfold maxLen at this;unfold In64;omega)
   simp only[z16,qdd,Xq6,simprocAttr,CO.tmps,Opd.tmps,optT,fa,fb,h2,h3,zlA,QQN,Q0v,Nat.zero_lt_one,e1]
   refine ⟨i+1,fun _=>h2,by omega,?_,Wk.refl _⟩
   have e2:(xs.length=ys.length/\xs.take (i+1)=ys.take (i+1))=(xs.getD i dotR.d=ys.getD i dotR.d):=propext (by rw[and_iff_right h1.1];exact qV8 _ h2 h3 h1.2)
   simp only[e2,Jje]
  ·exact Bt.eq (by simp only[AV.b.injEq,decide_eq_decide];exact JeQ (by omega)) (List.append_nil h)
  ·exact Bt.eq (by simp only[AV.b.injEq,decide_eq_decide];exact iff_of_false h1 (Qhu h1)) (List.append_nil h)
 ·cases e
end
section
set_option maxRecDepth 100000
abbrev Dots:=List (Int×Int)
end
section
set_option maxRecDepth 100000
def vAt (xs:List Int) (r:Int):Int:=if r<1 then 0 else if (xs.length:Int)<r then 0 else max (xs.getD (r-1).toNat 0) 0
noncomputable def T_At:List AV->List AB->Option (AV×List AB)
 | [s,.i .i64 r],h=>(getS intR h s).bind fun xs=>some (.i .i64 (vAt xs r),h)
 | _,_=>none
theorem QFS:Spec Tryz.prog 93 T_At:=by
 intro args h v h' e
 unfold T_At at e
 split at e
 ·rename_i s r
  obtain ⟨xs,hs,e⟩:=zZy e
  cases e
  refine FnAt.c ?_
  refine FnAt.run (by kernel_rfl) (T:=⟨[],[]⟩) ⟨trivial,trivial⟩ Tryz.func93 sw93 fun ha hh=>?_
  simp only[XDA,Bool.and_eq_true]at ha
  have f:=hs.fx ha.1 (sz:=1) rfl
  unfold w93
  simp only[QhU,YqB,z16,Xq6,simprocAttr,f]
  refine ⟨fun h1=>Bt.eq (by simp [vAt,h1]) (by simp),fun h1=>⟨fun h2=>Bt.eq (by simp [vAt,h1,h2]) (by simp),fun h2=>?_⟩⟩
  have e1:IntKind.i64.wrap (r-1)=r-1:=ZWm (by have:=hs.2;unfold maxLen at this;unfold In64;omega)
  have h3:(r-1).toNat<xs.length:=by omega
  have h4:(0<=r-1/\r-1<(xs.length:Int))=True:=eq_true (by omega)
  simp only[z16,Xq6,simprocAttr,f,e1,h3,h4,Zr0,Nat.zero_lt_one]
  exact Bt.eq (by simp [vAt,h1,h2,intR]) (by simp)
 ·cases e
end
section
set_option maxRecDepth 100000
def Jis:List AV->List AB->Option (AV×List AB)
 | [.i .i64 _],h=>some (.b false,h)
 | _,_=>none
theorem qP4:Spec Tryz.prog 200 Jis:=by
 intro args h v h' e
 unfold Jis at e
 split at e
 ·cases e
  refine FnAt.c (FnAt.run (by kernel_rfl) (T:=⟨[],[]⟩) ⟨trivial,trivial⟩ Tryz.func200 X72 fun ho hh=>?_)
  unfold w200
  simp only[QhU,YqB,z16,Xq6,simprocAttr]
  exact Bt.eq rfl (List.append_nil h)
 ·cases e
def cmpI (a b:Int):Int:=if a<b then -1 else if b<a then 1 else 0
def ZG9:List AV->List AB->Option (AV×List AB)
 | [.i .i64 a,.i .i64 b],h=>some (.i .i64 (cmpI a b),h)
 | _,_=>none
theorem X4L:Spec Tryz.prog 149 ZG9:=by
 intro args h v h' e
 unfold ZG9 at e
 split at e
 ·rename_i a b
  cases e
  refine FnAt.c (FnAt.run (by kernel_rfl) (T:=⟨[⟨200,Jis,fun _=>[]⟩],[]⟩) ⟨⟨qP4,trivial⟩,trivial⟩ Tryz.func149 X0Z fun ho hh=>?_)
  unfold w149
  simp only[QhU,YqB,z16,Xq6,simprocAttr,Jis]
  refine ⟨fun h1=>Bt.eq (by simp [cmpI,h1]) (List.append_nil h),fun h1=>⟨fun h2=>Bt.eq (by simp [cmpI,h1,h2]) (List.append_nil h),fun h2=>Bt.eq (by simp [cmpI,h1,h2]) (List.append_nil h)⟩⟩
 ·cases e
def orI:List Int->Int
 | []=>0
 | a::l=>if a=0 then orI l else a
theorem KQR {l:List Int} {i:Nat} (hi:i<l.length):orI (l.drop i)=if l.getD i intR.d=0 then orI (l.drop (i+1)) else l.getD i intR.d:=by
 rw[List.drop_eq_getElem_cons hi,List.getD_eq_getElem?_getD,List.getElem?_eq_getElem hi]
 rfl
noncomputable def T_Or:List AV->List AB->Option (AV×List AB)
 | [s],h=>(getS intR h s).bind fun l=>some (.i .i64 (orI l),h)
 | _,_=>none
theorem Jm5:Spec Tryz.prog 58 T_Or:=by
 intro args h v h' e
 unfold T_Or at e
 split at e
 ·rename_i s
  obtain ⟨l,hs,e⟩:=zZy e
  cases e
  refine FnAt.c (FnAt.run (by kernel_rfl) (T:=⟨[],[]⟩) ⟨trivial,trivial⟩ Tryz.func58 sw58 fun ho hh=>?_)
  simp only[XDA,Bool.and_eq_true]at ho
  have f1:=hs.fx ho.1 (sz:=1) rfl
  unfold w58
  simp only[QhU,YqB,z16,Xq6,simprocAttr,f1]
  refine zXM (S:=Nat) (fun i=>l.length-i) (fun i=>tp 3++[.i .i64 0]++tp 2++[s,.i .i64 l.length,.i .i64 i]++tp 9) (fun i=>i<=l.length/\orI l=orI (l.drop i)) 0 ⟨Nat.zero_le _,rfl⟩ (by simp only[z16,Xq6,simprocAttr]) fun i hi=>?_
  simp only[z16,Xq6,simprocAttr,f1]
  refine ⟨fun h2=>?_,fun h2=>?_⟩
  ·have e1:IntKind.i64.wrap ((i:Int)+1)=((i+1:Nat):Int):=ZWm (by have:=hs.2;unfold maxLen at this;unfold In64;omega)
   have e2:=KQR h2
   simp only[z16,Xq6,simprocAttr,f1,h2,Zr0,Nat.zero_lt_one,e1]
   refine ⟨fun h3=>Bt.eq (by rw[hi.2,e2,if_neg h3]) (List.append_nil h),fun h3=>⟨i+1,⟨h2,?_⟩,by omega,Wk.refl _⟩⟩
   rw[hi.2,e2,if_pos (Decidable.not_not.1 h3)]
  ·exact Bt.eq (by rw[hi.2,List.drop_eq_nil_of_le (by omega)];rfl) (List.append_nil h)
 ·cases e
def cmpD (a b:Int×Int):Int:=if cmpI a.1 b.1=0 then cmpI a.2 b.2 else cmpI a.1 b.1
def Jmy:List AV->List AB->Option (AV×List AB)
 | [.ag [.i .i64 a,.i .i64 b],.ag [.i .i64 c,.i .i64 d]],h=>some (.i .i64 (cmpD (a,b) (c,d)),h)
 | _,_=>none
end
section
set_option maxRecDepth 100000
def JFm {α:Type} (p:α->Prop) [DecidablePred p]:List α->Nat->Int
 | [],_=>-1
 | a::l,n=>if p a then n else JFm p l (n+1)
def idx {α:Type} (p:α->Prop) [DecidablePred p] (l:List α):Int:=JFm p l 0
theorem KAy {α:Type} (p:α->Prop) [DecidablePred p] (d:α) {l:List α} (i:Nat) (hi:i<l.length):JFm p (l.drop i) i=if p (l.getD i d) then (i:Int) else JFm p (l.drop (i+1)) (i+1):=by
 rw[List.drop_eq_getElem_cons hi,List.getD_eq_getElem?_getD,List.getElem?_eq_getElem hi]
 rfl
theorem JGQ {α:Type} (p:α->Prop) [DecidablePred p]:∀(l:List α) (n:Nat),0<=JFm p l n↔∃x∈l,p x
 | [],n=>by simp [JFm]
 | a::l,n=>by
  have:=JGQ p l (n+1)
  unfold JFm
  by_cases h:p a
  ·simp [h]
  ·rw[if_neg h,this]
   simp [h]
theorem zwC {α:Type} (p:α->Prop) [DecidablePred p] (l:List α):0<=idx p l↔∃x∈l,p x:=JGQ p l 0
theorem YTY {T:Env} (hT:T.Ok Tryz.prog) {f:AV} {p:Int->Prop} [DecidablePred p] (hf:∀x H,qQF T f [.i .i64 x] H=some (.b (decide (p x)),H)) {h:List AB} {s:AV} {l:List Int} (hs:Rd intR h s l):FnC Tryz.prog 194 [s,f] h (.i .i64 (idx p l)) h:=by
 refine FnAt.c (FnAt.run (by kernel_rfl) hT Tryz.func194 q5w fun ho hh=>?_)
 simp only[XDA,Bool.and_eq_true]at ho
 have f1:=hs.fx ho.1 (sz:=1) rfl
 unfold w194
 simp only[QhU,YqB,z16,Xq6,simprocAttr,f1]
 refine zXM (S:=Nat) (fun i=>l.length-i) (fun i=>[s,f]++tp 5++[.i .i64 l.length,.i .i64 i]++tp 10) (fun i=>i<=l.length/\idx p l=JFm p (l.drop i) i) 0 ⟨Nat.zero_le _,rfl⟩ (by simp only[z16,Xq6,simprocAttr]) fun i hi=>?_
 simp only[z16,Xq6,simprocAttr,f1]
 refine ⟨fun h2=>?_,fun h2=>?_⟩
 ·have e1:IntKind.i64.wrap ((i:Int)+1)=((i+1:Nat):Int):=ZWm (by have:=hs.2;unfold maxLen at this;unfold In64;omega)
  have e2:=KAy p intR.d i h2
  simp only[z16,Xq6,simprocAttr,f1,h2,Zr0,Nat.zero_lt_one,e1,hf]
  refine ⟨fun h3=>Bt.eq (by rw[hi.2,e2,if_pos h3]) (List.append_nil h),fun h3=>⟨i+1,⟨h2,?_⟩,by omega,Wk.refl _⟩⟩
  rw[hi.2,e2,if_neg h3]
 ·exact Bt.eq (by rw[hi.2,List.drop_eq_nil_of_le (by omega)];rfl) (List.append_nil h)
open Classical in
noncomputable def YmY (f:AV) (p:Int->Prop) [DecidablePred p]:List AV->List AB->Option (AV×List AB)
 | [s,f'],h=>(getS intR h s).bind fun l=>if f'=f then some (.i .i64 (idx p l),h) else none
 | _,_=>none
theorem XAy {T:Env} (hT:T.Ok Tryz.prog) {f:AV} {p:Int->Prop} [DecidablePred p] (hf:∀x H,qQF T f [.i .i64 x] H=some (.b (decide (p x)),H)):Spec Tryz.prog 194 (YmY f p):=by
 intro args h v h' e
 unfold YmY at e
 split at e
 ·rename_i s f'
  obtain ⟨l,hs,e2⟩:=zZy e
  by_cases hff:f'=f
  ·rw[if_pos hff]at e2
   cases e2
   rw[hff]
   exact YTY hT hf hs
  ·rw[if_neg hff]at e2
   cases e2
 ·cases e
theorem QIQ {T:Env} (hT:T.Ok Tryz.prog) {f:AV} {p:Int->Prop} [DecidablePred p] (hf:∀x H,qQF T f [.i .i64 x] H=some (.b (decide (p x)),H)) {h:List AB} {s:AV} {l:List Int} (hs:Rd intR h s l):FnC Tryz.prog 128 [s,f] h (.b (decide (∃x∈l,p x))) h:=by
 refine FnAt.c (FnAt.run (by kernel_rfl) (T:=⟨[⟨194,YmY f p,fun _=>[]⟩],[]⟩) ⟨⟨XAy hT hf,trivial⟩,trivial⟩ Tryz.func128 qqU fun ho hh=>?_)
 simp only[XDA,Bool.and_eq_true]at ho
 have f1:=hs.fx ho.1 (sz:=1) rfl
 unfold w128
 simp only[QhU,YqB,z16,Xq6,simprocAttr,f1,YmY]
 exact Bt.eq (by simp only[AV.b.injEq,decide_eq_decide];exact zwC p l) (List.append_nil h)
end
section
set_option maxRecDepth 100000
def Qd0:List AV->List AB->Option (AV×List AB)
 | [.i .i64 a,.i .i64 b],h=>some (.i .i64 (max a b),h)
 | _,_=>none
theorem YEy:Spec Tryz.prog 96 Qd0:=by
 intro args h v h' e
 unfold Qd0 at e
 split at e
 ·cases e
  refine FnAt.c (FnAt.run (by kernel_rfl) (T:=⟨[],[]⟩) ⟨trivial,trivial⟩ Tryz.func96 sw96 fun ho hh=>?_)
  unfold w96
  simp only[QhU,YqB,z16,Xq6,simprocAttr]
  exact Bt.eq rfl (List.append_nil h)
 ·cases e
def fA:CC:=(CC.seq (CC.reg 2 [{ dst:=some 7,guard:=none,op:=CO.mv (Opd.t 10) }]) (CC.reg 3 [{ dst:=some 8,guard:=none,op:=CO.mv (Opd.t 11) }]))
def fB:CC:=(CC.block 1 (CC.reg 4 [{ dst:=some 12,guard:=none,op:=CO.ld none (Opd.t 5) },{ dst:=some 13,guard:=none,op:=CO.ld none (Opd.t 4) },{ dst:=some 14,guard:=none,op:=CO.mv (Opd.t 7) },{ dst:=some 15,guard:=none,op:=CO.mv (Opd.t 8) },{ dst:=some 16,guard:=none,op:=CO.call (Opd.t 12) [Opd.t 13,Opd.t 14,Opd.t 15] },{ dst:=none,guard:=none,op:=CO.st none (Opd.t 4) (Opd.t 16) }]))
def QFo:List AV->List AB->Option (AV×List AB)
 | [a,b],h=>if a.isSl=true/\b.isSl=true then some (.f (.func 195) [] [.p (h.length+0) 0,.p (h.length+1) 0],h++[.blk false true [a],.blk false true [b]]) else none
 | _,_=>none
theorem qPp:Spec Tryz.prog 130 QFo:=by
 intro args h v h' e
 unfold QFo at e
 split at e
 ·rename_i a b
  split at e
  ·rename_i hs
   cases e
   refine FnAt.c (FnAt.run (by kernel_rfl) (T:=⟨[],[]⟩) ⟨trivial,trivial⟩ Tryz.func130 qq4 fun ho hh=>?_)
   unfold w130
   simp only[QhU,YqB,z16,Xq6,simprocAttr,Xm6 hs.1,Xm6 hs.2,Zl7 hs.1,Zl7 hs.2]
   exact Bt.eq rfl rfl
  ·cases e
 ·cases e
end
section
set_option maxRecDepth 100000
def JaQ (a b:Int×Int):Prop:=a.1<b.1\/a.1=b.1/\a.2<b.2
instance (a b:Int×Int):Decidable (JaQ a b):=by unfold JaQ;infer_instance
end
section
set_option maxRecDepth 100000
set_option maxHeartbeats 4000000
def wI (a b:Int):Int:=a+min b (4611686018427387904-a)
def Jsh:List AV->List AB->Option (AV×List AB)
 | [.i .i64 a,.i .i64 b,_],h=>if 0<=a/\a<=4611686018427387904/\0<=b then some (.i .i64 (wI a b),h) else none
 | _,_=>none
theorem zko:Spec Tryz.prog 202 Jsh:=by
 intro args h v h' e
 unfold Jsh at e
 split at e
 ·rename_i a b x
  split at e
  ·rename_i hc
   cases e
   refine FnAt.c (FnAt.run (by kernel_rfl) (T:=⟨[],[]⟩) ⟨trivial,trivial⟩ Tryz.func202 JfB fun ho hh=>?_)
   have e1:IntKind.i64.wrap (4611686018427387904-a)=4611686018427387904-a:=ZWm (by unfold In64;omega)
   have e2:IntKind.i64.wrap (a+min b (4611686018427387904-a))=wI a b:=ZWm (by unfold In64;omega)
   unfold w202
   simp only[QhU,YqB,z16,Xq6,simprocAttr,e1,e2]
   exact Bt.eq rfl (List.append_nil h)
  ·cases e
 ·cases e
def gFr (p i1 i2:Nat):List AV:=[.f (.func 195) [] [.p i1 0,.p i2 0],.i .i64 0,.f (.func 202) [] [],.tu [],.p (p+0) 0,.p (p+1) 0,.i .i64 0,.tu [],.tu [],.f (.func 195) [] [.p i1 0,.p i2 0],.tu [],.tu [],.tu [],.tu [],.tu [],.tu [],.tu [],.tu []]
def XzV (p i1 i2:Nat) (m:Bool) (acc:Int):List AB:=[.blk true true [.i .i64 acc],.blk false m [.f (.func 202) [] []],.lp .ready .n (gFr p i1 i2) [10,11] fA fB]
theorem Qsn (h:List AB) (i1 i2:Nat) (m:Bool) (acc a b:Int) (hc:0<=acc/\acc<=4611686018427387904/\0<=a) :
  RdAt' Tryz.prog (h.length+2) [.i .i64 a,.i .i64 b] (h++XzV h.length i1 i2 m acc) (.b true) (h++XzV h.length i1 i2 m (wI acc a)):=by
 have hc':=eq_true hc
 refine RdAt'.run (by kernel_rfl) (T:=⟨[⟨202,Jsh,fun _=>[]⟩],[]⟩) ⟨⟨zko,trivial⟩,trivial⟩ (by rw[qu4];rfl) rfl ?_
 simp only[gFr,ZuR,fA,XzV,z16,Xq6,simprocAttr]
 refine ⟨_,_,_,_,_,by rw[qu4];rfl,?_⟩
 simp only[fB,z16,Xq6,simprocAttr,Jsh,hc]
 exact ⟨_,_,_,_,_,_,by rw[qu4];rfl,rfl,by unfold qZF;dsimp only;rw[Yie];rfl⟩
def wQ (h:List AB) (i1 i2:Nat) (a:Int) (hh r:List AB):Prop:=∃m acc,(0<=acc/\acc<=4611686018427387904/\0<=a)/\hh=h++XzV h.length i1 i2 m acc/\r=h++XzV h.length i1 i2 m (wI acc a)
open Classical in
noncomputable def wT (h:List AB) (i1 i2:Nat):List AV->List AB->Option (AV×List AB)
 | [.i .i64 a,.i .i64 _],hh=>if c:∃r,wQ h i1 i2 a hh r then some (.b true,c.choose) else none
 | _,_=>none
theorem K8q (h:List AB) (i1 i2:Nat) (a b:Int) (m:Bool) (acc:Int) (ha:0<=acc/\acc<=4611686018427387904/\0<=a):wT h i1 i2 [.i .i64 a,.i .i64 b] (h++XzV h.length i1 i2 m acc)=some (.b true,h++XzV h.length i1 i2 m (wI acc a)):=by
 have hc:∃r,wQ h i1 i2 a (h++XzV h.length i1 i2 m acc) r:=⟨_,m,acc,ha,rfl,rfl⟩
 obtain ⟨m',acc',_,e,e5⟩:=hc.choose_spec
 replace e:=List.append_cancel_left e
 simp only[XzV,List.cons.injEq,AB.blk.injEq,AV.i.injEq,and_true,true_and]at e
 obtain ⟨e1,e2⟩:=e
 subst e1 e2
 simp only[wT]
 rw[dif_pos hc,e5]
theorem qeI (h:List AB) (i1 i2:Nat):qBU Tryz.prog (h.length+2) (wT h i1 i2):=by
 intro args hh v h' e
 unfold wT at e
 split at e
 ·rename_i a b
  split at e
  ·rename_i hc
   cases e
   obtain ⟨m,acc,h1,h2,h3⟩:=hc.choose_spec
   rw[h3,h2]
   exact Qsn h i1 i2 m acc a b h1
  ·cases e
 ·cases e
theorem Y6d (xs:List Int) (r:Int):0<=vAt xs r:=by unfold vAt;split <;> (try split) <;> omega
def wS (xs:List Int):Nat->Int
 | 0=>0
 | i+1=>wI (wS xs i) (vAt xs ((i+1:Nat):Int))
theorem znU (xs:List Int):∀i,0<=wS xs i/\wS xs i<=4611686018427387904
 | 0=>⟨Int.le_refl _,by simp [wS]⟩
 | i+1=>by
  have h1:=znU xs i
  have h2:=Y6d xs ((i+1:Nat):Int)
  simp only[wS,wI]
  omega
theorem JjJ (h:List AB) (hz:h.map AB.freeze=h) (hh:HOk h) (i1 i2:Nat) (sv:AV) (xs:List Int) (h1:bxS h i1=some sv) (h2:bxS h i2=some .ns) (hx:Rd intR h sv xs) (hl:xs.length<=1000000) :
  FnAt Tryz.prog 195 [.y (h.length+2),.p i1 0,.p i2 0] (h++XzV h.length i1 i2 true 0) (.tu []) (h++XzV h.length i1 i2 true (wS xs xs.length)):=by
 refine FnAt.run (by kernel_rfl) (T:=⟨[⟨93,T_At,fun _=>[]⟩],[⟨h.length+2,wT h i1 i2,fun _=>[h.length+0,h.length+2]⟩]⟩) ⟨⟨QFS,trivial⟩,⟨qeI h i1 i2,trivial⟩⟩ Tryz.func195 XkX fun _ _=>?_
 have f1:=qbm (Xeg h1)
 have f2:=qbm (Xeg h2)
 have f3:=hx.fx (YeK h1 hh) (sz:=1) rfl
 unfold w195
 simp only[QhU,YqB,z16,Xq6,simprocAttr,f1,f2,f3]
 have mx:max (xs.length:Int) 0=(xs.length:Int):=by omega
 refine q2X (S:=Nat) (fun i=>xs.length-i) (fun i=>[.y (h.length+2),.p i1 0,.p i2 0]++tp 6++[.i .i64 (max (xs.length:Int) 0),.i .i64 i]++tp 14) (fun i=>h++XzV h.length i1 i2 true (wS xs i)) (fun i=>i<=xs.length) 0 (Nat.zero_le _) ?_ fun i hi=>?_
 ·exact Bt.wk (by simp only[z16,Xq6,simprocAttr])
 ·simp only[XzV,gFr,z16,Xq6,simprocAttr,f1,f2,f3,mx]
  refine ⟨fun g1=>?_,fun g1=>?_⟩
  ·have e1:IntKind.i64.wrap ((i:Int)+1)=((i+1:Nat):Int):=ZWm (by unfold In64;omega)
   have e2:=fun b m=>K8q h i1 i2 (vAt xs ((i+1:Nat):Int)) b m (wS xs i) ⟨(znU xs i).1,(znU xs i).2,Y6d xs _⟩
   simp only[XzV,gFr]at e2
   simp only[z16,qdd,Xq6,simprocAttr,CO.tmps,Opd.tmps,optT,f1,f2,f3,T_At,e1,e2,XUr hh,qDR hz]
   exact ⟨i+1,by omega,by dsimp only;omega,Bt.wk (by simp only[z16,Xq6,simprocAttr])⟩
  ·have:i=xs.length:=by omega
   subst this
   exact Bt.refl _ _ _
noncomputable def QpO:List AV->List AB->Option (AV×List AB)
 | [.f (.func 195) [] [.p i1 0,.p i2 0],.i .i64 0,.f (.func 202) [] []],h=>(bxS h i1).bind fun sv=>(bxS h i2).bind fun sw=>match sw with
  | .ns=>(getS intR h sv).bind fun xs=>if xs.length<=1000000 then some (.i .i64 (wS xs xs.length),h) else none
  | _=>none
 | _,_=>none
theorem Kom:Spec Tryz.prog 201 QpO:=by
 intro args h v h' e
 unfold QpO at e
 split at e
 ·rename_i i1 i2
  obtain ⟨sv,h1,e⟩:=oQ.1 e
  obtain ⟨sw,h2,e⟩:=oQ.1 e
  split at e
  ·obtain ⟨xs,hx,e⟩:=zZy e
   split at e
   ·rename_i hl
    cases e
    refine FnAt.c (FnAt.frz0 fun hz=>?_)
    replace hx:=hx.frz
    rw[<-Y6Y]at h1 h2
    generalize h.map AB.freeze=h at *
    refine FnAt.run (by kernel_rfl) (T:=⟨[],[]⟩) ⟨trivial,trivial⟩ Tryz.func201 KOX fun ho hh=>?_
    unfold w201
    simp only[QhU,YqB,z16,Xq6,simprocAttr]
    refine W_rf rfl (by simp only[z16,Xq6,simprocAttr]) rfl (by simp only[z16,Xq6,simprocAttr];rfl) (JjJ h hz hh i1 i2 sv xs h1 h2 hx hl) (by rw[qu4];rfl) (by decide) ?_
    simp only[XzV,gFr,z16,Xq6,simprocAttr]
    exact Bt.dropI _ hh rfl
   ·cases e
  ·cases e
 ·cases e
noncomputable def qal:List AV->List AB->Option (AV×List AB)
 | [a],h=>(getS intR h a).bind fun xs=>if xs.length<=1000000 then some (.i .i64 (wS xs xs.length),h) else none
 | _,_=>none
theorem zZe:Spec Tryz.prog 150 qal:=by
 intro args h v h' e
 unfold qal at e
 split at e
 ·rename_i a
  obtain ⟨xs,hx,e⟩:=zZy e
  split at e
  ·rename_i hl
   cases e
   refine FnAt.c (FnAt.run (by kernel_rfl) (T:=⟨[⟨130,QFo,fun _=>[]⟩,⟨201,QpO,fun _=>[]⟩],[]⟩) ⟨⟨qPp,Kom,trivial⟩,trivial⟩ Tryz.func150 JMJ fun ho hh=>?_)
   simp only[XDA,Bool.and_eq_true]at ho
   have f1:=hx.fx ho.1 (sz:=1) rfl
   have n1:AV.ns.isSl=true:=rfl
   unfold w150
   simp only[QhU,YqB,z16,Xq6,simprocAttr,QFo,QpO,f1,hx.isSl,n1,hl]
   exact Bt.dropI _ hh rfl
  ·cases e
 ·cases e
end
section
set_option maxRecDepth 100000
set_option maxHeartbeats 4000000
def AV.isNs:AV->Bool
 | .ns=>true
 | _=>false
end
section
theorem YtW (a b:Int×Int):cmpD a b<0↔JaQ a b:=by
 obtain ⟨a1,a2⟩:=a
 obtain ⟨b1,b2⟩:=b
 simp only[cmpD,cmpI,JaQ]
 repeat' split
 all_goals omega
theorem JW8 (a:Int×Int):¬JaQ a a:=by simp [JaQ]
theorem q5V {a b c:Int×Int} (h:JaQ a b) (k:JaQ b c):JaQ a c:=by simp only[JaQ]at *;omega
theorem YZu (a b:Int×Int):JaQ a b\/a=b\/JaQ b a:=by
 obtain ⟨a1,a2⟩:=a
 obtain ⟨b1,b2⟩:=b
 simp only[JaQ,Prod.mk.injEq]
 omega
def srtD (l:Dots):Dots:=l.mergeSort fun x y=>!(decide (cmpD y x<0))
theorem QL5 (l:Dots):(srtD l).Perm l:=List.mergeSort_perm l _
theorem Qv5 (l:Dots):(srtD l).length=l.length:=(QL5 l).length_eq
def YBZ (l:Dots):Prop:=l.Pairwise fun a b=>¬JaQ b a
end
end Go.Proofs.YtebcngelgdpbjaaGreat
