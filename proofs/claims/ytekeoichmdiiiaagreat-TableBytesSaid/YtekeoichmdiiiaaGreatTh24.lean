/- Part 24 of what the laws' proofs rest on. No condition. -/
import Derived.Shelf.SlSortCmp.NoneTotal
import Derived.Test.YtekeoichmdiiiaaGreatTh23
set_option linter.all false
namespace Go.Proofs.YtekeoichmdiiiaaGreat
section
set_option maxRecDepth 100000
set_option maxHeartbeats 4000000
def blkW (j:Nat) (lim:Int) (s:AV):AB:=.blk false true [.p j 0,.i .i64 lim,s]
def blkF (e:Int):AB:=.blk true true [.i .i64 e,.i .i64 0]
def qBs (s:AV) (h:List AB):List AB:=match s with
 | .sl q _ _ _ _=>h.set q .dead
 | _=>h
theorem JA8 (s:AV) (h:List AB):(qBs s h).length=h.length:=by unfold qBs;split <;> simp
structure WrH (h:List AB) (i j:Nat) (lim:Int) (s:AV) (bs:List UInt8) (e:Int):Prop where
 hi:h[i]?=some (blkW j lim s)
 hj:h[j]?=some (blkF e)
 hlim:lim<=67108864
 hlen:(bs.length:Int)<=lim
 hs:(s=.ns/\bs=[])\/∃q,s=apS X0d q bs/\bs.length≠0/\h[q]?=some (resB X0d true bs)
section
variable {h:List AB} {i j:Nat} {lim:Int} {s:AV} {bs:List UInt8} {e:Int}
theorem WrH.ne (H:WrH h i j lim s bs e):i≠j:=by
 rintro rfl
 have:=H.hi.symm.trans H.hj
 simp [blkW,blkF]at this
theorem WrH.il (H:WrH h i j lim s bs e):i<h.length:=(List.getElem?_eq_some_iff.1 H.hi).1
theorem WrH.jl (H:WrH h i j lim s bs e):j<h.length:=(List.getElem?_eq_some_iff.1 H.hj).1
theorem KFt {l:List UInt8} (h0:l.length≠0):resB X0d true l=.blk true true (X0d.cells l):=by unfold resB;rw[if_neg h0]
theorem Keb (q:Nat) {l:List UInt8} (h0:l.length≠0):apS X0d q l=.sl q 0 l.length l.length (some 1):=by unfold apS;rw[if_neg h0];rfl
theorem WrH.q (H:WrH h i j lim s bs e) {q:Nat} (hq:s=apS X0d q bs) (h0:bs.length≠0):h[q]?=some (.blk true true (X0d.cells bs))/\q≠i/\q≠j/\q<h.length:=by
 rcases H.hs with ⟨q1,q2⟩|⟨q',q1,_,q3⟩
 ·rw[q2]at h0
  exact absurd rfl h0
 ·have:q'=q:=by
   rw[q1,Keb _ h0,Keb _ h0]at hq
   injection hq
  subst this
  rw[KFt h0]at q3
  refine ⟨q3,?_,?_,(List.getElem?_eq_some_iff.1 q3).1⟩
  ·rintro rfl
   have:=q3.symm.trans H.hi
   simp [blkW]at this
  ·rintro rfl
   have:=q3.symm.trans H.hj
   simp only[blkF,Option.some.injEq,AB.blk.injEq,true_and]at this
   rw[YG4]at this
   cases bs with
   | nil=>exact h0 rfl
   | cons x l=>simp [u8A]at this
theorem WrH.uniq {i:Nat} {x y:Nat×Int×AV×List UInt8×Int} (H:WrH h i x.1 x.2.1 x.2.2.1 x.2.2.2.1 x.2.2.2.2) (K:WrH h i y.1 y.2.1 y.2.2.1 y.2.2.2.1 y.2.2.2.2):x=y:=by
 obtain ⟨j,lim,s,bs,e⟩:=x
 obtain ⟨j',lim',s',bs',e'⟩:=y
 dsimp only at H K
 have h1:=H.hi.symm.trans K.hi
 simp only[blkW,Option.some.injEq,AB.blk.injEq,List.cons.injEq,AV.p.injEq,AV.i.injEq,true_and,and_true]at h1
 obtain ⟨rfl,rfl,rfl⟩:=h1
 have h2:=H.hj.symm.trans K.hj
 simp only[blkF,Option.some.injEq,AB.blk.injEq,List.cons.injEq,AV.i.injEq,true_and,and_true]at h2
 subst h2
 have:bs=bs':=by
  rcases H.hs with ⟨q1,q2⟩|⟨q,q1,q2,q3⟩ <;> rcases K.hs with ⟨p1,p2⟩|⟨p,p1,p2,p3⟩
  ·rw[q2,p2]
  ·rw[q1,Keb _ p2]at p1;cases p1
  ·rw[p1,Keb _ q2]at q1;cases q1
  ·have hqp:p=q:=by
    rw[q1,Keb _ q2,Keb _ p2]at p1
    injection p1 with p1
    exact p1.symm
   subst hqp
   exact QXv (q1.symm.trans p1) (by have:=q3.symm.trans p3;injection this)
 rw[this]
open Classical in
noncomputable def wrM (h:List AB) (i:Nat):Option (Nat×Int×AV×List UInt8×Int):=if e:∃x:Nat×Int×AV×List UInt8×Int,WrH h i x.1 x.2.1 x.2.2.1 x.2.2.2.1 x.2.2.2.2 then some e.choose else none
theorem WrH.get (H:WrH h i j lim s bs e):wrM h i=some (j,lim,s,bs,e):=by
 have hx:∃x:Nat×Int×AV×List UInt8×Int,WrH h i x.1 x.2.1 x.2.2.1 x.2.2.2.1 x.2.2.2.2:=⟨(j,lim,s,bs,e),H⟩
 unfold wrM
 rw[dif_pos hx]
 exact congrArg some (WrH.uniq hx.choose_spec (y:=(j,lim,s,bs,e)) H)
theorem Zix {β:Type} {f:Nat×Int×AV×List UInt8×Int->Option β} {b:β} (q:(wrM h i).bind f=some b):∃j lim s bs e,WrH h i j lim s bs e/\f (j,lim,s,bs,e)=some b:=by
 obtain ⟨x,h1,h2⟩:=oQ.1 q
 unfold wrM at h1
 split at h1
 ·rename_i hx
  cases h1
  exact ⟨_,_,_,_,_,hx.choose_spec,h2⟩
 ·cases h1
def wX (h:List AB) (i j:Nat) (lim:Int) (s:AV) (st:List UInt8×Int):Option Nat->List AB
 | none=>h.set j (blkF st.2)
 | some k=>((qBs s h).set i (blkW j lim (apS X0d (h.length+k) st.1))).set j (blkF st.2)
def wK (h:List AB) (s:AV) (st:List UInt8×Int):Option Nat->AV
 | none=>s
 | some k=>apS X0d (h.length+k) st.1
def WInv (d:Nat) (bs:List UInt8) (st:List UInt8×Int) (L:List AB):Option Nat->Prop
 | none=>st.1=bs
 | some k=>d<=k/\bs.length<st.1.length/\L[k]?=some (resB X0d true st.1)
noncomputable def wOut (h:List AB) (i j:Nat) (lim:Int) (s:AV) (bs:List UInt8) (st:List UInt8×Int):List AB:=wX h i j lim s st (if st.1=bs then none else some 0)++[if st.1=bs then .dead else resB X0d true st.1]
noncomputable def wPut (h:List AB) (i:Nat) (enc:List UInt8) (ok:Bool):Option (AV×List AB):=(wrM h i).bind fun x=>some (.i .i64 (wput x.2.1 x.2.2.2.1 x.2.2.2.2 enc ok).2,wOut h i x.1 x.2.1 x.2.2.1 x.2.2.2.1 (wput x.2.1 x.2.2.2.1 x.2.2.2.2 enc ok))
noncomputable def wSeq (f:Int->List UInt8×Int->List UInt8×Int) (h:List AB) (i:Nat):Option (AV×List AB):=(wrM h i).bind fun x=>some (.tu [],wOut h i x.1 x.2.1 x.2.2.1 x.2.2.2.1 (f x.2.1 (x.2.2.2.1,x.2.2.2.2)))
structure FOk (f:Int->List UInt8×Int->List UInt8×Int):Prop where
 le:∀lim st,(st.1.length:Int)<=lim->((f lim st).1.length:Int)<=lim
 grow:∀lim st,(f lim st).1=st.1\/st.1.length<(f lim st).1.length
theorem XqL (st:List UInt8×Int) (k:Option Nat):(wX h i j lim s st k).length=h.length:=by
 cases k with
 | none=>simp [wX]
 | some k=>simp [wX,JA8]
theorem wX_j (H:WrH h i j lim s bs e) (st:List UInt8×Int) (k:Option Nat):(wX h i j lim s st k)[j]?=some (blkF st.2):=by
 have:=H.jl
 cases k with
 | none=>simp only[wX];rw[List.getElem?_set_self this]
 | some k=>simp only[wX];rw[List.getElem?_set_self (by rw[List.length_set,JA8];exact this)]
theorem wX_i (H:WrH h i j lim s bs e) (st:List UInt8×Int) (k:Option Nat):(wX h i j lim s st k)[i]?=some (blkW j lim (wK h s st k)):=by
 have:=H.il
 cases k with
 | none=>simp only[wX,wK];rw[List.getElem?_set_ne (Ne.symm H.ne),H.hi]
 | some k=>simp only[wX,wK];rw[List.getElem?_set_ne (Ne.symm H.ne),List.getElem?_set_self (by rw[JA8];exact this)]
theorem KC2 {s:AV} {h:List AB} {k:Nat} (hk:k∉idOf s):(qBs s h)[k]?=h[k]?:=by
 unfold qBs
 split
 ·rw[List.getElem?_set_ne (fun q=>hk (by rw[q];simp [idOf]))]
 ·rfl
theorem ZxI (st:List UInt8×Int) (k:Option Nat) {m:Nat} (h1:m≠i) (h2:m≠j) (h3:m∉idOf s):(wX h i j lim s st k)[m]?=h[m]?:=by
 cases k with
 | none=>simp only[wX];rw[List.getElem?_set_ne (Ne.symm h2)]
 | some k=>simp only[wX];rw[List.getElem?_set_ne (Ne.symm h2),List.getElem?_set_ne (Ne.symm h1),KC2 h3]
theorem Z6V (bs':List UInt8) (e e':Int) (k:Option Nat):(wX h i j lim s (bs',e) k).set j (blkF e')=wX h i j lim s (bs',e') k:=by
 cases k with
 | none=>simp only[wX];rw[List.set_set]
 | some k=>simp only[wX];rw[List.set_set]
theorem KnG (H:WrH h i j lim s bs e) {st:List UInt8×Int} {k:Option Nat} {d:Nat} {L:List AB} (I:WInv d bs st L k) (hl:(st.1.length:Int)<=lim):WrH (wX h i j lim s st k++L) i j lim (wK h s st k) st.1 st.2:=by
 have hil:=H.il
 have hjl:=H.jl
 refine ⟨?_,?_,H.hlim,hl,?_⟩
 ·rw[List.getElem?_append_left (by rw[XqL];exact hil),wX_i H]
 ·rw[List.getElem?_append_left (by rw[XqL];exact hjl),wX_j H]
 ·cases k with
  | none =>
   have hb:st.1=bs:=I
   rcases H.hs with ⟨q1,q2⟩|⟨q,q1,q2,q3⟩
   ·exact .inl ⟨q1,by rw[hb,q2]⟩
   ·obtain ⟨p1,p2,p3,p4⟩:=H.q q1 q2
    refine .inr ⟨q,by rw[hb];exact q1,by rw[hb];exact q2,?_⟩
    rw[List.getElem?_append_left (by rw[XqL];exact p4),hb]
    simp only[wX]
    rw[List.getElem?_set_ne (Ne.symm p3)]
    exact q3
  | some k =>
   obtain ⟨_,i1,i2⟩:=I
   refine .inr ⟨h.length+k,rfl,by omega,?_⟩
   rw[List.getElem?_append_right (by rw[XqL];omega),XqL,Nat.add_sub_cancel_left]
   exact i2
theorem YUY (lim:Int) (st:List UInt8×Int) (enc:List UInt8) (ok:Bool):(wput lim st.1 st.2 enc ok).1=st.1\/(wput lim st.1 st.2 enc ok).1=st.1++enc:=by
 unfold wput
 split
 ·split
  ·split
   ·exact .inl rfl
   ·exact .inr rfl
  ·exact .inl rfl
 ·exact .inl rfl
theorem JLo (lim:Int) (st:List UInt8×Int) (enc:List UInt8) (ok:Bool):(wput lim st.1 st.2 enc ok).1=st.1\/st.1.length<(wput lim st.1 st.2 enc ok).1.length:=by
 rcases YUY lim st enc ok with q|q
 ·exact .inl q
 ·cases enc with
  | nil=>exact .inl (by rw[q,List.append_nil])
  | cons a l=>exact .inr (by rw[q,List.length_append,List.length_cons];omega)
theorem zB1 (H:WrH h i j lim s bs e) {st st':List UInt8×Int} {k:Option Nat} {D R:List AB} (I:WInv D.length bs st (D++R) k) (hle:(st'.1.length:Int)<=lim) (hg:st'.1=st.1\/st.1.length<st'.1.length):∃k' R',wOut (wX h i j lim s st k++(D++R)) i j lim (wK h s st k) st.1 st'=wX h i j lim s st' k'++(D++R')/\WInv D.length bs st' (D++R') k':=by
 have hlen:(wX h i j lim s st k++(D++R)).length=h.length+(D++R).length:=by rw[List.length_append,XqL]
 have hil:=H.il
 have hjl:=H.jl
 unfold wOut
 have g2:∀(A:List AB) (W0 W F0 F1:AB),(((A.set i W0).set j F0).set i W).set j F1=(A.set i W).set j F1:=fun A W0 W F0 F1=>by
  rw[List.set_comm _ _ (Ne.symm H.ne),List.set_set,List.set_set]
 by_cases hs:st'.1=st.1
 ·rw[if_pos hs,if_pos hs]
  have e1:wX (wX h i j lim s st k++(D++R)) i j lim (wK h s st k) st' none++[.dead]=wX h i j lim s st' k++(D++(R++[.dead])):=by
   show (wX h i j lim s st k++(D++R)).set j (blkF st'.2)++[.dead]=_
   rw[List.set_append_left _ _ (by rw[XqL];exact hjl),show st=(st.1,st.2) from rfl,Z6V,<-hs]
   simp only[List.append_assoc]
  refine ⟨k,R++[.dead],by rw[e1],?_⟩
  cases k with
  | none=>exact hs.trans I
  | some k =>
   obtain ⟨i0,i1,i2⟩:=I
   refine ⟨i0,by rw[hs];exact i1,?_⟩
   rw[<-List.append_assoc,List.getElem?_append_left (List.getElem?_eq_some_iff.1 i2).1,hs]
   exact i2
 ·rw[if_neg hs,if_neg hs]
  have hlt:=hg.resolve_left hs
  have e0:(wX h i j lim s st k++(D++R)).length+0=h.length+(D++R).length:=by rw[hlen,Nat.add_zero]
  cases k with
  | none =>
   have hb:st.1=bs:=I
   have e1:wX (wX h i j lim s st none++(D++R)) i j lim s st' (some 0)++[resB X0d true st'.1]=wX h i j lim s st' (some (D++R).length)++(D++(R++[resB X0d true st'.1])):=by
    show ((qBs s (wX h i j lim s st none++(D++R))).set i (blkW j lim (apS X0d ((wX h i j lim s st none++(D++R)).length+0) st'.1))).set j (blkF st'.2)++[resB X0d true st'.1]=_
    rw[e0]
    have k1:qBs s (wX h i j lim s st none++(D++R))=(qBs s h).set j (blkF st.2)++(D++R):=by
     rcases H.hs with ⟨q1,q2⟩|⟨q,q1,q2,q3⟩
     ·rw[q1];rfl
     ·obtain ⟨p1,p2,p3,p4⟩:=H.q q1 q2
      rw[q1,Keb _ q2]
      simp only[qBs,wX]
      rw[List.set_append_left _ _ (by rw[List.length_set];exact p4),List.set_comm _ _ (Ne.symm p3)]
    rw[k1,List.set_append_left _ _ (by rw[List.length_set,JA8];exact hil),List.set_append_left _ _ (by rw[List.length_set,List.length_set,JA8];exact hjl),List.set_comm _ _ (Ne.symm H.ne),List.set_set]
    simp only[wX,List.append_assoc]
   refine ⟨some (D++R).length,R++[resB X0d true st'.1],by simp only[wK];rw[e1],⟨by rw[List.length_append];omega,by rw[<-hb];exact hlt,?_⟩⟩
   rw[<-List.append_assoc,List.getElem?_append_right (Nat.le_refl _),Nat.sub_self]
   rfl
  | some k =>
   obtain ⟨i0,i1,i2⟩:=I
   have hk:=(List.getElem?_eq_some_iff.1 i2).1
   have h0:st.1.length≠0:=by omega
   have e2:(D++R).set k .dead=D++R.set (k-D.length) .dead:=List.set_append_right _ _ i0
   have e1:wX (wX h i j lim s st (some k)++(D++R)) i j lim (wK h s st (some k)) st' (some 0)++[resB X0d true st'.1]=wX h i j lim s st' (some (D++R).length)++(D++(R.set (k-D.length) .dead++[resB X0d true st'.1])):=by
    show ((qBs (wK h s st (some k)) (wX h i j lim s st (some k)++(D++R))).set i (blkW j lim (apS X0d ((wX h i j lim s st (some k)++(D++R)).length+0) st'.1))).set j (blkF st'.2)++[resB X0d true st'.1]=_
    rw[e0]
    have k1:qBs (wK h s st (some k)) (wX h i j lim s st (some k)++(D++R))=wX h i j lim s st (some k)++(D++R.set (k-D.length) .dead):=by
     simp only[wK]
     rw[Keb _ h0]
     show (wX h i j lim s st (some k)++(D++R)).set (h.length+k) .dead=_
     rw[List.set_append_right _ _ (by rw[XqL];omega),XqL,Nat.add_sub_cancel_left,e2]
    rw[k1,List.set_append_left _ _ (by rw[XqL];exact hil),List.set_append_left _ _ (by rw[List.length_set,XqL];exact hjl)]
    have g3:=g2 (qBs s h) (blkW j lim (apS X0d (h.length+k) st.1)) (blkW j lim (apS X0d (h.length+(D++R).length) st'.1)) (blkF st.2) (blkF st'.2)
    simp only[wX]
    rw[g3]
    simp only[List.append_assoc]
   refine ⟨some (D++R).length,R.set (k-D.length) .dead++[resB X0d true st'.1],by rw[e1],⟨by rw[List.length_append];omega,by omega,?_⟩⟩
   rw[<-List.append_assoc,<-e2,List.getElem?_append_right (by rw[List.length_set];exact Nat.le_refl _),List.length_set,Nat.sub_self]
   rfl
theorem QA9 (H:WrH h i j lim s bs e) {st:List UInt8×Int} {k:Option Nat} {D R:List AB} (I:WInv D.length bs st (D++R) k) (hl:(st.1.length:Int)<=lim) (enc:List UInt8) (ok:Bool):∃k' R',wPut (wX h i j lim s st k++(D++R)) i enc ok=some (.i .i64 (wput lim st.1 st.2 enc ok).2,wX h i j lim s (wput lim st.1 st.2 enc ok) k'++(D++R'))/\WInv D.length bs (wput lim st.1 st.2 enc ok) (D++R') k'/\((wput lim st.1 st.2 enc ok).1.length:Int)<=lim:=by
 have hle:=zvB lim st.1 st.2 enc ok hl
 obtain ⟨k',R',q1,q2⟩:=zB1 H I hle (JLo lim st enc ok)
 refine ⟨k',R',?_,q2,hle⟩
 unfold wPut
 rw[(KnG H I hl).get,Option.bind_some,q1]
theorem wX_0 (H:WrH h i j lim s bs e):wX h i j lim s (bs,e) none=h:=by
 simp only[wX]
 exact qgt H.hj
theorem QhD {P:Program} (H:WrH h i j lim s bs e) (hh:HOk h) {st:List UInt8×Int} {k:Option Nat} {d:Nat} {L:List AB} (I:WInv d bs st L k) (v:AV) (hv:(v.fl||match v with | .tu []=>true|_=>false)=true) :
  Bt P h.length [v] (wX h i j lim s st k++L) [v] (wOut h i j lim s bs st):=by
 unfold wOut
 have hil:=H.il
 have hjl:=H.jl
 have hvo:∀q,v.ok q=true:=fun q=>by
  cases v <;> first|rfl|(cases hv;done)|skip
  rename_i l
  cases l <;> first|rfl|(cases hv;done)
 have hvr:∀f,v.ren f=v:=fun f=>by
  cases v <;> first|rfl|(cases hv;done)|skip
  rename_i l
  cases l <;> first|rfl|(cases hv;done)
 cases k with
 | none =>
  have hb:st.1=bs:=I
  rw[if_pos hb,if_pos hb]
  have hok:HOk (wX h i j lim s st none):=fun m B hB=>by
   rw[XqL]
   simp only[wX]at hB
   by_cases hm:m=j
   ·subst hm
    rw[List.getElem?_set_self hjl]at hB
    cases hB
    rfl
   ·rw[List.getElem?_set_ne (Ne.symm hm)]at hB
    exact hh m B hB
  have h1:=Bt.drop (P:=P) (h:=wX h i j lim s st none) (v:=v) (a:=v) L hok rfl (hvo _)
  have h2:=Bt.pad (P:=P) (p:=h.length) [v] (wX h i j lim s st none) 1
  rw[XqL]at h1
  exact Bt.trans h1 h2
 | some k =>
  obtain ⟨i0,i1,i2⟩:=I
  have hne:st.1≠bs:=fun q=>by rw[q]at i1;omega
  have h0:st.1.length≠0:=by omega
  rw[if_neg hne,if_neg hne]
  have:=Bt.selMd (P:=P) (h:=wX h i j lim s st (some k)) (g:=wX h i j lim s st (some 0)) (l:=L) (l':=[resB X0d true st.1]) (fr:=[v]) (fr':=[v]) [k] (by rw[XqL,XqL]) (fun m B hB=>?_) (by simp) ⟨⟨_,i2,of_eq_true (ZHy _ _ _ _)⟩,trivial⟩ ⟨.inr ⟨hvo _,by rw[hvr];exact Wk.refl _⟩,trivial⟩
  ·rw[XqL]at this
   exact this
  ·by_cases hm:m=i
   ·subst hm
    rw[wX_i H]at hB
    cases hB
    refine .inr ⟨_,wX_i H st (some k),?_⟩
    simp only[wK,blkW]
    rw[Keb _ h0,Keb _ h0]
    refine ⟨id,?_,?_⟩
    ·simp only[ZiP,q0E,ok_p,ok_i,XqL,Bool.and_true,Bool.and_eq_true]
     refine ⟨decide_eq_true (by omega),?_⟩
     refine ⟨trivial,?_⟩
     exact YJG (fun i=>decide (i<h.length+[k].length)) _ _ _ _ _ (decide_eq_true (show h.length+0<h.length+1 by omega))
    ·simp only[renL,AV.ren,XqL]
     rw[qMB hjl,show selN h.length [k] (h.length+0)=h.length+k from qtm 0]
     exact WkL.refl _
   ·by_cases hj:m=j
    ·subst hj
     rw[wX_j H]at hB
     cases hB
     exact .inl ⟨wX_j H st (some k),rfl⟩
    ·left
     have e1:(wX h i j lim s st (some 0))[m]?=(qBs s h)[m]?:=by
      simp only[wX]
      rw[List.getElem?_set_ne (Ne.symm hj),List.getElem?_set_ne (Ne.symm hm)]
     have e2:(wX h i j lim s st (some k))[m]?=(qBs s h)[m]?:=by
      simp only[wX]
      rw[List.getElem?_set_ne (Ne.symm hj),List.getElem?_set_ne (Ne.symm hm)]
     rw[e1]at hB
     rw[e2]
     refine ⟨hB,?_⟩
     rw[XqL]
     unfold qBs at hB
     split at hB
     ·rw[List.getElem?_set]at hB
      split at hB
      ·split at hB
       ·cases hB;rfl
       ·cases hB
      ·exact hh m B hB
     ·exact hh m B hB
end
end
section
set_option maxRecDepth 100000
def qs7:List AV->List AB->Option (AV×List AB)
 | [.i .i64 _],h=>some (.b false,h)
 | _,_=>none
theorem Zi0:Spec Tryz.prog 289 qs7:=by
 intro args h v h' e
 unfold qs7 at e
 split at e
 ·cases e
  refine FnAt.c (FnAt.run (by kernel_rfl) (T:=⟨[],[]⟩) ⟨trivial,trivial⟩ Tryz.func289 ZMV fun ho hh=>?_)
  unfold w289
  simp only[z49,Qs3,XtK,JS3,simprocAttr]
  exact Bt.eq rfl (List.append_nil h)
 ·cases e
def cmpI (a b:Int):Int:=if a<b then -1 else if b<a then 1 else 0
def Yf7:List AV->List AB->Option (AV×List AB)
 | [.i .i64 a,.i .i64 b],h=>some (.i .i64 (cmpI a b),h)
 | _,_=>none
theorem YQV:Spec Tryz.prog 225 Yf7:=by
 intro args h v h' e
 unfold Yf7 at e
 split at e
 ·rename_i a b
  cases e
  refine FnAt.c (FnAt.run (by kernel_rfl) (T:=⟨[⟨289,qs7,fun _=>[]⟩],[]⟩) ⟨⟨Zi0,trivial⟩,trivial⟩ Tryz.func225 ZIc fun ho hh=>?_)
  unfold w225
  simp only[z49,Qs3,XtK,JS3,simprocAttr,qs7]
  refine ⟨fun h1=>Bt.eq (by simp [cmpI,h1]) (List.append_nil h),fun h1=>⟨fun h2=>Bt.eq (by simp [cmpI,h1,h2]) (List.append_nil h),fun h2=>Bt.eq (by simp [cmpI,h1,h2]) (List.append_nil h)⟩⟩
 ·cases e
def orI:List Int->Int
 | []=>0
 | a::l=>if a=0 then orI l else a
theorem qy3 {l:List Int} {i:Nat} (hi:i<l.length):orI (l.drop i)=if l.getD i intR.d=0 then orI (l.drop (i+1)) else l.getD i intR.d:=by
 rw[List.drop_eq_getElem_cons hi,List.getD_eq_getElem?_getD,List.getElem?_eq_getElem hi]
 rfl
noncomputable def T_Or:List AV->List AB->Option (AV×List AB)
 | [s],h=>(getS intR h s).bind fun l=>some (.i .i64 (orI l),h)
 | _,_=>none
theorem XED:Spec Tryz.prog 224 T_Or:=by
 intro args h v h' e
 unfold T_Or at e
 split at e
 ·rename_i s
  obtain ⟨l,hs,e⟩:=Qk0 e
  cases e
  refine FnAt.c (FnAt.run (by kernel_rfl) (T:=⟨[],[]⟩) ⟨trivial,trivial⟩ Tryz.func224 YrR fun ho hh=>?_)
  simp only[ZiP,Bool.and_eq_true]at ho
  have f1:=hs.fx ho.1 (sz:=1) rfl
  unfold w224
  simp only[z49,Qs3,XtK,JS3,simprocAttr,f1]
  refine ZDF (S:=Nat) (fun i=>l.length-i) (fun i=>tp 3++[.i .i64 0]++tp 2++[s,.i .i64 l.length,.i .i64 i]++tp 9) (fun i=>i<=l.length/\orI l=orI (l.drop i)) 0 ⟨Nat.zero_le _,rfl⟩ (by simp only[XtK,JS3,simprocAttr]) fun i hi=>?_
  simp only[XtK,JS3,simprocAttr,f1]
  refine ⟨fun h2=>?_,fun h2=>?_⟩
  ·have e1:IntKind.i64.wrap ((i:Int)+1)=((i+1:Nat):Int):=Q7p (by have:=hs.2;unfold maxLen at this;unfold In64;omega)
   have e2:=qy3 h2
   simp only[XtK,JS3,simprocAttr,f1,h2,KpI,Nat.zero_lt_one,e1]
   refine ⟨fun h3=>Bt.eq (by rw[hi.2,e2,if_neg h3]) (List.append_nil h),fun h3=>⟨i+1,⟨h2,?_⟩,by omega,Wk.refl _⟩⟩
   rw[hi.2,e2,if_pos (Decidable.not_not.1 h3)]
  ·exact Bt.eq (by rw[hi.2,List.drop_eq_nil_of_le (by omega)];rfl) (List.append_nil h)
 ·cases e
def cmpD (a b:Int×Int):Int:=if cmpI a.1 b.1=0 then cmpI a.2 b.2 else cmpI a.1 b.1
end
section
set_option maxRecDepth 100000
def JOH {α:Type} (p:α->Prop) [DecidablePred p]:List α->Nat->Int
 | [],_=>-1
 | a::l,n=>if p a then n else JOH p l (n+1)
def idx {α:Type} (p:α->Prop) [DecidablePred p] (l:List α):Int:=JOH p l 0
theorem qCK {α:Type} (p:α->Prop) [DecidablePred p] (d:α) {l:List α} (i:Nat) (hi:i<l.length):JOH p (l.drop i) i=if p (l.getD i d) then (i:Int) else JOH p (l.drop (i+1)) (i+1):=by
 rw[List.drop_eq_getElem_cons hi,List.getD_eq_getElem?_getD,List.getElem?_eq_getElem hi]
 rfl
theorem X3T {α:Type} (p:α->Prop) [DecidablePred p]:∀(l:List α) (n:Nat),0<=JOH p l n↔∃x∈l,p x
 | [],n=>by simp [JOH]
 | a::l,n=>by
  have:=X3T p l (n+1)
  unfold JOH
  by_cases h:p a
  ·simp [h]
  ·rw[if_neg h,this]
   simp [h]
theorem XyE {α:Type} (p:α->Prop) [DecidablePred p] (l:List α):0<=idx p l↔∃x∈l,p x:=X3T p l 0
theorem YyR {T:Env} (hT:T.Ok Tryz.prog) {f:AV} {p:Int->Prop} [DecidablePred p] (hf:∀x H,zHD T f [.i .i64 x] H=some (.b (decide (p x)),H)) {h:List AB} {s:AV} {l:List Int} (hs:Rd intR h s l):FnC Tryz.prog 319 [s,f] h (.i .i64 (idx p l)) h:=by
 refine FnAt.c (FnAt.run (by kernel_rfl) hT Tryz.func319 JVL fun ho hh=>?_)
 simp only[ZiP,Bool.and_eq_true]at ho
 have f1:=hs.fx ho.1 (sz:=1) rfl
 unfold w319
 simp only[z49,Qs3,XtK,JS3,simprocAttr,f1]
 refine ZDF (S:=Nat) (fun i=>l.length-i) (fun i=>[s,f]++tp 5++[.i .i64 l.length,.i .i64 i]++tp 10) (fun i=>i<=l.length/\idx p l=JOH p (l.drop i) i) 0 ⟨Nat.zero_le _,rfl⟩ (by simp only[XtK,JS3,simprocAttr]) fun i hi=>?_
 simp only[XtK,JS3,simprocAttr,f1]
 refine ⟨fun h2=>?_,fun h2=>?_⟩
 ·have e1:IntKind.i64.wrap ((i:Int)+1)=((i+1:Nat):Int):=Q7p (by have:=hs.2;unfold maxLen at this;unfold In64;omega)
  have e2:=qCK p intR.d i h2
  simp only[XtK,JS3,simprocAttr,f1,h2,KpI,Nat.zero_lt_one,e1,hf]
  refine ⟨fun h3=>Bt.eq (by rw[hi.2,e2,if_pos h3]) (List.append_nil h),fun h3=>⟨i+1,⟨h2,?_⟩,by omega,Wk.refl _⟩⟩
  rw[hi.2,e2,if_neg h3]
 ·exact Bt.eq (by rw[hi.2,List.drop_eq_nil_of_le (by omega)];rfl) (List.append_nil h)
open Classical in
noncomputable def XQh (f:AV) (p:Int->Prop) [DecidablePred p]:List AV->List AB->Option (AV×List AB)
 | [s,f'],h=>(getS intR h s).bind fun l=>if f'=f then some (.i .i64 (idx p l),h) else none
 | _,_=>none
theorem X2t {T:Env} (hT:T.Ok Tryz.prog) {f:AV} {p:Int->Prop} [DecidablePred p] (hf:∀x H,zHD T f [.i .i64 x] H=some (.b (decide (p x)),H)):Spec Tryz.prog 319 (XQh f p):=by
 intro args h v h' e
 unfold XQh at e
 split at e
 ·rename_i s f'
  obtain ⟨l,hs,e2⟩:=Qk0 e
  by_cases hff:f'=f
  ·rw[if_pos hff]at e2
   cases e2
   rw[hff]
   exact YyR hT hf hs
  ·rw[if_neg hff]at e2
   cases e2
 ·cases e
theorem qAy {T:Env} (hT:T.Ok Tryz.prog) {f:AV} {p:Int->Prop} [DecidablePred p] (hf:∀x H,zHD T f [.i .i64 x] H=some (.b (decide (p x)),H)) {h:List AB} {s:AV} {l:List Int} (hs:Rd intR h s l):FnC Tryz.prog 292 [s,f] h (.b (decide (∃x∈l,p x))) h:=by
 refine FnAt.c (FnAt.run (by kernel_rfl) (T:=⟨[⟨319,XQh f p,fun _=>[]⟩],[]⟩) ⟨⟨X2t hT hf,trivial⟩,trivial⟩ Tryz.func292 Z06 fun ho hh=>?_)
 simp only[ZiP,Bool.and_eq_true]at ho
 have f1:=hs.fx ho.1 (sz:=1) rfl
 unfold w292
 simp only[z49,Qs3,XtK,JS3,simprocAttr,f1,XQh]
 exact Bt.eq (by simp only[AV.b.injEq,decide_eq_decide];exact XyE p l) (List.append_nil h)
end
section
set_option maxRecDepth 100000
def JTv (a b:Int×Int):Prop:=a.1<b.1\/a.1=b.1/\a.2<b.2
instance (a b:Int×Int):Decidable (JTv a b):=by unfold JTv;infer_instance
end
section
theorem QyC (a b:Int×Int):cmpD a b<0↔JTv a b:=by
 obtain ⟨a1,a2⟩:=a
 obtain ⟨b1,b2⟩:=b
 simp only[cmpD,cmpI,JTv]
 repeat' split
 all_goals omega
theorem qRc (a:Int×Int):¬JTv a a:=by simp [JTv]
theorem q5N {a b c:Int×Int} (h:JTv a b) (k:JTv b c):JTv a c:=by simp only[JTv]at *;omega
end
section
set_option maxRecDepth 100000
structure KeyR (α:Type) where
 ag:Bool
 ks:List CK
 f:α->AV
 dec:DecidableEq α
 eq:∀a b,K8D ag ks (f a) (f b)=some (decide (a=b))
section
variable {α:Type} (r:KeyR α)
def kvF:List (α×AV)->List AV
 | []=>[]
 | e::l=>r.f e.1::e.2::kvF l
theorem JRd:∀l:List (α×AV),(kvF r l).length=2*l.length
 | []=>rfl
 | e::l=>by
  have:=JRd l
  simp only[kvF,List.length_cons,this]
  omega
theorem XHb:∀l l':List (α×AV),kvF r (l++l')=kvF r l++kvF r l'
 | [],_=>rfl
 | e::l,l'=>by simp only[List.cons_append,kvF,XHb l l']
def mpB (m:Bool) (l:List (α×AV)):AB:=.mo m (.map (List.range l.length) l.length) (kvF r l)
def fndM (d:α):List (α×AV)->Nat->Option (Nat×AV)
 | [],_=>none
 | e::l,i=>letI:=r.dec;if d=e.1 then some (i,e.2) else fndM d l (i+1)
theorem qhK (d:α):∀(l:List (α×AV)) (i:Nat),Kq6 r.ag r.ks (r.f d) (kvF r l) i=some (fndM r d l i)
 | [],i=>rfl
 | e::l,i=>by
  letI:=r.dec
  show (K8D r.ag r.ks (r.f d) (r.f e.1)).bind _=_
  rw[r.eq,Option.bind_some]
  by_cases h:d=e.1
  ·rw[fndM,if_pos h,if_pos (by simpa using h)]
  ·rw[fndM,if_neg h,if_neg (by simpa using h)]
   exact qhK d l (i+1)
theorem zxp (m:Bool) (l:List (α×AV)):mapB (some (mpB r m l))=some (List.range l.length,l.length,kvF r l):=by
 unfold mpB mapB
 simp only[JRd,List.length_range,if_true]
theorem QZy (l:List (α×AV)):mapW (some (mpB r true l))=some (List.range l.length,l.length,kvF r l):=by
 unfold mpB mapW
 simp only[JRd,List.length_range,if_true]
def putM (l:List (α×AV)) (d:α) (v:AV):List (α×AV):=match fndM r d l 0 with
 | some (i,_)=>l.set i (d,v)
 | none=>l++[(d,v)]
theorem YJL {d:α} {v:AV}:∀ {l:List (α×AV)} {i j:Nat},fndM r d l i=some (j,v)->i<=j/\l[j-i]?=some (d,v)
 | [],i,j,h=>by cases h
 | e::l,i,j,h=>by
  letI:=r.dec
  rw[fndM]at h
  split at h
  ·rename_i hd
   cases h
   exact ⟨Nat.le_refl _,by rw[Nat.sub_self,hd];rfl⟩
  ·obtain ⟨h1,h2⟩:=YJL h
   exact ⟨by omega,by rw[show j-i=(j-(i+1))+1 by omega];exact h2⟩
theorem ZUS {d:α}:∀ {l:List (α×AV)} {i:Nat},fndM r d l i=none↔∀e∈l,e.1≠d
 | [],i=>⟨fun _ e h=>by simp at h,fun _=>rfl⟩
 | e::l,i=>by
  letI:=r.dec
  rw[fndM]
  split
  ·rename_i hd
   exact ⟨fun h=>(by cases h),fun h=>absurd hd.symm (h e (List.mem_cons_self ..))⟩
  ·rename_i hd
   rw[ZUS]
   exact ⟨fun h x hx=>by rcases List.mem_cons.1 hx with rfl|hx;exact fun z=>hd z.symm;exact h x hx,fun h x hx=>h x (List.mem_cons_of_mem _ hx)⟩
theorem ZG4 (d:α) (v:AV):∀(l:List (α×AV)) (i:Nat),(l[i]?).map (·.1)=some d->kvF r (l.set i (d,v))=(kvF r l).set (2*i+1) v
 | [],i,h=>by cases h
 | e::l,0,h=>by
  obtain rfl:e.1=d:=Option.some.inj h
  rfl
 | e::l,i+1,h=>by
  have:=ZG4 d v l i h
  rw[show 2*(i+1)+1=(2*i+1)+2 by omega]
  simp only[List.set_cons_succ,kvF,this]
theorem ZFv (l:List (α×AV)) (d:α) (v:AV):muB (List.range l.length) l.length (kvF r l) (r.f d) v (fndM r d l 0)=mpB r true (putM r l d v):=by
 unfold putM
 cases h:fndM r d l 0 with
 | none =>
  dsimp only
  unfold muB mpB
  rw[List.length_append,List.length_singleton,XHb,<-List.range_succ]
  rfl
 | some p =>
  obtain ⟨i,u⟩:=p
  dsimp only
  have h2:=(YJL r h).2
  rw[Nat.sub_zero]at h2
  unfold muB mpB
  dsimp only
  rw[List.length_set,ZG4 r d v l i (by rw[h2];rfl)]
variable {T:Env} {fr:List AV} {h:List AB}
theorem XzF:opR T .mkm fr h=some (.m h.length,h++[.mo true (.map [] 0) []]):=oI rfl
theorem zYD (ag ks ok z) (x k:Opd):opR T (.lkp ag ks ok z x k) fr h=(lkV h ag ks ok z (x.ev fr) (k.ev fr)).map (·,h):=oI rfl
theorem YBc (ag ks) (x k v:Opd):opR T (.mup ag ks x k v) fr h=(muV h ag ks (x.ev fr) (k.ev fr) (v.ev fr)).map (.tu [],·):=oI rfl
theorem ZYP {id:Nat} {m:Bool} {l:List (α×AV)} (hi:h[id]?=some (mpB r m l)) (ok:Bool) (z:AV) (d:α):lkV h r.ag r.ks ok z (.m id) (r.f d)=some (lkR ok z (fndM r d l 0)):=by
 unfold lkV Jeg
 rw[r.eq,Option.bind_some]
 dsimp only
 rw[hi,zxp,Option.bind_some]
 dsimp only
 rw[qhK]
 rfl
theorem XHD {id:Nat} {l:List (α×AV)} (hi:h[id]?=some (mpB r true l)) (d:α) (v:AV):muV h r.ag r.ks (.m id) (r.f d) v=some (h.set id (mpB r true (putM r l d v))):=by
 unfold muV
 dsimp only
 rw[r.eq,Option.bind_some,hi,QZy,Option.bind_some]
 dsimp only
 rw[qhK,Option.map_some,ZFv]
end
end
section
set_option maxRecDepth 100000
set_option maxHeartbeats 4000000
def dotK:KeyR (Int×Int):=⟨true,[.i,.i],fun d=>.ag (dotR.f d),inferInstance,zXS⟩
end
section
set_option maxRecDepth 100000
set_option maxHeartbeats 4000000
theorem emG (p:Prop):p=True\/p=False:=Classical.propComplete p
def atV (l:List Int) (r:Int):Int:=if r<1\/(l.length:Int)<r then 0 else max (l.getD (r-1).toNat 0) 0
noncomputable def KZC:List AV->List AB->Option (AV×List AB)
 | [s,.i .i64 r],h=>(getS intR h s).bind fun l=>some (.i .i64 (atV l r),h)
 | _,_=>none
theorem XEo:Spec Tryz.prog 163 KZC:=by
 intro args h v h' e
 unfold KZC at e
 split at e
 ·rename_i s r
  obtain ⟨l,hs,e⟩:=Qk0 e
  cases e
  refine FnAt.c (FnAt.run (by kernel_rfl) (T:=⟨[],[]⟩) ⟨trivial,trivial⟩ Tryz.func163 quq fun ho hh=>?_)
  simp only[ZiP,Bool.and_eq_true]at ho
  have f1:=hs.fx ho.1 (sz:=1) rfl
  unfold w163
  rcases emG (r<1) with a|a
  ·have hv:atV l r=0:=if_pos (.inl (of_eq_true a))
   rw[hv]
   simp only[z49,Qs3,XtK,K1H,JS3,simprocAttr,CO.tmps,Opd.tmps,optT,f1,a,oD,ne_eq,forall_const]
   exact Bt.drop _ hh rfl rfl
  rcases emG ((l.length:Int)<r) with b|b
  ·have hv:atV l r=0:=if_pos (.inr (of_eq_true b))
   rw[hv]
   simp only[z49,Qs3,XtK,K1H,JS3,simprocAttr,CO.tmps,Opd.tmps,optT,f1,a,b,oD,ne_eq,forall_const]
   exact Bt.drop _ hh rfl rfl
  ·have a':=of_eq_false a
   have b':=of_eq_false b
   have hv:atV l r=max (l.getD (r-1).toNat 0) 0:=if_neg fun z=>z.elim a' b'
   rw[hv]
   have e1:IntKind.i64.wrap (r-1)=r-1:=Q7p (by have:=hs.2;unfold maxLen at this;unfold In64;omega)
   have e2:(0<=r-1/\r-1<(l.length:Int))=True:=eq_true (by omega)
   have e3:((r-1).toNat<l.length)=True:=eq_true (by omega)
   simp only[z49,Qs3,XtK,K1H,JS3,simprocAttr,CO.tmps,Opd.tmps,optT,f1,a,b,e1,e2,e3,KpI,JNZ,Qnv,Nat.zero_lt_one,if_true,oD,ne_eq,forall_const]
   exact Bt.drop _ hh rfl rfl
 ·cases e
def vhas (l:List Int) (d:Int×Int):Prop:=1<=d.1/\1<=d.2/\d.2<=atV l d.1
instance (l:List Int) (d:Int×Int):Decidable (vhas l d):=inferInstanceAs (Decidable (_/\_/\_))
noncomputable def zBz:List AV->List AB->Option (AV×List AB)
 | [s,.ag [.i .i64 a,.i .i64 b]],h=>(getS intR h s).bind fun l=>some (.b (decide (vhas l (a,b))),h)
 | _,_=>none
theorem zc9:Spec Tryz.prog 61 zBz:=by
  intro args h v h' e
  unfold zBz at e
  split at e
  · rename_i s a b
    obtain ⟨l,hs,e⟩:=Qk0 e
    cases e
    refine FnAt.c (FnAt.frz0 fun hz=>?_)
    have hs2:=hs.frz
    generalize h.map AB.freeze=h at *
    refine FnAt.run (by kernel_rfl) (T:=⟨[⟨163,KZC,fun _=>[]⟩],[]⟩) ⟨⟨XEo,trivial⟩,trivial⟩ Tryz.func61 sw61 fun ho hh=>?_
    simp only[ZiP,Bool.and_eq_true]at ho
    have f1:=hs2.fx ho.1 (sz:=1) rfl
    have g1:∀x,getS intR (h++x) s=some l:=fun x=>(hs2.app x).get
    unfold w61
    rcases emG (1<=a) with q1|q1 <;> rcases emG (1<=b) with q2|q2 <;> rcases emG (b<=atV l a) with q3|q3 <;>
      (simp only[z49,Qs3,XtK,K1H,JS3,simprocAttr,CO.tmps,Opd.tmps,optT,f1,g1,KZC,q1,q2,q3,oW hh hz,oD,ne_eq,forall_const]
       exact Bt.dropB _ hh (by simp [vhas,q1,q2,q3]))
  · cases e
end
section
set_option maxRecDepth 100000
set_option maxHeartbeats 4000000
structure SlA where
 a:AV
 h:a.isSl=true
theorem SlA.ext {x y:SlA} (e:x.a=y.a):x=y:=by
 obtain ⟨a,h⟩:=x
 obtain ⟨b,h'⟩:=y
 obtain rfl:a=b:=e
 rfl
def SlA.len (s:SlA):Int:=(lenV s.a).getD 0
theorem SlA.lenV (s:SlA):Go.Proofs.YtekeoichmdiiiaaGreat.lenV s.a=some s.len:=by
 obtain ⟨a,h⟩:=s
 cases a <;> first|rfl|cases h
theorem SlA.str (s:SlA):s.a.isStr=false:=QP8 s.h
end
section
set_option maxRecDepth 100000
set_option maxHeartbeats 8000000
noncomputable def Kmg:List AV->List AB->Option (AV×List AB)
 | [.p i 0],h=>(rdM h i).bind fun y=>some (.ag [.i .i64 (Z3k y.2.2.1 y.2.2.2).1.1,.i .i64 (Z3k y.2.2.1 y.2.2.2).1.2],rB h i y.1 y.2.1 (Z3k y.2.2.1 y.2.2.2).2)
 | _,_=>none
theorem XL5:Spec Tryz.prog 207 Kmg:=by
 intro args h v h' e
 unfold Kmg at e
 split at e
 ·rename_i i
  obtain ⟨j,s,bs,n,er,a,hi,hj,H,hn,e⟩:=QN1 e
  cases e
  refine FnAt.c (FnAt.run (by kernel_rfl) (T:=⟨[⟨202,ZRt,fun _=>[]⟩,⟨201,YN6,fun _=>[]⟩],[]⟩) ⟨⟨qHy,Qlv,trivial⟩,trivial⟩ Tryz.func207 Xb5 fun ho hh=>?_)
  have hok:=qC8 hh hi
  have e0:h++[]=rB h i j s ⟨n,er,a⟩++[]:=by rw[Y8O hi hj]
  rw[e0]
  dsimp only
  have f1:=XLI H hok
  have f4:=fun x=>Zuy (x:=x) H
  obtain ⟨x0,hx0⟩:∃x0:RSt,x0=⟨n,er,a⟩:=⟨_,rfl⟩
  rw[<-hx0]
  have n0:x0.pos<=bs.length:=by rw[hx0];exact hn
  have n1:=Qu8 n0
  have r0:=qdK H n0
  have r1:=qdK H n1
  obtain ⟨y,hy⟩:∃y,y=KqA bs (KqA bs x0).2:=⟨_,rfl⟩
  have hr:Z3k bs x0=if y.2.err=0 then (((KqA bs x0).1,y.1),y.2) else ((0,0),y.2):=by rw[hy];rfl
  rw[hr]
  unfold w207
  rcases emG (y.2.err=0) with g|g
  ·rw[if_pos (of_eq_true g)]
   simp only[z49,Qs3,XtK,K1H,JS3,simprocAttr,CO.tmps,Opd.tmps,optT,qRn,qSM,YNH,KMT,XrP,zEY,f1,f4,r0,r1,<-hy,g,ZRt,YN6,Option.bind_some,List.getElem?_cons_zero,List.getElem?_cons_succ,oD,ne_eq,forall_const]
   exact btD H hok hh _ rfl (by simp only[JL2,ZiP,q0E,ok_i,Bool.and_true])
  ·rw[if_neg (of_eq_false g)]
   simp only[z49,Qs3,XtK,K1H,JS3,simprocAttr,CO.tmps,Opd.tmps,optT,qRn,qSM,YNH,KMT,XrP,zEY,f1,f4,r0,r1,<-hy,g,ZRt,YN6,Option.bind_some,List.getElem?_cons_zero,List.getElem?_cons_succ,oD,ne_eq,forall_const]
   exact btD H hok hh _ rfl (by simp only[JL2,ZiP,q0E,ok_i,Bool.and_true])
 ·cases e
noncomputable def XHu:List AV->List AB->Option (AV×List AB)
 | [.p i 0,.i .i64 m],h=>if 0<=m/\m<=1000 then (rdM h i).bind fun y=>some (apS intR h.length (QDw y.2.2.1 y.2.2.2 m).1,rB h i y.1 y.2.1 (QDw y.2.2.1 y.2.2.2 m).2++[resB intR true (QDw y.2.2.1 y.2.2.2 m).1]) else none
 | _,_=>none
theorem K0t:Spec Tryz.prog 101 XHu:=by
 intro args h v h' e
 unfold XHu at e
 split at e
 ·rename_i i m
  split at e
  case isFalse=>cases e
  rename_i hm
  obtain ⟨j,s,bs,n,er,a,hi,hj,H,hn,e⟩:=QN1 e
  cases e
  refine FnAt.c (FnAt.run (by kernel_rfl) (T:=⟨[⟨202,ZRt,fun _=>[]⟩,⟨201,YN6,fun _=>[]⟩,⟨200,zVj,fun _=>[]⟩],[]⟩) ⟨⟨qHy,Qlv,JoE,trivial⟩,trivial⟩ Tryz.func101 QmS fun ho hh=>?_)
  have hok:=qC8 hh hi
  have e0:h++[]=rB h i j s ⟨n,er,a⟩++[]:=by rw[Y8O hi hj]
  rw[e0]
  dsimp only
  have f1:=XLI H hok
  have f4:=fun x=>Zuy (x:=x) H
  obtain ⟨x0,hx0⟩:∃x0:RSt,x0=⟨n,er,a⟩:=⟨_,rfl⟩
  rw[<-hx0]
  have n0:x0.pos<=bs.length:=by rw[hx0];exact hn
  have n1:=YDO m n0
  have r0:=qdK H n0
  obtain ⟨y,hy⟩:∃y,y=qlW bs x0 m:=⟨_,rfl⟩
  have hge:=YTr bs x0 m
  rw[<-hy]at hge n1
  obtain ⟨N,hN⟩:∃N:Nat,y.1=(N:Int):=⟨y.1.toNat,by omega⟩
  have hr:QDw bs x0 m=KiA bs N y.2 []:=by unfold QDw;rw[<-hy,hN,Int.toNat_natCast]
  rw[hr]
  have hNm:y.2.err=0->N<=1000:=fun z=>by
   have hx:x0.err=0:=by
    apply Classical.byContradiction
    intro w
    rw[hy,KSu bs x0 m w]at z
    exact w z
   have:=(QRN m hx (by rw[<-hy];exact z)).2.2
   rw[<-hy]at this
   omega
  have fi:∀sel,selN h.length sel i=i:=fun sel=>qMB H.hi
  have fl:∀c,(i<h.length+c)=True:=fun c=>eq_true (by have:=H.hi;omega)
  unfold w101
  simp only[z49,Qs3,XtK,K1H,JS3,simprocAttr,CO.tmps,Opd.tmps,optT,f1,f4,r0,zVj,<-hy,hN,Option.bind_some]
  refine JLk (S:=Nat×List Int×RSt) (fun σ=>N-σ.1) (fun σ=>[.p i 0]++tp 3++[apS intR (h.length+0) σ.2.1]++tp 2++[.i .i64 (N:Int),.i .i64 (σ.1:Int)]++tp 12) (fun σ=>rB h i j s σ.2.2++[resB intR true σ.2.1]) (fun σ=>σ.1<=N/\KiA bs (N-σ.1) σ.2.2 σ.2.1=KiA bs N y.2 []/\σ.2.1.length=σ.1/\σ.2.2.pos<=bs.length/\(y.2.err≠0->σ.2.2=y.2)) (0,[],y.2) ⟨Nat.zero_le _,rfl,rfl,n1,fun _=>rfl⟩ ?_ fun σ hσ=>?_
  ·show Bt _ _ _ _ _ (rB h i j s y.2++([]++List.replicate 1 .dead))
   rw[<-List.append_assoc]
   refine Bt.trans (Bt.wk ?_) (Bt.pad _ _ 1)
   rw[show apS intR (h.length+0) ([]:List Int)=.ns from rfl]
   simp only[XtK,JS3,simprocAttr]
  obtain ⟨k,acc,x⟩:=σ
  obtain ⟨h1,h2,h3,h4,h5⟩:=hσ
  dsimp only at h1 h2 h3 h4 h5 ⊢
  have r1:=qdK H h4
  have rn:=qdK H (Qu8 h4)
  have bad:x.err≠0->Bt Tryz.prog h.length [.ns] (rB h i j s x++[resB intR true acc]) [apS intR h.length (KiA bs N y.2 []).1] (rB h i j s (KiA bs N y.2 []).2++[resB intR true (KiA bs N y.2 []).1]):=fun z=>by
   rw[<-h2,Q7s _ _ _ _ z]
   have a1:=btD (P:=Tryz.prog) H hok hh (x:=x) (v:=.ns) (a:=.ns) [resB intR true acc] rfl rfl
   have a2:=Bt.pad (P:=Tryz.prog) (p:=h.length) [.ns] (rB h i j s x) 1
   exact a1.trans a2
  by_cases g:k<N
  ·have g':((k:Int)<(N:Int))=True:=eq_true (by omega)
   rcases emG (x.err=0) with z|z
   ·have z':=of_eq_true z
    have hy0:y.2.err=0:=by
     apply Classical.byContradiction
     intro w
     rw[h5 w]at z'
     exact w z'
    have hN2:=hNm hy0
    have e1:IntKind.i64.wrap ((k:Int)+1)=((k+1:Nat):Int):=Q7p (by unfold In64;omega)
    obtain ⟨w,hw⟩:∃w,w=KqA bs x:=⟨_,rfl⟩
    have hst:KiA bs (N-(k+1)) w.2 (acc++[w.1])=KiA bs N y.2 []:=by
     rw[<-h2,show N-k=(N-(k+1))+1 by omega,KiA,if_pos z',hw]
    have wl:w.2.pos<=bs.length:=by rw[hw];exact Qu8 h4
    by_cases hB:acc=[]
    ·have z3:(1*8<=140737488355328/\1<=maxLen)=True:=eq_true ⟨by decide,by unfold maxLen;omega⟩
     simp only[hB,KsI,XtK,K1H,JS3,simprocAttr,CO.tmps,Opd.tmps,optT,qRn,qSM,YNH,KMT,zrQ,f1,f4,r1,g',z,ZRt,YN6,<-hw,e1,z3,List.getElem?_cons_zero,List.getElem?_cons_succ,oD,ne_eq,forall_const]
     refine ⟨(k+1,[w.1],w.2),⟨g,by rw[hB]at hst;exact hst,by rw[hB]at h3;simp at h3 ⊢;omega,wl,fun q=>absurd hy0 q⟩,by dsimp only;omega,?_⟩
     simp only[Jkk,Qmm]
     exact JXB H hok hh [2] (by decide) (by simp only[Ztz,FrSel,BlkSel,AV.ren,renL,AV.ok,okL,Option.some.injEq,exists_eq_left',List.length_cons,List.length_nil,Nat.reduceAdd,Nat.reduceLT,reduceCtorEq,implies_true,exists_eq',fi,fl]) (by simp only[tp_0,tp_s,List.cons_append,List.nil_append,Ztz,FrSel,BlkSel,AV.ren,renL,AV.ok,okL,Option.some.injEq,exists_eq_left',List.length_cons,List.length_nil,Nat.reduceAdd,Nat.reduceLT,reduceCtorEq,implies_true,exists_eq',fi,fl,KOt])
    ·have hlB:acc.length≠0:=fun q=>hB (List.eq_nil_of_length_eq_zero q)
     have gr:∀id,apS intR id acc=rsl intR id acc:=fun id=>JgW _ hlB
     have fa:=fun (x:RSt) L k ys hb=>K0E (h:=rB h i j s x) (p:=h.length) Kz5 (r:=intR) (sz:=1) rfl L k acc 8 1 ys hlB hb (by decide) (by omega) (by unfold maxLen;omega)
     simp only[gr,XtK,K1H,JS3,simprocAttr,CO.tmps,Opd.tmps,optT,qRn,qSM,YNH,KMT,zrQ,f1,f4,r1,g',z,ZRt,YN6,<-hw,e1,fa,List.getElem?_cons_zero,List.getElem?_cons_succ,oD,ne_eq,forall_const]
     refine ⟨(k+1,acc++[w.1],w.2),⟨g,hst,by rw[List.length_append,h3];rfl,wl,fun q=>absurd hy0 q⟩,by dsimp only;omega,?_⟩
     simp only[K2H,zKv]
     exact JXB H hok hh [2] (by decide) (by simp only[Ztz,FrSel,BlkSel,AV.ren,renL,AV.ok,okL,Option.some.injEq,exists_eq_left',List.length_cons,List.length_nil,Nat.reduceAdd,Nat.reduceLT,reduceCtorEq,implies_true,exists_eq',fi,fl]) (by simp only[tp_0,tp_s,List.cons_append,List.nil_append,Ztz,FrSel,BlkSel,AV.ren,renL,AV.ok,okL,Option.some.injEq,exists_eq_left',List.length_cons,List.length_nil,Nat.reduceAdd,Nat.reduceLT,reduceCtorEq,implies_true,exists_eq',fi,fl,KOt])
   ·simp only[XtK,K1H,JS3,simprocAttr,CO.tmps,Opd.tmps,optT,f1,g',z,YN6,List.getElem?_cons_zero,List.getElem?_cons_succ,oD,ne_eq,forall_const]
    exact bad (of_eq_false z)
  ·have g':((k:Int)<(N:Int))=False:=eq_false (by omega)
   rcases emG (x.err=0) with z|z
   ·have hE:KiA bs N y.2 []=(acc,x):=by
     rw[<-h2,show N-k=0 by omega,KiA,if_pos (of_eq_true z)]
    rw[hE]
    simp only[XtK,K1H,JS3,simprocAttr,CO.tmps,Opd.tmps,optT,f1,g',z,YN6,List.getElem?_cons_zero,List.getElem?_cons_succ,oD,ne_eq,forall_const]
    exact Bt.eq rfl rfl
   ·simp only[XtK,K1H,JS3,simprocAttr,CO.tmps,Opd.tmps,optT,f1,g',z,YN6,List.getElem?_cons_zero,List.getElem?_cons_succ,oD,ne_eq,forall_const]
    exact bad (of_eq_false z)
 ·cases e
end
section
section
variable {α:Type} {lt:α->α->Prop}
structure Strict (lt:α->α->Prop):Prop where
 irr:∀a,¬lt a a
 tr:∀ {a b c},lt a b->lt b c->lt a c
theorem Qnz (o:Strict lt):∀ {l:List α},(∀i (h:i+1<l.length),lt (l[i]'(by omega)) l[i+1])->l.Pairwise lt
 | [],_=>List.Pairwise.nil
 | [a],_=>List.pairwise_singleton _ _
 | a::b::l,h=>by
  have ih:=Qnz o (l:=b::l) fun i hi=>h (i+1) (by simpa using hi)
  have h0:=h 0 (by simp)
  refine List.pairwise_cons.2 ⟨fun d hd=>?_,ih⟩
  rcases List.mem_cons.1 hd with rfl|q
  ·exact h0
  ·exact o.tr h0 ((List.pairwise_cons.1 ih).1 d q)
theorem XlC (o:Strict lt) {l:List α}:l.Pairwise lt↔∀i (h:i+1<l.length),lt (l[i]'(by omega)) l[i+1]:=
 ⟨fun h i hi=>List.pairwise_iff_getElem.1 h i (i+1) (by omega) hi (by omega),Qnz o⟩
end
def cmpB:List UInt8->List UInt8->Int
 | [],[]=>0
 | [],_::_=>-1
 | _::_,[]=>1
 | a::l,b::l'=>if a<b then -1 else if b<a then 1 else cmpB l l'
theorem zQw:∀l:List UInt8,cmpB l l=0
 | []=>rfl
 | a::l=>by
  unfold cmpB
  rw[if_neg (UInt8.lt_irrefl a),if_neg (UInt8.lt_irrefl a),zQw l]
theorem YWg:∀ {a b c:List UInt8},cmpB a b<0->cmpB b c<0->cmpB a c<0
 | [],[],_,h,_=>by simp [cmpB]at h
 | [],_::_,[],_,k=>by simp [cmpB]at k
 | [],_::_,_::_,_,_=>by simp [cmpB]
 | _::_,[],_,h,_=>by simp [cmpB]at h
 | _::_,_::_,[],_,k=>by simp [cmpB]at k
 | a::l,b::l',c::l'',h,k=>by
  unfold cmpB at h k ⊢
  by_cases h1:a<b
  ·by_cases k1:b<c
   ·rw[if_pos (UInt8.lt_trans h1 k1)];omega
   ·rw[if_neg k1]at k
    by_cases k2:c<b
    ·rw[if_pos k2]at k;omega
    ·have e:b=c:=UInt8.le_antisymm (UInt8.not_lt.1 k2) (UInt8.not_lt.1 k1)
     subst e
     rw[if_pos h1];omega
  ·rw[if_neg h1]at h
   by_cases h2:b<a
   ·rw[if_pos h2]at h;omega
   ·rw[if_neg h2]at h
    have e:a=b:=UInt8.le_antisymm (UInt8.not_lt.1 h2) (UInt8.not_lt.1 h1)
    subst e
    by_cases k1:a<c
    ·rw[if_pos k1];omega
    ·rw[if_neg k1]at k ⊢
     by_cases k2:c<a
     ·rw[if_pos k2]at k;omega
     ·rw[if_neg k2]at k ⊢
      exact YWg h k
end
section
open Go.Extern
theorem KF7 (l:List UInt8) (i:Nat):(⟨l.toArray⟩:ByteArray)[i]! = l.getD i 0:=by
 by_cases h:i<l.length
 ·have h':i<(⟨l.toArray⟩:ByteArray).size:=by simpa [ByteArray.size] using h
  rw[getElem!_pos _ i h',List.getD_eq_getElem?_getD,List.getElem?_eq_getElem h]
  rfl
 ·have h':¬i<(⟨l.toArray⟩:ByteArray).size:=by simpa [ByteArray.size] using h
  rw[getElem!_neg _ i h',List.getD_eq_getElem?_getD,List.getElem?_eq_none (by omega)]
  rfl
theorem K38 (l:List UInt8):(⟨l.toArray⟩:ByteArray).size=l.length:=by simp [ByteArray.size]
theorem KlD:∀(l m:List UInt8),BytealgCompare.cmp ⟨l.toArray⟩ ⟨m.toArray⟩=cmpB l m:=by
 have key:∀(l m:List UInt8),BytealgCompare.cmp ⟨l.toArray⟩ ⟨m.toArray⟩=match (List.range (min l.length m.length)).find? fun i=>l.getD i 0 != m.getD i 0 with
   | some i=>if l.getD i 0<m.getD i 0 then -1 else 1
   | none=>if l.length<m.length then -1 else if l.length > m.length then 1 else 0:=fun l m=>by
  unfold BytealgCompare.cmp
  simp only[KF7,K38]
  rfl
 intro l
 induction l with
 | nil =>
  intro m
  rw[key]
  cases m with
  | nil=>rfl
  | cons b m=>simp [cmpB]
 | cons a l ih =>
  intro m
  cases m with
  | nil=>rw[key];simp [cmpB]
  | cons b m =>
   have h2:=ih m
   rw[key]at h2 ⊢
   have e:min (a::l).length (b::m).length=min l.length m.length+1:=by simp only[List.length_cons];omega
   rw[e,List.range_succ_eq_map,List.find?_cons]
   unfold cmpB
   by_cases hab:a=b
   ·subst hab
    have:((a::l).getD 0 0 != (a::m).getD 0 0)=false:=by simp
    rw[this,List.find?_map]
    rw[if_neg (UInt8.lt_irrefl a),if_neg (UInt8.lt_irrefl a),<-h2]
    have e2:((fun i=>(a::l).getD i 0 != (a::m).getD i 0)∘Nat.succ)=fun i=>l.getD i 0 != m.getD i 0:=by funext i;simp
    rw[e2]
    cases (List.range (min l.length m.length)).find? fun i=>l.getD i 0 != m.getD i 0 with
    | none=>simp
    | some i=>simp
   ·have:((a::l).getD 0 0 != (b::m).getD 0 0)=true:=by simpa using hab
    rw[this]
    dsimp only
    by_cases h1:a<b
    ·rw[if_pos h1];simp [h1]
    ·rw[if_neg h1,if_pos (UInt8.lt_of_le_of_ne (UInt8.not_lt.1 h1) (Ne.symm hab))]
     simp [h1]
theorem Q6J:∀l:List UInt8,bytesOf (l.map u8A)=some l
 | []=>rfl
 | a::l=>by
  show (bytesOf (l.map u8A)).map (UInt8.ofNat ((a.toNat:Int)).toNat :: ·)=_
  rw[Q6J l,Int.toNat_natCast,UInt8.ofNat_toNat]
  rfl
end
section
def strR:Row (List UInt8):=⟨fun s=>[.s s],1,fun _=>rfl,by decide,[],fun x y e=>by simpa using e⟩
def ltS (a b:List UInt8):Prop:=cmpB a b<0
instance (a b:List UInt8):Decidable (ltS a b):=inferInstanceAs (Decidable (_<_))
theorem Y1v:Strict ltS:=⟨fun a h=>by unfold ltS at h;rw[zQw]at h;omega,fun h k=>YWg h k⟩
theorem zHR (a b:List UInt8):(a == b)=decide (a=b):=by
 rw[Bool.eq_iff_iff]
 simp
theorem zWx (a b:List UInt8):binV .neq (.s a) (.s b)=some (.b (decide (¬a=b))):=by
 show some (AV.b (!(a == b)))=_
 rw[zHR,decide_not]
section
variable {α:Type}
end
end
section
section
variable {h:List AB} {p:Nat}
def oB (h:List AB) (id:Nat) (B0:AB):List AB:=h.set id (B0)
theorem ZrP (id:Nat) (B0:AB):(oB h id B0).length=h.length:=List.length_set
theorem ZSQ {id:Nat} (hid:id<h.length) (B0:AB) (x:List AB):(oB h id B0++x)[id]?=some B0:=by
 rw[List.getElem?_append_left (by rw[ZrP];exact hid)]
 unfold oB
 rw[List.getElem?_set_self hid]
theorem YAs {id:Nat} {B0:AB} (hb:h[id]?=some B0):oB h id B0=h:=by
 unfold oB
 refine List.ext_getElem? fun i=>?_
 rw[List.getElem?_set]
 split
 ·rename_i e
  subst e
  first|rw[if_pos (List.getElem?_eq_some_iff.1 hb).1,hb] | rw[hb]
 ·rfl
theorem ZmU (id:Nat) (B0:AB) (l:List AB):(oB h id B0++l).length=h.length+l.length:=by rw[List.length_append,ZrP]
theorem QMP {id:Nat} (hid:id<h.length) (hh:HOk h) (B0:AB) (x:List AB):HOk (oB h id B0++x)=((B0.ok (fun i=>decide (i<h.length+x.length))&&x.all fun B=>B.ok (fun i=>decide (i<h.length+x.length)))=true):=by
 refine propext ⟨fun q=>?_,fun q i B hB=>?_⟩
 ·rw[Bool.and_eq_true]
  refine ⟨?_,List.all_eq_true.2 fun B hB=>?_⟩
  ·have:=q id _ (ZSQ hid B0 x)
   rw[ZmU]at this
   exact this
  ·obtain ⟨j,hj,rfl⟩:=List.getElem_of_mem hB
   have:=q (h.length+j) x[j] (by rw[List.getElem?_append_right (by rw[ZrP];omega),ZrP,Nat.add_sub_cancel_left,List.getElem?_eq_getElem hj])
   rw[ZmU]at this
   exact this
 ·rw[ZmU]
  rw[Bool.and_eq_true]at q
  obtain ⟨q1,q2⟩:=q
  by_cases hi:i<h.length
  ·rw[List.getElem?_append_left (by rw[ZrP];exact hi)]at hB
   unfold oB at hB
   rw[List.getElem?_set]at hB
   split at hB
   ·rename_i e
    subst e
    first|rw[if_pos hid]at hB|skip
    cases hB
    exact q1
   ·exact AB.ok_mono (fun i hi=>by simp only[decide_eq_true_eq]at hi ⊢;omega) B (hh i B hB)
  ·rw[List.getElem?_append_right (by rw[ZrP];omega),ZrP]at hB
   exact List.all_eq_true.1 q2 B (List.mem_of_getElem? hB)
theorem ztZ {id k:Nat} (hk:k<h.length) (hne:k≠id) (B0:AB) (x:List AB):(oB h id B0++x)[k]?=h[k]?:=by
 rw[List.getElem?_append_left (by rw[ZrP];exact hk)]
 unfold oB
 rw[List.getElem?_set_ne (Ne.symm hne)]
theorem zH8 {id:Nat} (hid:id<h.length) (B0 B1:AB) (x:List AB):(oB h id B0++x).set id B1=oB h id B1++x:=by
 rw[List.set_append_left _ _ (by rw[ZrP];exact hid)]
 unfold oB
 rw[List.set_set]
theorem XDt {id k:Nat} {xs:List AV} (hk:zZU h k=some xs) (hne:k≠id) (B0:AB) (x:List AB) (n:Option Nat) (o:Nat):ldV (oB h id B0++x) n (.p k o)=ldV h n (.p k o):=by
 have hlt:=ZT4 hk
 have:zZU (oB h id B0++x) k=zZU h k:=by
  unfold zZU
  rw[ztZ hlt hne]
 cases n <;> simp only[ldV,this]
theorem JOf {α:Type} (r:KeyR α) {id:Nat} (hid:id<h.length) (m:Bool) (l:List (α×AV)) (x:List AB) (ok:Bool) (z:AV) (d:α):lkV (oB h id (mpB r m l)++x) r.ag r.ks ok z (.m id) (r.f d)=some (lkR ok z (fndM r d l 0)):=ZYP r (ZSQ hid _ x) ok z d
theorem Y5E {α:Type} (r:KeyR α) {id:Nat} (hid:id<h.length) (l:List (α×AV)) (x:List AB) (d:α) (v:AV):muV (oB h id (mpB r true l)++x) r.ag r.ks (.m id) (r.f d) v=some (oB h id (mpB r true (putM r l d v))++x):=by rw[XHD r (ZSQ hid _ x),zH8 hid]
theorem QWz {id:Nat} (hh:HOk h) {B0:AB} (hB:∀q,B0.ok q=true):HOk (oB h id B0):=fun i C hC=>by
 rw[ZrP]
 unfold oB at hC
 rw[List.getElem?_set]at hC
 split at hC
 ·split at hC
  ·cases hC;exact hB _
  ·cases hC
 ·exact hh i C hC
theorem Bt.selO {P:Program} {id:Nat} {B0:AB} {l l':List AB} {fr fr':List AV} (sel:List Nat) (hh:HOk h) (hB:∀q,B0.ok q=true) (hnd:sel.Nodup) (hb:BlkSel h.length sel sel.length l sel l') (hfr:FrSel h.length sel sel.length fr fr'):Bt P h.length fr (oB h id B0++l) fr' (oB h id B0++l'):=by
 have:=Bt.sel (P:=P) (h:=oB h id B0) (l:=l) (l':=l') (fr:=fr) (fr':=fr') sel (QWz hh hB) hnd (by rw[ZrP];exact hb) (by rw[ZrP];exact hfr)
 rwa [ZrP]at this
end
end
section
theorem QR0:Strict JTv:=⟨qRc,fun h k=>q5N h k⟩
end
section
section
variable {α:Type} {r:Row α} {h:List AB}
theorem KKk {H:List AB} {id:Nat} {m:Bool} {l:List α} (e:H[id]?=some (resB r m l)) (hl:l.length<=maxLen):Rd r H (apS r id l) l:=by
 by_cases h0:l.length=0
 ·obtain rfl:=List.eq_nil_of_length_eq_zero h0
  exact ⟨rfl,Nat.zero_le _⟩
 ·rw[JgW _ h0]
  exact qIg e hl
theorem Bt.low {P:Program} {p p':Nat} {l l':List AV} {h h':List AB} (e:Bt P p' l h l' h') (hp:p<=p') (hl:p'<=h.length):Bt P p l h l' h':=fun ρ w cs _ r v=>by
 obtain ⟨p1,ρ',v',r',o,a,f⟩:=e ρ w cs hl r v
 refine ⟨Nat.le_trans hp p1,ρ',v',r',o,fun i b hb=>?_,fun i hi=>f i (Nat.lt_of_lt_of_le hi hp)⟩
 obtain ⟨j,h1,h2,h3⟩:=a i b hb
 refine ⟨j,h1,fun hi=>h2 (Nat.lt_of_lt_of_le hi hp),fun hi=>?_⟩
 rcases Nat.lt_or_ge i p' with q|q
 ·rw[h2 q];exact hi
 ·exact Nat.le_trans hp (h3 q)
end
section
variable {α:Type} {r:Row α}
end
end
end Go.Proofs.YtekeoichmdiiiaaGreat
