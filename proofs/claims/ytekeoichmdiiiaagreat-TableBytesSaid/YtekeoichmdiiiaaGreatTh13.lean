/- Part 13 of what the laws' proofs rest on. No condition. -/
import Derived.Test.YtekeoichmdiiiaaGreatTh12
set_option linter.all false
namespace Go.Proofs.YtekeoichmdiiiaaGreat
section
open Go.RowKit
theorem FRel.unique {F:FR} {a b:List AV} (h:FRel F a) (k:FRel F b):a=b:=by
 have hl:a.length=b.length:=by rw[<-h.len,<-k.len]
 refine List.ext_getElem? fun i=>?_
 by_cases hi:i<a.length
 ·have e1:=h.get i
  have e2:=k.get i
  rw[qGQ,List.getElem?_eq_getElem hi]at e1
  rw[qGQ,List.getElem?_eq_getElem (by omega:i<b.length)]at e2
  rw[List.getElem?_eq_getElem hi,List.getElem?_eq_getElem (by omega:i<b.length)]
  simp only[Option.getD_some]at e1 e2
  rw[<-e1,<-e2]
 ·rw[List.getElem?_eq_none (by omega),List.getElem?_eq_none (by omega)]
theorem BRel.unique {X:Option HB} {B C:AB} (h:BRel X B) (k:BRel X C):B=C:=by
 cases X with
 | none=>rw[show B=.dead from h,show C=.dead from k]
 | some X =>
  cases X with
  | b D=>rw[show B=D from h,show C=D from k]
  | lp st pd F ps asg bd =>
   obtain ⟨fr,h1,rfl⟩:=h
   obtain ⟨fr',h2,rfl⟩:=k
   rw[h1.unique h2]
theorem HRel.unique {H:HP} {a b:List AB} (h:HRel H a) (k:HRel H b):a=b:=by
 have hl:a.length=b.length:=by rw[<-h.len,<-k.len]
 refine List.ext_getElem? fun i=>?_
 by_cases hi:i<a.length
 ·rw[List.getElem?_eq_getElem hi,List.getElem?_eq_getElem (by omega:i<b.length)]
  exact congrArg _ ((h.blk i _ (List.getElem?_eq_getElem hi)).unique (k.blk i _ (List.getElem?_eq_getElem (by omega))))
 ·rw[List.getElem?_eq_none (by omega),List.getElem?_eq_none (by omega)]
section
variable {P:Program}
theorem AM.drwE (hm:P.follows .mixedOrders=true) {T:TB} {E:RunT} (hT:Z4Q P T) (hE:SoundX P E) {ds:List DOp} {F F':FR} {H0 H0':HP} {fr:List AV} {h:List AB} (hF:FRel F fr) (hH:HRel H0 h)
  (e:XQO T E H0.len ds 0 [] F H0=some (F',H0')):∃fr' h',FRel F' fr'/\HRel H0' h'/\∀(p:Nat) (rd:Option Nat) (fn:FuncId) (id:Nat) (k:List CI) (R:AV->List AB->Prop),AM P p rd fn k fr' h' R->AM P p rd fn (.code (.drw id ds)::k) fr h R:=by
 obtain ⟨S,V,PT,_,_,s2,s3⟩:=YbT hT hE ds 0 [] F H0 fr h _ hF hH e
 refine ⟨_,_,s2,s3,fun p rd fn id k R g=>AM.drwT hm hT hE hF hH e fun fr' h' f1 f2=>?_⟩
 rw[f1.unique s2,f2.unique s3]
 exact g
theorem Ysr {rd:Option Nat} {fn:FuncId} {c:CC} {ia:FR->HP->OutT}
  (hia:∀ {F F':FR} {H H':HP} {x:XE} {fr:List AV} {h:List AB},FRel F fr->HRel H h->ia F H=some (x,F',H')->∃fr' h',FRel F' fr'/\HRel H' h'/\∀(p:Nat) (R:AV->List AB->Prop) (k:List CI),Left P p rd fn k R fr' h' x->AM P p rd fn (.code c::k) fr h R) :
  ∀(n:Nat) {F F':FR} {H H':HP} {x:XE} {fr:List AV} {h:List AB},FRel F fr->HRel H h->YrW ia n F H=some (x,F',H')->∃fr' h',FRel F' fr'/\HRel H' h'/\∀(p:Nat) (R:AV->List AB->Prop) (k:List CI),Left P p rd fn k R fr' h' x->AM P p rd fn (.code c::.lp c::k) fr h R
 | 0,_,_,_,_,_,_,_,_,_,e=>by cases e
 | n+1,F,F',H,H',x,fr,h,hF,hH,e=>by
  change (match ia F H with
   | none=>none
   | some (x,fr',h')=>match x with
    | .n=>YrW ia n fr' h'
    | .x id=>some (.x id,fr',h')
    | .r=>some (.r,fr',h'))=some (x,F',H') at e
  split at e
  ·cases e
  ·rename_i x1 F1 H1 hx
   obtain ⟨fr1,h1,f1,f2,f3⟩:=hia hF hH hx
   cases x1 with
   | n =>
    simp only at e
    obtain ⟨fr',h',q1,q2,q3⟩:=Ysr hia n f1 f2 e
    exact ⟨fr',h',q1,q2,fun p R k g=>f3 p R (.lp c::k) (AM.lp (q3 p R k g))⟩
   | x id =>
    simp only at e
    cases e
    exact ⟨fr1,h1,f1,f2,fun p R k g=>f3 p R (.lp c::k) (g.pass (fun q=>nomatch q) (fun _ _=>rfl))⟩
   | r =>
    simp only at e
    cases e
    exact ⟨fr1,h1,f1,f2,fun p R k g=>f3 p R (.lp c::k) g⟩
theorem TB.cfs_some {T:TB} {g:Nat} {c:TC} (h:T.cfs g=some c):∃cf,c=.cf cf/\T g=some (.cf cf):=by
 unfold TB.cfs at h
 split at h
 ·rename_i d hd
  cases d with
  | cf x=>cases h;exact ⟨x,rfl,hd⟩
  | nv f=>cases (show (none:Option TC)=_ from h)
 ·cases h
theorem Krk (hm:P.follows .mixedOrders=true) {T:TB} {E:RunT} (hT:Z4Q P T) (hE:SoundX P E) {rd:Option Nat} {fn:FuncId} (c:CC):∀ {F F':FR} {H H':HP} {x:XE} {fr:List AV} {h:List AB},FRel F fr->HRel H h ->
  evCT T E rd.isSome c F H=some (x,F',H')->∃fr' h',FRel F' fr'/\HRel H' h'/\∀(p:Nat) (R:AV->List AB->Prop) (k:List CI),Left P p rd fn k R fr' h' x->AM P p rd fn (.code c::k) fr h R:=by
 induction c with
 | skip =>
  intro F F' H H' x fr h hF hH e
  cases e
  exact ⟨fr,h,hF,hH,fun p R k g=>AM.go rfl g⟩
 | reg id l =>
  intro F F' H H' x fr h hF hH e
  change outT (YOF T E l F H)=some (x,F',H') at e
  unfold outT at e
  split at e
  ·rename_i F1 H1 hr
   cases e
   obtain ⟨fr',h',q1,q2,q3⟩:=Q4O hT hE l hF hH hr
   exact ⟨fr',h',q1,q2,fun p R k g=>AM.go rfl (q3 p rd fn k R g)⟩
  ·cases e
 | drw id l =>
  intro F F' H H' x fr h hF hH e
  change outT (XQO T E H.len l 0 [] F H)=some (x,F',H') at e
  unfold outT at e
  split at e
  ·rename_i F1 H1 hr
   cases e
   obtain ⟨fr',h',q1,q2,q3⟩:=AM.drwE hm hT hE hF hH hr
   exact ⟨fr',h',q1,q2,fun p R k g=>q3 p rd fn id k R g⟩
  ·cases e
 | seq a b iha ihb =>
  intro F F' H H' x fr h hF hH e
  change XSV (evCT T E rd.isSome a) (evCT T E rd.isSome b) F H=some (x,F',H') at e
  unfold XSV at e
  split at e
  ·cases e
  ·rename_i x1 F1 H1 hx
   obtain ⟨fr1,h1,f1,f2,f3⟩:=iha hF hH hx
   cases x1 with
   | n =>
    obtain ⟨fr',h',q1,q2,q3⟩:=ihb f1 f2 e
    exact ⟨fr',h',q1,q2,fun p R k g=>AM.go rfl (f3 p R (.code b::k) (q3 p R k g))⟩
   | x id =>
    cases e
    exact ⟨fr1,h1,f1,f2,fun p R k g=>AM.go rfl (f3 p R (.code b::k) (g.pass (fun q=>nomatch q) (fun _ _=>rfl)))⟩
   | r =>
    cases e
    exact ⟨fr1,h1,f1,f2,fun p R k g=>AM.go rfl (f3 p R (.code b::k) g)⟩
 | cond q a b iha ihb =>
  intro F F' H H' x fr h hF hH e
  change KiL q (evCT T E rd.isSome a) (evCT T E rd.isSome b) F H=some (x,F',H') at e
  unfold KiL at e
  rw[YgA q (fun t _=>hF.get t)]at e
  split at e
  ·rename_i t ht
   cases t with
   | true =>
    obtain ⟨fr',h',q1,q2,q3⟩:=iha hF hH e
    exact ⟨fr',h',q1,q2,fun p R k g=>AM.go (by simp only[XYj,ht]) (q3 p R k g)⟩
   | false =>
    obtain ⟨fr',h',q1,q2,q3⟩:=ihb hF hH e
    exact ⟨fr',h',q1,q2,fun p R k g=>AM.go (by simp only[XYj,ht]) (q3 p R k g)⟩
  ·cases e
 | block id a iha =>
  intro F F' H H' x fr h hF hH e
  change Q0j id (evCT T E rd.isSome a) F H=some (x,F',H') at e
  unfold Q0j at e
  split at e
  ·cases e
  ·rename_i x1 F1 H1 hx
   obtain ⟨fr1,h1,f1,f2,f3⟩:=iha hF hH hx
   cases x1 with
   | n =>
    cases e
    exact ⟨fr1,h1,f1,f2,fun p R k g=>AM.go rfl (f3 p R (.blk id::k) (AM.go rfl g))⟩
   | x id' =>
    simp only at e
    by_cases hid:id=id'
    ·subst hid
     have:Nat.beq id id=true:=by rw[Nat.beq_eq]
     rw[this]at e
     cases e
     exact ⟨fr1,h1,f1,f2,fun p R k g=>AM.go rfl (f3 p R (.blk id::k) (.inl ⟨k,by simp [KYl],g⟩))⟩
    ·have:Nat.beq id id'=false:=by
      cases hb:Nat.beq id id' with
      | true=>exact absurd (Nat.eq_of_beq_eq_true hb) hid
      | false=>rfl
     rw[this]at e
     cases e
     exact ⟨fr1,h1,f1,f2,fun p R k g=>AM.go rfl (f3 p R (.blk id::k) (g.pass (fun q=>nomatch q) (fun i q=>by cases q;simp [KYl,hid])))⟩
   | r =>
    cases e
    exact ⟨fr1,h1,f1,f2,fun p R k g=>AM.go rfl (f3 p R (.blk id::k) g)⟩
 | loop a iha =>
  intro F F' H H' x fr h hF hH e
  change YrW (evCT T E rd.isSome a) 100000 F H=some (x,F',H') at e
  obtain ⟨fr',h',q1,q2,q3⟩:=Ysr (P:=P) (rd:=rd) (fn:=fn) (c:=a) (fun hF hH e=>iha hF hH e) 100000 hF hH e
  exact ⟨fr',h',q1,q2,fun p R k g=>AM.loop (q3 p R k g)⟩
 | scope a iha =>
  intro F F' H H' x fr h hF hH e
  change evCT T E rd.isSome a F H=some (x,F',H') at e
  obtain ⟨fr',h',q1,q2,q3⟩:=iha hF hH e
  refine ⟨fr',h',q1,q2,fun p R k g=>AM.go rfl (q3 p R (.sc::k) ?_)⟩
  cases x with
  | n=>exact AM.go rfl g
  | x id=>exact g.pass (fun q=>nomatch q) (fun _ _=>rfl)
  | r=>exact g
 | exit id =>
  intro F F' H H' x fr h hF hH e
  cases e
  exact ⟨fr,h,hF,hH,fun p R k g=>g.jump⟩
 | ret =>
  intro F F' H H' x fr h hF hH e
  cases e
  exact ⟨fr,h,hF,hH,fun p R k g=>g k⟩
 | stop =>
  intro F F' H H' x fr h hF hH e
  cases e
 | rf q ps a b iha ihb =>
  intro F F' H H' x fr h hF hH e
  cases rd with
  | some l=>cases e
  | none =>
   change eRfT T E q ps a b F H=some (x,F',H') at e
   unfold eRfT at e
   rw[YgA q (fun t _=>hF.get t)]at e
   split at e
   ·rename_i f0 fst cap hq
    split at e
    ·cases e
    ·rename_i H1 hpush
     have hH1:HRel H1 (h++[AB.lp .ready .n fr ps a b]):=hH.push (X:=some (.lp .ready .n F ps a b)) ⟨fr,hF,rfl⟩ hpush
     split at e
     ·cases e
     ·rename_i v H2 hcall
      simp only[Q9M]at hcall
      split at hcall
      ·rename_i gid fst' cap' hq'
       cases hq'
       split at hcall
       ·rename_i c0 hcf
        obtain ⟨cf,rfl,hcf'⟩:=TB.cfs_some hcf
        obtain ⟨f,g1,g2⟩:=hT _ _ hcf'
        change (match Nat.ble (fst++[AV.y H.len]++cap).length cf.ntmps with
         | true=>E (.fn cf) (Z4C (fst++[AV.y H.len]++cap) 0 (FR.full cf.ntmps)) H1
         | false=>none)=_ at hcall
        split at hcall
        ·rename_i hle
         have hle':(fst++[AV.y H.len]++cap).length<=cf.ntmps:=by simpa using hle
         obtain ⟨h2,r1,r2⟩:=hE.fn gid f cf _ _ _ _ _ _ g1 g2 (FRel.enter _ _ hle') hH1 hcall
         rw[hH.len]at r2 e
         split at e
         ·rename_i st pd F1 ps1 a1 b1 hlp
          obtain ⟨B,hB,fr1,hF1,rfl⟩:=r1.here hlp
          have hst:st≠.busy:=fun z=>by
           subst z
           cases e
          have e':some (pd,F,(⟨H2.len,H2.t.set h.length none⟩:HP))=some (x,F',H'):=by
           rw[<-e]
           cases st <;> first|rfl|exact absurd rfl hst
          cases e'
          exact ⟨fr,h2.set h.length .dead,hF,r1.set (X:=none) (B:=.dead) (List.getElem?_eq_some_iff.1 hB).1 rfl,fun p R k g=>AM.rf hq g1 g2 r2 hB hst g.jump⟩
         ·cases e
        ·cases hcall
       ·cases hcall
      ·rename_i id hq'
       cases hq'
      ·cases hcall
   ·cases e
theorem ZEQ {F:FR} {fr:List AV} {H:HP} {h:List AB} (hF:FRel F fr) (hH:HRel H h) (rs:List RC):resT F H rs=resV fr h rs:=by
 have one:∀r,XJL F H r=KZN fr h r:=fun r=>by
  cases r with
  | t n =>
   simp only[XJL,KZN]
   rw[hF.get,QCq]
  | cell n sz =>
   simp only[XJL,KZN]
   rw[zOu (HP.g_blk hH),hF.get,QCq]
 have all:∀rs,Zi8 F H rs=JRR fr h rs:=by
  intro rs
  induction rs with
  | nil=>rfl
  | cons r rs ih =>
   simp only[Zi8,JRR]
   rw[one,ih]
 unfold resT resV
 rw[all]
 rfl
theorem qtE (hm:P.follows .mixedOrders=true) {T:TB} (hT:Z4Q P T):∀n,SoundX P (evTF T n)
 | 0=>⟨fun g fn cf F fr H h v H' hf hc hF hH e=>(by cases e),fun id asg bd F fr H h v H' hF hH e=>(by cases e)⟩
 | n+1=>by
  refine ⟨fun g fn cf F fr H h v H' hf hc hF hH e=>?_,fun id asg bd F fr H h v H' hF hH e=>?_⟩
  ·change finT cf (evCT T (evTF T n) false cf.body F H)=some (v,H') at e
   obtain ⟨_,body,hb,hcb,hres,_⟩:=qKr hc
   unfold finT at e
   split at e
   ·cases e
   ·rename_i x F1 H1 hx
    obtain ⟨fr1,h1,q1,q2,q3⟩:=Krk (P:=P) hm hT (qtE hm hT n) (rd:=none) (fn:=g) cf.body hF hH hx
    cases x with
    | x id=>cases e
    | n =>
     simp only at e
     split at e
     ·rename_i u hu
      cases e
      rw[ZEQ q1 q2]at hu
      exact ⟨h1,q2,q3 _ _ [] (AM.fin hf hres hu ⟨rfl,rfl⟩)⟩
     ·cases e
    | r =>
     simp only at e
     split at e
     ·rename_i u hu
      cases e
      rw[ZEQ q1 q2]at hu
      exact ⟨h1,q2,q3 _ _ [] fun k'=>AM.ret hf hres hu ⟨rfl,rfl⟩⟩
     ·cases e
  ·change Jak T (evTF T n) id asg bd F H=some (v,H') at e
   unfold Jak at e
   split at e
   ·rename_i F1 H1 hx
    split at e
    ·rename_i pd F0 ps a b hlp
     unfold qim at e
     split at e
     ·cases e
     ·rename_i x F2 H2 hx2
      split at e
      ·rename_i st pd' F0' ps' a' b' hlp2
       have main:∀g,∃fr1 h1 fr2 h2 fr0 fr0',FRel F1 fr1/\HRel H1 h1/\h1[id]?=some (.lp .ready pd fr0 ps a b)/\HRel H2 h2/\FRel F0' fr0'/\h2[id]?=some (.lp st pd' fr0' ps' a' b') /\
         (∀(p:Nat) (R:AV->List AB->Prop) (k:List CI),Left P p (some id) g k R fr1 h1 .n->AM P p (some id) g (.code asg::k) fr h R) /\
         (∀(p:Nat) (R:AV->List AB->Prop) (k:List CI),Left P p (some id) g k R fr2 h2 x->AM P p (some id) g (.code bd::k) fr1 (h1.set id (.lp .busy pd fr0 ps a b)) R):=fun g=>by
        obtain ⟨fr1,h1,q1,q2,q3⟩:=Krk (P:=P) hm hT (qtE hm hT n) (rd:=some id) (fn:=g) asg hF hH hx
        obtain ⟨B,hB,fr0,hF0,rfl⟩:=q2.here hlp
        have q2':=q2.set (i:=id) (X:=some (.lp .busy pd F0 ps a b)) (B:=.lp .busy pd fr0 ps a b) (List.getElem?_eq_some_iff.1 hB).1 ⟨fr0,hF0,rfl⟩
        obtain ⟨fr2,h2,z1,z2,z3⟩:=Krk (P:=P) hm hT (qtE hm hT n) (rd:=some id) (fn:=g) bd q1 q2' hx2
        obtain ⟨B2,hB2,fr0',hF0',rfl⟩:=z2.here hlp2
        exact ⟨fr1,h1,fr2,h2,fr0,fr0',q1,q2,hB,z2,hF0',hB2,q3,z3⟩
       obtain ⟨fr1,h1,fr2,h2,fr0,fr0',m1,m2,m3,m4,m5,m6,m7,m8⟩:=main 0
       have same:∀g,∃fr2',(∀(p:Nat) (R:AV->List AB->Prop) (k:List CI),Left P p (some id) g k R fr1 h1 .n->AM P p (some id) g (.code asg::k) fr h R) /\
         (∀(p:Nat) (R:AV->List AB->Prop) (k:List CI),Left P p (some id) g k R fr2' h2 x->AM P p (some id) g (.code bd::k) fr1 (h1.set id (.lp .busy pd fr0 ps a b)) R):=fun g=>by
        obtain ⟨fr1',h1',fr2',h2',fr0a,fr0b,n1,n2,n3,n4,n5,n6,n7,n8⟩:=main g
        have e1:=n1.unique m1
        have e2:=n2.unique m2
        have e3:=n4.unique m4
        subst e1;subst e2;subst e3
        rw[n3]at m3
        cases m3
        exact ⟨fr2',n7,n8⟩
       have hlt:id<h2.length:=(List.getElem?_eq_some_iff.1 m6).1
       have fin:∀(st':LoopState) (y:XE),HRel ⟨H2.len,H2.t.set id (some (.lp st' y F0' ps' a' b'))⟩ (h2.set id (.lp st' y fr0' ps' a' b')):=fun st' y=>m4.set hlt ⟨fr0',m5,rfl⟩
       cases x with
       | n =>
        cases e
        refine ⟨_,fin .ready .n,fun g=>?_⟩
        obtain ⟨fr2',n7,n8⟩:=same g
        exact n7 _ _ [.br,.code bd] (AM.br m3 (n8 _ _ [] (AM.rend m6 ⟨rfl,rfl⟩)))
       | x y =>
        cases e
        refine ⟨_,fin .done (.x y),fun g=>?_⟩
        obtain ⟨fr2',n7,n8⟩:=same g
        exact n7 _ _ [.br,.code bd] (AM.br m3 (n8 _ _ [] (.inr ⟨rfl,fun k' hk=>AM.rexit hk m6 ⟨rfl,rfl⟩⟩)))
       | r =>
        cases e
        refine ⟨_,fin .done .r,fun g=>?_⟩
        obtain ⟨fr2',n7,n8⟩:=same g
        exact n7 _ _ [.br,.code bd] (AM.br m3 (n8 _ _ [] fun k'=>AM.rret m6 ⟨rfl,rfl⟩))
      ·cases e
    ·cases e
   ·cases e
theorem Calls.evTD (hm:P.follows .mixedOrders=true) {T:TB} (hT:Z4Q P T) (n g:Nat) {cf:CF} (hg:T g=some (.cf cf)) (e:runT T n cf=true) (w:World) (g0:∃N,GG N w) :
  Calls P g #[] w (fun en w'=>en=.returned (.bool true)/\Quietly w w'/\dr w<=dr w'):=by
 intro cs
 obtain ⟨fn,hf,hc⟩:=hT g _ hg
 obtain ⟨_,body,hb,hcb,hres,hnt⟩:=qKr hc
 unfold runT isTT at e
 split at e
 ·rename_i H' he
  have h0:HRel ⟨0,HT.full 14⟩ []:=⟨rfl,by simp,fun i _=>HT.full_get 14 i,fun i B q=>by simp at q,fun i hi=>HT.full_has 14 i (by omega)⟩
  obtain ⟨h',_,am⟩:=(qtE hm hT n).fn g fn cf _ _ _ _ _ _ hf hc (FRel.full cf.ntmps) h0 he
  let bf:Frame:={ (default:Frame) with fn:=g,kind:=.normal,roundOf:=none }
  have henter:Frame.enter P g #[] .normal=bf.atR { tmps:=Array.replicate fn.ntmps undef,defers:=[] } [.code body]:=by
   simp [Frame.enter,Frame.atR,hf,hb,bf]
  have hrel:Rel (KC P) [] [] w:=⟨rfl,fun i B b o n h=>by simp at h,fun i j bi oi bj oj Bi Bj _ h=>by simp at h,GL.nil g0⟩
  obtain ⟨v,w',⟨a,h'',ρ',⟨ha,_⟩,hv,_,heff⟩,frm,hst,hfn,hlv⟩:=am [] w (Array.replicate fn.ntmps undef) [.code body] bf cs [] rfl rfl rfl (Nat.le_refl _) (.mcode hcb trivial) (by rw[hnt];exact qYv [] _) hrel ⟨List.nodup_nil,fun r h=>by simp at h⟩
  subst ha
  cases hv
  refine ⟨.returned (.bool true),w',frm,⟨rfl,⟨heff.os,heff.tape,heff.output.1,heff.size,fun k hk=>heff.p.keep k hk fun ho=>?_⟩,heff.output.2⟩,by rw[henter];exact hst,hfn,hlv⟩
  obtain ⟨i,B,o,h1,_⟩:=ho
  simp at h1
 ·cases e
theorem FnC.closed (hm:P.follows .mixedOrders=true) {T:TB} (hT:Z4Q P T) (n g:Nat) {cf:CF} (hg:T g=some (.cf cf)) (e:runT T n cf=true) (h:List AB):FnC P g [] h (.b true) h:=by
 obtain ⟨fn,hf,hc⟩:=hT g _ hg
 obtain ⟨hname,body,hb,_⟩:=qKr hc
 refine ⟨⟨fn,body,hf,by simpa using hname,hb⟩,fun ρ w vals hr hv=>?_⟩
 obtain rfl:vals = #[]:=Array.eq_empty_of_size_eq_zero hv.1.symm
 refine (Calls.evTD hm hT n g hg e w hr.gl.some).mono ?_
 rintro en w' ⟨rfl,q,hd⟩
 refine ⟨_,ρ,rfl,.b true,⟨hr.len,fun i B bb o n h1 h2=>(hr.blk i B bb o n h1 h2).same (Ext.refl _) fun hl=>q.block bb ((hr.blk i B bb o n h1 h2).lt hl),hr.sep,hr.gl.keep q.size (fun k hk _=>q.block k hk) fun _ z=>.inl z⟩,?_⟩
 have:Eff ρ h w ρ h w':=⟨q.os,q.tape,⟨q.output,hd⟩,q.size,fun k hk _=>q.block k hk,fun _ q=>.inl q,fun _ _ q=>.inl q⟩
 exact this.p (Ext.refl _) (by rw[hr.len];exact Nat.le_refl _)
def AllN (P:Program):Nat->List (Option TC)->Prop
 | _,[]=>True
 | g,none::l=>AllN P (g+1) l
 | g,some c::l=>c.Ok P g/\AllN P (g+1) l
def AllNs (P:Program):Nat->List (List (Option TC))->Prop
 | _,[]=>True
 | g,r::l=>AllN P g r/\AllNs P (g+16) l
theorem AllN.cons {g:Nat} {fn:Func} {c:CF} {l:List (Option TC)} (h1:P.funcs[g]?=some fn) (h2:J0o P fn=some c) (h3:AllN P (g+1) l):AllN P g (some (.cf c)::l):=⟨⟨fn,h1,h2⟩,h3⟩
theorem AllN.skip {g:Nat} {l:List (Option TC)} (h3:AllN P (g+1) l):AllN P g (none::l):=h3
theorem AllNs.cons {g:Nat} {r:List (Option TC)} {l:List (List (Option TC))} (h1:AllN P g r) (h2:AllNs P (g+16) l):AllNs P g (r::l):=⟨h1,h2⟩
noncomputable def zyH (l:List (Option TC)):Nat->Option TC:=List.rec (motive:=fun _=>Nat->Option TC) (fun _=>none) (fun a _ ih n=>Nat.rec (motive:=fun _=>Option TC) a (fun m _=>ih m) n) l
noncomputable def KZd (l:List (List (Option TC))):Nat->List (Option TC):=List.rec (motive:=fun _=>Nat->List (Option TC)) (fun _=>[]) (fun a _ ih n=>Nat.rec (motive:=fun _=>List (Option TC)) a (fun m _=>ih m) n) l
noncomputable def tabn (tls:List (List (Option TC))) (g:Nat):Option TC:=zyH (KZd tls (Nat.div g 16)) (Nat.mod g 16)
theorem qab:∀(l:List (Option TC)) (g j:Nat) (c:TC),AllN P g l->zyH l j=some c->c.Ok P (g+j)
 | [],_,_,_,_,e=>by cases e
 | none::l,g,0,c,h,e=>by cases e
 | some d::l,g,0,c,h,e=>by
  cases e
  exact h.1
 | none::l,g,j+1,c,h,e=>by
  have:=qab l (g+1) j c h e
  rw[show g+1+j=g+(j+1) by omega]at this
  exact this
 | some d::l,g,j+1,c,h,e=>by
  have:=qab l (g+1) j c h.2 e
  rw[show g+1+j=g+(j+1) by omega]at this
  exact this
theorem zDr:∀(tls:List (List (Option TC))) (g b:Nat),AllNs P g tls->AllN P (g+16*b) (KZd tls b)
 | [],_,_,_=>trivial
 | r::l,g,0,h=>h.1
 | r::l,g,b+1,h=>by
  have:=zDr l (g+16) b h.2
  rw[show g+16+16*b=g+16*(b+1) by omega]at this
  exact this
theorem JkV (tls:List (List (Option TC))) (h:AllNs P 0 tls):Z4Q P (tabn tls):=fun g c e=>by
 have:=qab _ _ _ _ (zDr tls 0 (g / 16) h) e
 have hg:0+16*(g / 16)+Nat.mod g 16=g:=by
  have:Nat.mod g 16=g % 16:=rfl
  omega
 rw[hg]at this
 exact this
end
end
section
open Go.RowKit
mutual
def AV.ren (f:Nat->Nat):AV->AV
 | .p id off=>.p (f id) off
 | .sl id off len cap k=>.sl (f id) off len cap k
 | .f fn fst cap=>.f fn (renL f fst) (renL f cap)
 | .ifc t v=>.ifc t (v.ren f)
 | .ag l=>.ag (renL f l)
 | .tu l=>.tu (renL f l)
 | .y id=>.y (f id)
 | .m id=>.m (f id)
 | .nm=>.nm
 | .b x=>.b x
 | .i k n=>.i k n
 | .s l=>.s l
 | .np=>.np
 | .se=>.se
 | .ns=>.ns
 | .nf=>.nf
 | .ni=>.ni
 | .top=>.top
def renL (f:Nat->Nat):List AV->List AV
 | []=>[]
 | a::l=>a.ren f::renL f l
end
theorem K7o (f:Nat->Nat):∀(l:List AV) (j:Nat),(renL f l)[j]?=(l[j]?).map (AV.ren f)
 | [],_=>by simp [renL]
 | a::l,0=>by simp [renL]
 | a::l,j+1=>by simp only[renL,List.getElem?_cons_succ];exact K7o f l j
theorem qnx (f:Nat->Nat):∀l:List AV,(renL f l).length=l.length
 | []=>rfl
 | _::l=>by simp [renL,qnx f l]
theorem VR.ren_up {ρ ρ':Mp} {f:Nat->Nat} (h:∀(i:Nat) x,ρ'[i]?=some x->ρ[f i]?=some x) {a:AV} {v:Value} (r:VR ρ' a v):VR ρ (a.ren f) v:=by
 have lst:∀ {l:List AV} {cs:Array Value},(∀(j:Nat) a c,l[j]?=some a->cs[j]?=some c->VR ρ (a.ren f) c)->∀(j:Nat) a c,(renL f l)[j]?=some a->cs[j]?=some c->VR ρ a c:=fun {l cs} ih j a c h1 h2=>by
  rw[K7o]at h1
  obtain ⟨b,hb,rfl⟩:=Option.map_eq_some_iff.1 h1
  exact ih j b c hb h2
 induction r with
 | b x=>exact .b x
 | i k n=>exact .i k n
 | s l bs h=>exact .s l bs h
 | p id off b o n hρ=>exact .p _ off b o n (h _ _ hρ)
 | np=>exact .np
 | sl id off len cap k b o n cap' hρ h1 h2 h3 h4 h5=>exact .sl _ off len cap k b o n cap' (h _ _ hρ) h1 h2 h3 h4 h5
 | sz id off a c hc hn=>exact .sz _ off a c hc hn
 | se a c hc=>exact .se a c hc
 | ns=>exact .ns
 | f fn fst cap fst' cap' h0 hl _ _ ih0 ih=>exact .f fn _ _ fst' cap' (by rw[qnx];exact h0) (by rw[qnx];exact hl) (lst ih0) (lst ih)
 | nf=>exact .nf
 | ifc t v v' _ ih=>exact .ifc t _ v' ih
 | ni=>exact .ni
 | ag l cs hl _ ih=>exact .ag _ cs (by rw[qnx];exact hl) (lst ih)
 | tu l cs hl _ ih=>exact .tu _ cs (by rw[qnx];exact hl) (lst ih)
 | top v=>exact .top v
 | y id b o n hρ=>exact .y _ b o n (h _ _ hρ)
 | m id b o n hρ=>exact .m _ b o n (h _ _ hρ)
 | nm=>exact .nm
mutual
theorem VR.ren_down {ρ ρ':Mp} {f:Nat->Nat} {q:Nat->Bool} (hq:∀i,q i=true->ρ'[i]?=ρ[f i]?):∀(a:AV),a.ok q=true->∀v,VR ρ (a.ren f) v->VR ρ' a v
 | .p id off,hok,v,h=>by
  cases h with
  | p _ _ b o n hρ=>exact .p id off b o n (by rw[hq id hok];exact hρ)
 | .sl id off len cap k,hok,v,h=>by
  cases h with
  | sl _ _ _ _ _ b o n cap' hρ h1 h2 h3 h4 h5 =>
   rcases KvC hok with ⟨rfl,rfl,rfl⟩|hk
   ·exact .sz id off _ _ h3 (fun e=>nomatch e)
   ·exact .sl id off len cap k b o n cap' (by rw[hq id hk];exact hρ) h1 h2 h3 h4 h5
  | sz _ _ a c hc hn=>exact .sz id off a c hc hn
 | .f fn fst cap,hok,v,h=>by
  simp only[AV.ok,Bool.and_eq_true]at hok
  cases h with
  | f _ _ _ fst' cap' h0 hl hv0 hv =>
   rw[qnx]at h0 hl
   exact .f fn fst cap fst' cap' h0 hl
    (fun j a c ha hc=>qTP hq fst hok.1 j a c ha (hv0 j (a.ren f) c (by rw[K7o,ha];rfl) hc))
    (fun j a c ha hc=>qTP hq cap hok.2 j a c ha (hv j (a.ren f) c (by rw[K7o,ha];rfl) hc))
 | .ifc t a,hok,v,h=>by
  simp only[AV.ok]at hok
  cases h with
  | ifc _ _ v' h'=>exact .ifc t a v' (VR.ren_down hq a hok v' h')
 | .ag l,hok,v,h=>by
  simp only[AV.ok]at hok
  cases h with
  | ag _ cs hl hv =>
   rw[qnx]at hl
   exact .ag l cs hl (fun j a c ha hc=>qTP hq l hok j a c ha (hv j (a.ren f) c (by rw[K7o,ha];rfl) hc))
 | .tu l,hok,v,h=>by
  simp only[AV.ok]at hok
  cases h with
  | tu _ cs hl hv =>
   rw[qnx]at hl
   exact .tu l cs hl (fun j a c ha hc=>qTP hq l hok j a c ha (hv j (a.ren f) c (by rw[K7o,ha];rfl) hc))
 | .y id,hok,v,h=>by
  cases h with
  | y _ b o n hρ=>exact .y id b o n (by rw[hq id hok];exact hρ)
 | .m id,hok,v,h=>by
  cases h with
  | m _ b o n hρ=>exact .m id b o n (by rw[hq id hok];exact hρ)
 | .nm,_,v,h=>by cases h;exact .nm
 | .b x,_,v,h=>by cases h;exact .b x
 | .i k n,_,v,h=>by cases h;exact .i k n
 | .s l,_,v,h=>by cases h with|s _ bs h=>exact .s l bs h
 | .np,_,v,h=>by cases h;exact .np
 | .se,_,v,h=>by cases h with|se a c hc=>exact .se a c hc
 | .ns,_,v,h=>by cases h;exact .ns
 | .nf,_,v,h=>by cases h;exact .nf
 | .ni,_,v,h=>by cases h;exact .ni
 | .top,_,v,_=>.top v
theorem qTP {ρ ρ':Mp} {f:Nat->Nat} {q:Nat->Bool} (hq:∀i,q i=true->ρ'[i]?=ρ[f i]?):∀(l:List AV),okL q l=true->∀(j:Nat) (a:AV) (c:Value),l[j]?=some a->VR ρ (a.ren f) c->VR ρ' a c
 | [],_,j,a,c,h,_=>by simp at h
 | x::l,hok,0,a,c,h,r=>by
  simp only[okL,Bool.and_eq_true]at hok
  simp only[List.getElem?_cons_zero,Option.some.injEq]at h
  rw[<-h]at r ⊢
  exact VR.ren_down hq x hok.1 c r
 | x::l,hok,j+1,a,c,h,r=>by
  simp only[okL,Bool.and_eq_true]at hok
  exact qTP hq l hok.2 j a c (by simpa using h) r
end
def AB.ren (f:Nat->Nat):AB->AB
 | .blk fl m xs=>.blk fl m (if fl then xs else renL f xs)
 | .lp st pd fr ps a b=>.lp st pd (renL f fr) ps a b
 | .mo m k fr=>.mo m k (renL f fr)
 | .dead=>.dead
 | .iter s pos=>.iter s pos
theorem BR.ren_down {K:Code->CC->Prop} {ρ ρ':Mp} {f:Nat->Nat} {q:Nat->Bool} (hq:∀i,q i=true->ρ'[i]?=ρ[f i]?) {w:World} {b o n:Nat} {B:AB} (hB:B.ok q=true) (h:BR K ρ w b o n (B.ren f)):BR K ρ' w b o n B:=by
 cases B with
 | dead=>trivial
 | iter s pos=>exact h
 | lp st pd fr ps asg bd =>
  obtain ⟨r,h1,h2,h3,h4,h5⟩:=h
  exact ⟨r,h1,h2,h3,⟨by have:=h4.1;rw[qnx]at this;exact this,fun j a c ha hc=>VR.ren_down hq a (z7N.1 hB j a ha) c (h4.2 j (a.ren f) c (by rw[K7o,ha];rfl) hc)⟩,h5⟩
 | mo m k fr =>
  obtain ⟨h0,cs,h1,h4⟩:=h
  exact ⟨h0,cs,h1,⟨by have:=h4.1;rw[qnx]at this;exact this,fun j a c ha hc=>VR.ren_down hq a (z7N.1 hB j a ha) c (h4.2 j (a.ren f) c (by rw[K7o,ha];rfl) hc)⟩⟩
 | blk fl m xs =>
  obtain ⟨cs,e,fz,h1,h2,h3,h4⟩:=h
  cases fl with
  | true=>exact ⟨cs,e,fz,h1,h2,h3,h4⟩
  | false =>
   simp only[Bool.false_eq_true,if_false]at h3 h4
   rw[qnx]at h3
   exact ⟨cs,e,fz,h1,h2,h3,fun k a c ha hc=>VR.ren_down hq a (z7N.1 hB k a ha) c (h4 k (a.ren f) c (by rw[K7o,ha];rfl) hc)⟩
section
variable {P:Program}
end
end
section
open Go.RowKit
section
variable {P:Program}
def Bt (P:Program) (p:Nat) (l:List AV) (h:List AB) (l':List AV) (h':List AB):Prop:=
 ∀ρ w cs,p<=h.length->Rel (KC P) ρ h w->VL ρ l cs->p<=h'.length/\∃ρ',VL ρ' l' cs/\Rel (KC P) ρ' h' w/\(∀b,Own ρ' h' b->Own ρ h b)/\(∀i b,At ρ' h' i b->∃j,At ρ h j b/\(i<p->j=i)/\(p<=i->p<=j))/\∀i,i<p->ρ'[i]?=ρ[i]?
theorem Bt.refl (p:Nat) (l:List AV) (h:List AB):Bt P p l h l h:=fun ρ _ _ hp r v=>⟨hp,ρ,v,r,fun _ h=>h,fun i b h=>⟨i,h,fun _=>rfl,fun q=>q⟩,fun _ _=>rfl⟩
theorem Bt.trans {p:Nat} {l1 l2 l3:List AV} {h1 h2 h3:List AB} (a:Bt P p l1 h1 l2 h2) (c:Bt P p l2 h2 l3 h3):Bt P p l1 h1 l3 h3:=by
 intro ρ w cs hp r v
 obtain ⟨p1,ρ1,v1,r1,o1,a1,f1⟩:=a ρ w cs hp r v
 obtain ⟨p2,ρ2,v2,r2,o2,a2,f2⟩:=c ρ1 w cs p1 r1 v1
 refine ⟨p2,ρ2,v2,r2,fun b h=>o1 b (o2 b h),fun i b h=>?_,fun i hi=>(f2 i hi).trans (f1 i hi)⟩
 obtain ⟨j,q1,q2,q3⟩:=a2 i b h
 obtain ⟨k,z1,z2,z3⟩:=a1 j b q1
 exact ⟨k,z1,fun hi=>by have:=q2 hi;subst this;exact z2 hi,fun hi=>z3 (q3 hi)⟩
theorem AM.bt {p:Nat} {rd:Option Nat} {fn:FuncId} {todo:List CI} {fr fr':List AV} {h h':List AB} {R:AV->List AB->Prop} (hrd:∀id,rd=some id->id<p) (e:Bt P p fr h fr' h') (g:AM P p rd fn todo fr' h' R):AM P p rd fn todo fr h R:=by
 intro ρ w tmps items b cs rs hf hk hro hpl hi hv hr hmk
 obtain ⟨p1,ρ',v',r',ow,ac,fx⟩:=e ρ w tmps hpl hr hv
 have hro':RdOk ρ' b rd:=by
  cases rd with
  | none=>exact hro
  | some id =>
   obtain ⟨l,on,h1,h2⟩:=hro
   exact ⟨l,on,by rw[fx id (hrd id rfl)];exact h1,h2⟩
 have hmk':Marks ρ' h' w rs:=⟨hmk.1,fun r hr'=>⟨(hmk.2 r hr').1,fun i ha=>by
  obtain ⟨j,hj,_⟩:=ac i r ha
  exact (hmk.2 r hr').2 j hj⟩⟩
 refine (g ρ' w tmps items b cs rs hf hk hro' p1 hi v' r' hmk').mono fun v w' ⟨a,h'',ρ1,q1,q2,q3,q4⟩=>⟨a,h'',ρ1,q1,q2,q3,q4.os,q4.tape,q4.output,q4.size,fun b hb hn hx=>q4.keep b hb (fun ho=>hn (ow b ho)) hx,fun b ho=>(q4.own b ho).imp (ow b) (fun z=>z),fun i b ha=>?_,fun i hi=>(q4.fix i hi).trans (fx i hi)⟩
 rcases q4.acc i b ha with ⟨j,z,z1,z2⟩|z|z
 ·obtain ⟨k,y,y1,y2⟩:=ac j b z
  exact .inl ⟨k,y,fun hip=>by have:=z1 hip;subst this;exact y1 hip,fun hip=>y2 (z2 hip)⟩
 ·exact .inr (.inl (ow b z))
 ·exact .inr (.inr z)
theorem AM.post {p:Nat} {rd:Option Nat} {fn:FuncId} {todo:List CI} {fr:List AV} {h:List AB} {R R':AV->List AB->Prop} (hR:∀a h1,R a h1->∃a' h2,Bt P p [a] h1 [a'] h2/\R' a' h2) (g:AM P p rd fn todo fr h R):AM P p rd fn todo fr h R':=by
 intro ρ w tmps items b cs rs hf hk hro hpl hi hv hr hmk
 refine (g ρ w tmps items b cs rs hf hk hro hpl hi hv hr hmk).mono fun v w' ⟨a,h1,ρ1,q1,q2,q3,q4⟩=>?_
 obtain ⟨a',h2,hb,hR'⟩:=hR a h1 q1
 have hp1:p<=h1.length:=by
  rw[<-q3.len]
  rcases Nat.lt_or_ge ρ1.length p with hlt|hge
  ·have:=q4.fix ρ1.length hlt
   rw[List.getElem?_eq_none (Nat.le_refl _)]at this
   have hh:=hr.len
   rw[List.getElem?_eq_getElem (by omega)]at this
   cases this
  ·exact hge
 obtain ⟨_,ρ',v',r',ow,ac,fx⟩:=hb ρ1 w' #[v] hp1 q3 (VL.one q2)
 refine ⟨a',h2,ρ',hR',v'.2 0 a' v rfl rfl,r',q4.os,q4.tape,q4.output,q4.size,q4.keep,fun b ho=>q4.own b (ow b ho),fun i b ha=>?_,fun i hi=>(fx i hi).trans (q4.fix i hi)⟩
 obtain ⟨j,z,z1,z2⟩:=ac i b ha
 rcases q4.acc j b z with ⟨k,y,y1,y2⟩|y|y
 ·exact .inl ⟨k,y,fun hip=>by have:=z1 hip;subst this;exact y1 hip,fun hip=>y2 (z2 hip)⟩
 ·exact .inr (.inl y)
 ·exact .inr (.inr y)
def Wk (a' a:AV):Prop:=∀ρ c,VR ρ a c->VR ρ a' c
theorem Wk.refl (a:AV):Wk a a:=fun _ _ h=>h
theorem Wk.top (a:AV):Wk .top a:=fun _ c _=>.top c
theorem Wk.nil (id off:Nat):Wk (.sl id off 0 0 (some 0)) .ns:=fun ρ c h=>by cases h;exact .sz id off none 0 (by decide) (fun _=>rfl)
def WkL:List AV->List AV->Prop
 | [],[]=>True
 | a'::l',a::l=>Wk a' a/\WkL l' l
 | _,_=>False
theorem WkL.vl:∀ {l' l:List AV},WkL l' l->∀ {ρ:Mp} {cs:Array Value},VL ρ l cs->VL ρ l' cs:=by
 intro l' l h ρ cs v
 have key:∀(l' l:List AV),WkL l' l->l'.length=l.length/\∀(j:Nat) (a':AV),l'[j]?=some a'->∃a,l[j]?=some a/\Wk a' a:=by
  intro l'
  induction l' with
  | nil =>
   intro l h
   cases l with
   | nil=>exact ⟨rfl,fun j a' h=>by simp at h⟩
   | cons a l=>exact h.elim
  | cons a' l' ih =>
   intro l h
   cases l with
   | nil=>exact h.elim
   | cons a l =>
    obtain ⟨h1,h2⟩:=h
    obtain ⟨i1,i2⟩:=ih l h2
    refine ⟨by simp [i1],fun j b hb=>?_⟩
    cases j with
    | zero=>cases hb;exact ⟨a,rfl,h1⟩
    | succ j=>exact i2 j b hb
 obtain ⟨k1,k2⟩:=key l' l h
 refine ⟨k1.trans v.1,fun j a' c ha hc=>?_⟩
 obtain ⟨a,q1,q2⟩:=k2 j a' ha
 exact q2 ρ c (v.2 j a c q1 hc)
theorem Bt.wk {p:Nat} {l l':List AV} {h:List AB} (e:WkL l' l):Bt P p l h l' h:=fun ρ _ _ hp r v=>⟨hp,ρ,e.vl v,r,fun _ h=>h,fun i b h=>⟨i,h,fun _=>rfl,fun q=>q⟩,fun _ _=>rfl⟩
theorem Bt.wk1 {p:Nat} {a a':AV} {h:List AB} (e:Wk a' a):Bt P p [a] h [a'] h:=Bt.wk ⟨e,trivial⟩
theorem Bt.pad {p:Nat} (l:List AV) (h:List AB) (n:Nat):Bt P p l h l (h++List.replicate n .dead):=by
 intro ρ w cs hp r v
 obtain ⟨p1,p2,p3⟩:=r.pad n hp
 refine ⟨by simp;omega,_,v.ext p3,p1,fun b ⟨i,B,o,h1,h2,h3⟩=>?_,fun i b ⟨B,o,h1,h2,h3⟩=>?_,fun i hi=>p2.fix i hi⟩
 ·rw[List.getElem?_append]at h1
  split at h1
  ·rename_i hlt
   rw[List.getElem?_append_left (by rw[r.len];exact hlt)]at h3
   exact ⟨i,B,o,h1,h2,h3⟩
  ·rw[List.getElem?_replicate]at h1
   split at h1
   ·cases h1;cases h2
   ·cases h1
 ·rw[List.getElem?_append]at h1
  split at h1
  ·rename_i hlt
   rw[List.getElem?_append_left (by rw[r.len];exact hlt)]at h3
   exact ⟨i,⟨B,o,h1,h2,h3⟩,fun _=>rfl,fun q=>q⟩
  ·rw[List.getElem?_replicate]at h1
   split at h1
   ·cases h1;cases h2
   ·cases h1
def selN (p:Nat) (sel:List Nat) (i:Nat):Nat:=if i<p then i else p+sel.getD (i-p) 0
theorem qMB {p:Nat} {sel:List Nat} {i:Nat} (h:i<p):selN p sel i=i:=by simp [selN,h]
theorem qtm {p:Nat} {sel:List Nat} (k:Nat):selN p sel (p+k)=p+sel.getD k 0:=by
 unfold selN
 rw[if_neg (by omega),Nat.add_sub_cancel_left]
theorem Wk.ren {p:Nat} {f:Nat->Nat} (hf:∀i,i<p->f i=i) {a:AV} (h:a.ok (fun i=>decide (i<p))=true):Wk (a.ren f) a:=by
 intro ρ c hv
 have h1:VR (ρ.take p) a c:=hv.agree (q:=fun i=>decide (i<p)) (fun i hi=>by rw[List.getElem?_take,if_pos (by simpa using hi)]) h
 refine h1.ren_up fun i x hx=>?_
 rw[List.getElem?_take]at hx
 split at hx
 ·rename_i hi
  rw[hf i hi]
  exact hx
 ·cases hx
def BWk (q:Nat->Bool) (f:Nat->Nat):AB->AB->Prop
 | .dead,_=>True
 | .blk true m' xs',.blk true m xs=>(m'=true->m=true)/\xs'=xs
 | .blk false m' xs',.blk false m xs=>(m'=true->m=true)/\okL q xs'=true/\WkL (renL f xs') xs
 | .iter t' p',.iter t p=>t'=t/\p'=p
 | .lp st' pd' fr' ps' a' b',.lp st pd fr ps a b=>(st'=st/\pd'=pd/\ps'=ps/\a'=a/\b'=b)/\okL q fr'=true/\WkL (renL f fr') fr
 | .mo m' k' fr',.mo m k fr=>((m'=true->m=true)/\k'=k)/\okL q fr'=true/\WkL (renL f fr') fr
 | _,_=>False
theorem BWk.mut {q:Nat->Bool} {f:Nat->Nat} {B' B:AB} (h:BWk q f B' B) (hm:B'.mut=true):B.mut=true:=by
 cases B' with
 | dead=>cases hm
 | blk fl' m' xs'=>cases B <;> cases fl' <;> first|exact h.elim|(rename_i fl m xs;cases fl <;> first|exact h.elim|exact h.1 hm)
 | iter _ _=>cases B <;> first|rfl|(rename_i fl m xs;cases fl <;> exact h.elim)|exact h.elim
 | lp _ _ _ _ _ _=>cases B <;> first|rfl|(rename_i fl m xs;cases fl <;> exact h.elim)|exact h.elim
 | mo _ _ _=>cases B <;> first|(rename_i fl m xs;cases fl <;> exact h.elim)|exact h.1.1 hm|exact h.elim
theorem BWk.live {q:Nat->Bool} {f:Nat->Nat} {B' B:AB} (h:BWk q f B' B) (hm:B'.live=true):B.live=true:=by
 cases B' with
 | dead=>cases hm
 | blk fl' m' xs'=>cases B <;> cases fl' <;> first|exact h.elim|rfl
 | iter _ _=>cases B <;> first|rfl|(rename_i fl m xs;cases fl <;> exact h.elim)|exact h.elim
 | lp _ _ _ _ _ _=>cases B <;> first|rfl|(rename_i fl m xs;cases fl <;> exact h.elim)|exact h.elim
 | mo _ _ _=>cases B <;> first|rfl|(rename_i fl m xs;cases fl <;> exact h.elim)|exact h.elim
theorem WkL.len:∀ {a b:List AV},WkL a b->a.length=b.length
 | [],[],_=>rfl
 | [],_::_,h=>h.elim
 | _::_,[],h=>h.elim
 | _::_,_::_,h=>by simp [WkL.len h.2]
theorem BWk.br {ρ ρ':Mp} {w:World} {b o n:Nat} {q:Nat->Bool} {f:Nat->Nat} (hq:∀i,q i=true->ρ'[i]?=ρ[f i]?) {B' B:AB} (h:BWk q f B' B) (r:BR (KC P) ρ w b o n B):BR (KC P) ρ' w b o n B':=by
 cases B' with
 | dead=>trivial
 | blk fl' m' xs' =>
  cases B with
  | blk fl m xs =>
   obtain ⟨cs,e,fz,h1,h2,h3,h4⟩:=r
   cases fl' <;> cases fl <;> first|exact h.elim|skip
   ·obtain ⟨g1,g2,g3⟩:=h
    have hl:xs'.length=xs.length:=by
     have key:∀(a b:List AV),WkL a b->a.length=b.length:=by
      intro a
      induction a with
      | nil=>intro b h;cases b with
       | nil=>rfl
       | cons _ _=>exact h.elim
      | cons x a ih=>intro b h;cases b with
       | nil=>exact h.elim
       | cons _ _=>simp [ih _ h.2]
     have:=key _ _ g3
     rw[qnx]at this
     exact this
    refine ⟨cs,e,fz,h1,fun z=>h2 (g1 z),by omega,fun k a c ha hc=>?_⟩
    have hk:k<xs.length:=by have:=(List.getElem?_eq_some_iff.1 ha).1;omega
    have hv:VL ρ xs ((cs.toList.drop o).take xs.length).toArray:=by
     refine ⟨by simp;omega,fun j x c' hx hc'=>h4 j x c' hx ?_⟩
     simp only[List.getElem?_toArray,List.getElem?_take,List.getElem?_drop,Array.getElem?_toList]at hc'
     split at hc'
     ·exact hc'
     ·cases hc'
    have hw:=WkL.vl g3 hv
    refine VR.ren_down hq a (z7N.1 g2 k a ha) c (hw.2 k (a.ren f) c (by rw[K7o,ha];rfl) ?_)
    simp only[List.getElem?_toArray,List.getElem?_take,List.getElem?_drop,Array.getElem?_toList,if_pos hk]
    exact hc
   ·obtain ⟨g1,rfl⟩:=h
    exact ⟨cs,e,fz,h1,fun z=>h2 (g1 z),h3,h4⟩
  | dead=>cases fl' <;> exact h.elim
  | iter _ _=>cases fl' <;> exact h.elim
  | lp _ _ _ _ _ _=>cases fl' <;> exact h.elim
  | mo _ _ _=>cases fl' <;> exact h.elim
 | iter _ _ =>
  cases B with
  | iter _ _ =>
   obtain ⟨rfl,rfl⟩:=h
   exact r
  | dead=>exact h.elim
  | lp _ _ _ _ _ _=>exact h.elim
  | mo _ _ _=>exact h.elim
  | blk fl m xs=>cases fl <;> exact h.elim
 | lp st' pd' fr' ps' a' b' =>
  cases B with
  | lp st pd fr ps a b =>
   obtain ⟨⟨rfl,rfl,rfl,rfl,rfl⟩,g2,g3⟩:=h
   obtain ⟨l,r1,r2,r3,r4,r5,r6,r7⟩:=r
   have hw:=WkL.vl g3 r4
   have hlen:=WkL.len g3
   rw[qnx]at hlen
   exact ⟨l,r1,r2,r3,⟨hlen.trans r4.1,fun k x c hx hc=>VR.ren_down hq x (z7N.1 g2 k x hx) c (hw.2 k (x.ren f) c (by rw[K7o,hx];rfl) hc)⟩,r5,r6,r7⟩
  | dead=>exact h.elim
  | iter _ _=>exact h.elim
  | mo _ _ _=>exact h.elim
  | blk fl m xs=>cases fl <;> exact h.elim
 | mo m' k' fr' =>
  cases B with
  | mo m k fr =>
   obtain ⟨⟨_,rfl⟩,g2,g3⟩:=h
   obtain ⟨r0,cs,r1,r4⟩:=r
   have hw:=WkL.vl g3 r4
   have hlen:=WkL.len g3
   rw[qnx]at hlen
   exact ⟨r0,cs,r1,⟨hlen.trans r4.1,fun k x c hx hc=>VR.ren_down hq x (z7N.1 g2 k x hx) c (hw.2 k (x.ren f) c (by rw[K7o,hx];rfl) hc)⟩⟩
  | dead=>exact h.elim
  | iter _ _=>exact h.elim
  | lp _ _ _ _ _ _=>exact h.elim
  | blk fl m xs=>cases fl <;> exact h.elim
def BlkSel (p:Nat) (sel:List Nat) (n:Nat) (l:List AB):List Nat->List AB->Prop
 | [],[]=>True
 | k::ks,B'::l'=>(∃B,l[k]?=some B/\BWk (fun i=>decide (i<p+n)) (selN p sel) B' B)/\BlkSel p sel n l ks l'
 | _,_=>False
def FrSel (p:Nat) (sel:List Nat) (n:Nat):List AV->List AV->Prop
 | [],[]=>True
 | a::l,a'::l'=>(a'=.top\/(a'.ok (fun i=>decide (i<p+n))=true/\Wk (a'.ren (selN p sel)) a))/\FrSel p sel n l l'
 | _,_=>False
theorem BlkSel.get {p n:Nat} {sel:List Nat} {l:List AB}:∀ {ks:List Nat} {l':List AB},BlkSel p sel n l ks l'->l'.length=ks.length/\∀(i:Nat) B',l'[i]?=some B'->∃k B,ks[i]?=some k/\l[k]?=some B/\BWk (fun i=>decide (i<p+n)) (selN p sel) B' B
 | [],[],_=>⟨rfl,fun i B' h=>by simp at h⟩
 | [],_::_,h=>h.elim
 | _::_,[],h=>h.elim
 | k::ks,B'::l',h=>by
  obtain ⟨⟨B,h1,h2⟩,h3⟩:=h
  obtain ⟨i1,i2⟩:=BlkSel.get h3
  refine ⟨by simp [i1],fun i C hC=>?_⟩
  cases i with
  | zero=>cases hC;exact ⟨k,B,rfl,h1,h2⟩
  | succ i=>simpa using i2 i C hC
theorem FrSel.get {p n:Nat} {sel:List Nat}:∀ {l l':List AV},FrSel p sel n l l'->l'.length=l.length/\∀(i:Nat) a',l'[i]?=some a'->a'=.top\/(a'.ok (fun i=>decide (i<p+n))=true/\∃a,l[i]?=some a/\Wk (a'.ren (selN p sel)) a)
 | [],[],_=>⟨rfl,fun i B' h=>by simp at h⟩
 | [],_::_,h=>h.elim
 | _::_,[],h=>h.elim
 | a::l,a'::l',h=>by
  obtain ⟨h1,h3⟩:=h
  obtain ⟨i1,i2⟩:=FrSel.get h3
  refine ⟨by simp [i1],fun i C hC=>?_⟩
  cases i with
  | zero=>cases hC;exact h1.imp (fun z=>z) (fun z=>⟨z.1,a,rfl,z.2⟩)
  | succ i=>simpa using i2 i C hC
def HOk (h:List AB):Prop:=∀(i:Nat) B,h[i]?=some B->B.ok (fun i=>decide (i<h.length))=true
theorem Bt.selc {h l l':List AB} {fr fr':List AV} (n:Nat) (sel:List Nat) (hh:HOk h) (hc:∀i,i<n->sel[i]?=some i) (hup:∀(i k:Nat),n<=i->sel[i]?=some k->n<=k) (hn:n<=sel.length) (hnd:sel.Nodup) (hb:BlkSel h.length sel sel.length l sel l') (hfr:FrSel h.length sel sel.length fr fr'):Bt P (h.length+n) fr (h++l) fr' (h++l'):=by
 intro ρ w cs hp r v
 obtain ⟨b1,b2⟩:=hb.get
 obtain ⟨f1,f2⟩:=hfr.get
 have hlt:∀(i k:Nat),sel[i]?=some k->k<l.length:=fun i k hk=>by
  have hi:i<l'.length:=by rw[b1];exact (List.getElem?_eq_some_iff.1 hk).1
  obtain ⟨k',B,q1,q2,_⟩:=b2 i l'[i] (List.getElem?_eq_getElem hi)
  rw[hk]at q1
  cases q1
  exact (List.getElem?_eq_some_iff.1 q2).1
 have hρ:=r.len
 rw[List.length_append]at hρ
 let ρ':Mp:=ρ.take h.length++sel.map fun k=>ρ.getD (h.length+k) (0,0,0)
 have old:∀i,i<h.length->ρ'[i]?=ρ[i]?:=fun i hi=>by
  simp only[ρ']
  rw[List.getElem?_append_left (by rw[List.length_take];omega),List.getElem?_take,if_pos hi]
 have new:∀i k,sel[i]?=some k->ρ'[h.length+i]?=ρ[h.length+k]?:=fun i k hk=>by
  have:=hlt i k hk
  simp only[ρ']
  rw[List.getElem?_append_right (by rw[List.length_take];omega),List.length_take,show h.length+i-min h.length ρ.length=i by omega,List.getElem?_map,hk,Option.map_some,List.getD_eq_getElem?_getD,List.getElem?_eq_getElem (by omega:h.length+k<ρ.length)]
  rfl
 have hq:∀i,(fun i=>decide (i<h.length+sel.length)) i=true->ρ'[i]?=ρ[selN h.length sel i]?:=fun i hi=>by
  by_cases h1:i<h.length
  ·rw[qMB h1,old i h1]
  ·obtain ⟨k,rfl⟩:∃k,i=h.length+k:=⟨i-h.length,by omega⟩
   have hk:k<sel.length:=by simp only[decide_eq_true_eq]at hi;omega
   rw[qtm,List.getD_eq_getElem?_getD,List.getElem?_eq_getElem hk]
   exact new k _ (List.getElem?_eq_getElem hk)
 have cls:∀i B',(h++l')[i]?=some B'->(i<h.length/\h[i]?=some B')\/(∃j k B,i=h.length+j/\sel[j]?=some k/\(h++l)[h.length+k]?=some B/\BWk (fun i=>decide (i<h.length+sel.length)) (selN h.length sel) B' B):=fun i B' hB=>by
  rw[List.getElem?_append]at hB
  split at hB
  ·rename_i hlt'
   exact .inl ⟨hlt',hB⟩
  ·obtain ⟨k,B,q1,q2,q3⟩:=b2 _ B' hB
   refine .inr ⟨i-h.length,k,B,by omega,q1,?_,q3⟩
   rw[List.getElem?_append_right (by omega),Nat.add_sub_cancel_left]
   exact q2
 have up:∀i B' x,(h++l')[i]?=some B'->ρ'[i]?=some x->∃j B,(h++l)[j]?=some B/\ρ[j]?=some x/\(B'.mut=true->B.mut=true)/\(B'.live=true->B.live=true)/\((i<h.length/\j=i)\/(∃i' k,i=h.length+i'/\sel[i']?=some k/\j=h.length+k)):=fun i B' x hB hx=>by
  rcases cls i B' hB with ⟨hi,q⟩|⟨j,k,B,rfl,q1,q2,q3⟩
  ·exact ⟨i,B',by rw[List.getElem?_append_left hi];exact q,by rw[<-old i hi];exact hx,id,id,.inl ⟨hi,rfl⟩⟩
  ·exact ⟨h.length+k,B,q2,by rw[<-new j k q1];exact hx,q3.mut,q3.live,.inr ⟨j,k,rfl,q1,rfl⟩⟩
 refine ⟨by rw[List.length_append,b1];omega,ρ',⟨f1.trans v.1,fun j a' c ha hc=>?_⟩,⟨?_,fun i B' b o n hB hx=>?_,fun i j bi oi bj oj Bi Bj hne h1 h2 h3 h4 hm hl=>?_,r.gl.sub fun b ⟨i,B',o,h1,h2,h3⟩=>by
  obtain ⟨i',C,u1,u2,u3,_,_⟩:=up i B' _ h1 h3
  exact ⟨i',C,o,u1,u3 h2,u2⟩⟩,fun b ⟨i,B',o,h1,h2,h3⟩=>?_,fun i b ⟨B',o,h1,h2,h3⟩=>?_,fun i hi=>?_⟩
 ·rcases f2 j a' ha with rfl|⟨q1,a,q2,q3⟩
  ·exact .top c
  ·exact VR.ren_down hq a' q1 c (q3 ρ c (v.2 j a c q2 hc))
 ·simp only[ρ',List.length_append,List.length_take,List.length_map,b1]
  omega
 ·rcases cls i B' hB with ⟨hi,q⟩|⟨j,k,B,rfl,q1,q2,q3⟩
  ·have:=r.blk i B' b o n (by rw[List.getElem?_append_left hi];exact q) (by rw[<-old i hi];exact hx)
   exact this.agree (q:=fun i=>decide (i<h.length)) (fun i hi=>old i (by simpa using hi)) (hh i B' q) (fun _=>rfl)
  ·exact q3.br hq (r.blk _ B b o n q2 (by rw[<-new j k q1];exact hx))
 ·obtain ⟨i',Ci,u1,u2,u3,_,u5⟩:=up i Bi _ h1 h3
  obtain ⟨j',Cj,z1,z2,_,z4,z5⟩:=up j Bj _ h2 h4
  refine r.sep i' j' bi oi bj oj Ci Cj (fun e=>hne ?_) u1 z1 u2 z2 (u3 hm) (z4 hl)
  subst e
  rcases u5 with ⟨x1,x2⟩|⟨s,k,x1,x2,x3⟩ <;> rcases z5 with ⟨y1,y2⟩|⟨t,m,y1,y2,y3⟩
  ·omega
  ·omega
  ·omega
  ·have:k=m:=by omega
   subst this
   have:=(List.getElem?_inj (List.getElem?_eq_some_iff.1 x2).1 hnd).1 (x2.trans y2.symm)
   omega
 ·obtain ⟨j,B,q1,q2,q3,_,_⟩:=up i B' _ h1 h3
  exact ⟨j,B,o,q1,q3 h2,q2⟩
 ·obtain ⟨j,B,q1,q2,_,q4,q5⟩:=up i B' _ h1 h3
  refine ⟨j,⟨B,o,q1,q4 h2,q2⟩,fun hi=>?_,fun hi=>?_⟩
  ·rcases q5 with ⟨_,x⟩|⟨s,k,x,y,z⟩
   ·exact x
   ·have:=hc s (by omega)
    rw[y]at this
    cases this
    omega
  ·rcases q5 with ⟨x,_⟩|⟨s,k,z,y,x⟩
   ·omega
   ·have:=hup s k (by omega) y
    omega
 ·by_cases h1:i<h.length
  ·exact old i h1
  ·obtain ⟨k,rfl⟩:∃k,i=h.length+k:=⟨i-h.length,by omega⟩
   exact new k k (hc k (by omega))
theorem Bt.sel {h l l':List AB} {fr fr':List AV} (sel:List Nat) (hh:HOk h) (hnd:sel.Nodup) (hb:BlkSel h.length sel sel.length l sel l') (hfr:FrSel h.length sel sel.length fr fr'):Bt P h.length fr (h++l) fr' (h++l'):=
 Bt.selc 0 sel hh (fun i hi=>by omega) (fun _ _ _ _=>Nat.zero_le _) (Nat.zero_le _) hnd hb hfr
end
end
section
open Go.RowKit
section
variable {P:Program}
def NM (x:Option CO):Prop:=∀a,x≠some (.mnx a)
theorem Qgx:NM none:=fun _ h=>nomatch h
theorem ZAU {α:Type} {x:Option α} {g:α->Option CO} (h:∀y,NM (g y)):NM (x.bind g):=by
 cases x with
 | none=>exact Qgx
 | some y=>exact h y
theorem ZeZ {α:Type} {x:Option α} {g:α->CO} (h:∀y a,g y≠.mnx a):NM (x.map g):=by
 cases x with
 | none=>exact Qgx
 | some y=>exact fun a e=>h y a (Option.some.inj e)
theorem Kfb {c:CO} (h:∀a,c≠.mnx a):NM (some c):=fun a e=>h a (Option.some.inj e)
theorem nm_b (b:Builtin) (az:List Operand) (ts:List TypeId):NM (YYD P b az ts):=by
 unfold YYD
 split <;> (repeat' (first|exact Qgx|exact Kfb (fun _ h=>nomatch h)|exact ZeZ (fun _ _ h=>nomatch h)|refine ZAU (fun _=>?_)|split))
theorem KpG (op:BinOp) (t:TypeId) (x y:Operand):NM (cBin P op t x y):=by
 unfold cBin
 repeat' (first|exact Qgx|exact Kfb (fun _ h=>nomatch h)|exact ZeZ (fun _ _ h=>nomatch h)|refine ZAU (fun _=>?_)|split)
theorem QpK (s d:TypeId) (x:Operand):NM (JDk P s d x):=by
 unfold JDk
 repeat' (first|exact Qgx|exact Kfb (fun _ h=>nomatch h)|exact ZeZ (fun _ _ h=>nomatch h)|refine ZAU (fun _=>?_)|split)
theorem XwT (c:Call):NM (YB5 P c):=by
 unfold YB5
 split
 ·exact nm_b _ _ _
 ·repeat' (first|exact Qgx|exact Kfb (fun _ h=>nomatch h)|exact ZeZ (fun _ _ h=>nomatch h)|refine ZAU (fun _=>?_)|(unfold QVF;split)|split)
 ·exact Qgx
theorem Xhm {o:Op} {x:Opd} (h:qA0 P o=some (.mnx x)):∃xo,o=.next xo false/\cOpd xo=some x:=by
 cases o with
 | call c=>exact absurd h (XwT _ _)
 | binOp=>exact absurd h (KpG _ _ _ _ _)
 | convert=>exact absurd h (QpK _ _ _ _)
 | makeMap t r =>
  cases r with
  | none =>
   simp only[qA0]at h
   split at h <;> cases h
  | some r=>cases h
 | next xo b =>
  simp only[qA0]at h
  obtain ⟨a,ha,h⟩:=oQ.1 h
  cases b with
  | true=>simp at h
  | false =>
   simp at h
   exact ⟨xo,rfl,by rw[ha,h]⟩
 | _ =>
  have key:∀ {x:Option CO} {y:Opd},x=some (.mnx y)->NM x->False:=fun e n=>n _ e
  refine (key h ?_).elim
  simp only[qA0]
  repeat' (first|exact Qgx|exact Kfb (fun _ h=>nomatch h)|exact ZeZ (fun _ _ h=>nomatch h)|refine ZAU (fun _=>?_)|split)
theorem KmJ {K:Code->CC->Prop} {ρ:Mp} {h:List AB} {w:World} (hr:Rel K ρ h w) {f:Operand->Value} {fr:List AV} (hev:EV ρ f (Opd.ev fr)) {o:Oper} {x:Opd} (hc:qA0 P o.op=some (.mnx x)) {cands:List (AV×List AB)} (e:mnxC h (x.ev fr)=some cands):∃r∈cands,XkF K P ρ h w (execOp f o) r:=by
 obtain ⟨dst,op,ty,pos,after,guard⟩:=o
 obtain ⟨xo,rfl,hx⟩:=Xhm hc
 obtain ⟨r,hr',g⟩:=Q9O (P:=P) hr ty (hev xo x hx) e
 exact ⟨r,hr',g.next⟩
theorem AM.mnx {p:Nat} {rd:Option Nat} {fn:FuncId} {dst:Option Nat} {x:Opd} {l:List COper} {k:List CI} {fr:List AV} {h:List AB} {cands:List (AV×List AB)} {R:AV->List AB->Prop} (hm:mnxC h (x.ev fr)=some cands)
  (g:∀r∈cands,AM P p rd fn (.ops l::k) (put fr dst r.1) r.2 R):AM P p rd fn (.ops (⟨dst,none,.mnx x⟩::l)::k) fr h R:=by
 intro ρ w tmps items bf cs rs hf hk hro hp hi hv hr hmk
 obtain ⟨ops,is,its,rfl,hc,hi2⟩:=hi.ops
 cases is with
 | nil=>cases hc
 | cons i is =>
  simp only[cOps]at hc
  obtain ⟨o,ho,hc⟩:=oQ.1 hc
  obtain ⟨c',hc',hc⟩:=oQ.1 hc
  obtain ⟨l',hl',hc⟩:=Option.map_eq_some_iff.1 hc
  cases hc
  obtain ⟨hop,hdst,_⟩:=QK2 hc'
  have hw:=Q8m hv hc' rfl
  have hfin:∀(u:Value),(bf.atR { tmps,defers:=rs.map mkD } (.inRegion ops (i::is)::its)).finish u=bf.atR (Act.put { tmps,defers:=rs.map mkD } o.dst u) (.inRegion ops is::its):=fun u=>by
   rw[Frame.finish_atR,ho]
   rfl
  obtain ⟨r,hmem,v',w',ρ',hor,hext,hrel,hvr,heff0⟩:=KmJ hr (EV.of (a:={ tmps,defers:=rs.map mkD }) hv) (Ysn hop (fun q=>nomatch q)) hm
  have heff:=heff0.p hext (by rw[hr.len];exact Nat.le_refl _)
  have hsteps:Steps P (lone (bf.atR { tmps,defers:=rs.map mkD } (.inRegion ops (i::is)::its)) cs w) (lone (bf.atR (Act.put { tmps,defers:=rs.map mkD } dst v') (.inRegion ops is::its)) cs w'):=by
   refine .one (step_lone_go ?_)
   rw[stepGR_op ho hw,Oper.semAt_eq _ _ _ (zLd hop)]
   rw[show dst=o.dst from hdst]
   rcases hor with hok|⟨hok,rfl⟩
   ·rw[<-hfin v'];simp [stepG.apply,Sem.runT_eq,hok,GStep.bare_after]
   ·rw[<-hfin undef];simp [stepG.apply,Sem.runT_eq,hok,GStep.bare_after]
  have hput:=YQQ (a:={ tmps,defers:=rs.map mkD }) (hv.ext (heff.ext hr)) dst hvr
  have g':=g r hmem ρ' w' (Act.put { tmps,defers:=rs.map mkD } dst v').tmps (.inRegion ops is::its) bf cs rs hf hk (hro.ext (heff.ext hr)) (Nat.le_trans hp (heff.len hr hrel)) (.mops hl' hi2) hput.1 hrel (hmk.eff heff)
  rw[YZf]at g'
  exact (g'.mono fun v w'' q=>q.from (heff.weak hp) (fun r hr=>.inl hr)).steps hsteps
def _root_.Go.Proofs.YtekeoichmdiiiaaGreat.CO.mx:CO->Option Opd
 | .mnx x=>some x
 | _=>none
theorem YUz {op:CO} {x:Opd} (h:op.mx=some x):op=.mnx x:=by
 cases op <;> first|(simp [CO.mx]at h;done)|(injection h with h;subst h;rfl)
class NMx (op:CO):Prop where
 e:op.mx=none
end
instance nmx_mv {a0}:NMx (.mv a0):=⟨rfl⟩
instance nmx_pick {a0} {a1} {a2}:NMx (.pick a0 a1 a2):=⟨rfl⟩
instance nmx_bin {a0} {a1} {a2}:NMx (.bin a0 a1 a2):=⟨rfl⟩
instance nmx_eqb {a0} {a1} {a2}:NMx (.eqb a0 a1 a2):=⟨rfl⟩
instance nmx_eqc {a0} {a1} {a2} {a3}:NMx (.eqc a0 a1 a2 a3):=⟨rfl⟩
instance nmx_eqn {a0} {a1} {a2}:NMx (.eqn a0 a1 a2):=⟨rfl⟩
instance nmx_un {a0} {a1}:NMx (.un a0 a1):=⟨rfl⟩
instance nmx_cvi {a0} {a1}:NMx (.cvi a0 a1):=⟨rfl⟩
instance nmx_cvs {a0}:NMx (.cvs a0):=⟨rfl⟩
instance nmx_fad {a0} {a1}:NMx (.fad a0 a1):=⟨rfl⟩
instance nmx_fld {a0} {a1} {a2}:NMx (.fld a0 a1 a2):=⟨rfl⟩
instance nmx_iad {a0} {a1} {a2}:NMx (.iad a0 a1 a2):=⟨rfl⟩
instance nmx_iaa {a0} {a1} {a2} {a3}:NMx (.iaa a0 a1 a2 a3):=⟨rfl⟩
instance nmx_ixs {a0} {a1}:NMx (.ixs a0 a1):=⟨rfl⟩
instance nmx_ixa {a0} {a1} {a2} {a3} {a4}:NMx (.ixa a0 a1 a2 a3 a4):=⟨rfl⟩
instance nmx_sls {a0} {a1} {a2}:NMx (.sls a0 a1 a2):=⟨rfl⟩
instance nmx_sll {a0} {a1} {a2} {a3} {a4}:NMx (.sll a0 a1 a2 a3 a4):=⟨rfl⟩
instance nmx_sla {a0} {a1} {a2} {a3} {a4} {a5}:NMx (.sla a0 a1 a2 a3 a4 a5):=⟨rfl⟩
instance nmx_ifc {a0} {a1}:NMx (.ifc a0 a1):=⟨rfl⟩
instance nmx_mkf {a0} {a1} {a2}:NMx (.mkf a0 a1 a2):=⟨rfl⟩
instance nmx_ext {a0} {a1}:NMx (.ext a0 a1):=⟨rfl⟩
instance nmx_len {a0} {a1}:NMx (.len a0 a1):=⟨rfl⟩
instance nmx_lnc {a0}:NMx (.lnc a0):=⟨rfl⟩
instance nmx_mm {a0} {a1} {a2}:NMx (.mm a0 a1 a2):=⟨rfl⟩
instance nmx_nck {a0}:NMx (.nck a0):=⟨rfl⟩
instance nmx_tas {a0} {a1} {a2} {a3}:NMx (.tas a0 a1 a2 a3):=⟨rfl⟩
instance nmx_ld {a0} {a1}:NMx (.ld a0 a1):=⟨rfl⟩
instance nmx_st {a0} {a1} {a2}:NMx (.st a0 a1 a2):=⟨rfl⟩
instance nmx_new {a0} {a1}:NMx (.new a0 a1):=⟨rfl⟩
instance nmx_box {a0} {a1} {a2}:NMx (.box a0 a1 a2):=⟨rfl⟩
instance nmx_bld {a0} {a1}:NMx (.bld a0 a1):=⟨rfl⟩
instance nmx_bls {a0} {a1} {a2} {a3}:NMx (.bls a0 a1 a2 a3):=⟨rfl⟩
instance nmx_mks {a0} {a1} {a2} {a3} {a4}:NMx (.mks a0 a1 a2 a3 a4):=⟨rfl⟩
instance nmx_app {a0} {a1} {a2} {a3} {a4} {a5}:NMx (.app a0 a1 a2 a3 a4 a5):=⟨rfl⟩
instance nmx_cpy {a0} {a1} {a2} {a3}:NMx (.cpy a0 a1 a2 a3):=⟨rfl⟩
instance nmx_capo {a0}:NMx (.capo a0):=⟨rfl⟩
instance nmx_apz {a0} {a1} {a2} {a3} {a4}:NMx (.apz a0 a1 a2 a3 a4):=⟨rfl⟩
instance nmx_stop  : NMx (.stop):=⟨rfl⟩
instance nmx_b2s {a0}:NMx (.b2s a0):=⟨rfl⟩
instance nmx_clr {a0} {a1}:NMx (.clr a0 a1):=⟨rfl⟩
instance nmx_bcmp {a0} {a1}:NMx (.bcmp a0 a1):=⟨rfl⟩
instance nmx_s2b {a0}:NMx (.s2b a0):=⟨rfl⟩
instance nmx_rng {a0}:NMx (.rng a0):=⟨rfl⟩
instance nmx_nxt {a0}:NMx (.nxt a0):=⟨rfl⟩
instance nmx_s2s {a0}:NMx (.s2s a0):=⟨rfl⟩
instance nmx_bix {a0} {a1}:NMx (.bix a0 a1):=⟨rfl⟩
instance nmx_mkm  : NMx (.mkm):=⟨rfl⟩
instance nmx_mln {a0}:NMx (.mln a0):=⟨rfl⟩
instance nmx_lkp {a0} {a1} {a2} {a3} {a4} {a5}:NMx (.lkp a0 a1 a2 a3 a4 a5):=⟨rfl⟩
instance nmx_mup {a0} {a1} {a2} {a3} {a4}:NMx (.mup a0 a1 a2 a3 a4):=⟨rfl⟩
instance nmx_mdl {a0} {a1} {a2} {a3}:NMx (.mdl a0 a1 a2 a3):=⟨rfl⟩
instance nmx_mrg {a0}:NMx (.mrg a0):=⟨rfl⟩
instance nmx_ent {a0}:NMx (.ent a0):=⟨rfl⟩
instance nmx_r2s {a0}:NMx (.r2s a0):=⟨rfl⟩
instance nmx_call {a0} {a1}:NMx (.call a0 a1):=⟨rfl⟩
end
end Go.Proofs.YtekeoichmdiiiaaGreat
