/- Part 15 of what the laws' proofs rest on. No condition. -/
import Derived.Test.YtekeoichmdiiiaaGreatTh14
set_option linter.all false
namespace Go.Proofs.YtekeoichmdiiiaaGreat
section
open Go.RowKit
structure Con where
 n:Nat
 f:List AV->List AB->Option (AV×List AB)
 ws:List AV->List Nat:=fun _=>[]
abbrev Tab:=List Con
def Tab.at:Tab->Nat->List AV->List AB->Option (AV×List AB)
 | [],_,_,_=>none
 | c::l,g,a,h=>if c.n=g then c.f a h else Tab.at l g a h
def Tab.ws:Tab->Nat->List AV->List Nat
 | [],_,_=>[]
 | c::l,g,a=>if c.n=g then c.ws a else Tab.ws l g a
theorem Tab.at_nil (g:Nat) (a:List AV) (h:List AB):Tab.at [] g a h=none:=by rw[Tab.at]
theorem Tab.at_cons (c:Con) (g:Nat) (l:Tab) (a:List AV) (h:List AB):Tab.at (c::l) g a h=if c.n=g then c.f a h else Tab.at l g a h:=by rw[Tab.at]
theorem Tab.ws_nil (g:Nat) (a:List AV):Tab.ws [] g a=[]:=by rw[Tab.ws]
theorem Tab.ws_cons (c:Con) (g:Nat) (l:Tab) (a:List AV):Tab.ws (c::l) g a=if c.n=g then c.ws a else Tab.ws l g a:=by rw[Tab.ws]
def Spec (P:Program) (g:Nat) (f:List AV->List AB->Option (AV×List AB)):Prop:=∀args h v h',f args h=some (v,h')->FnC P g args h v h'
def XRG (P:Program) (id:Nat) (f:List AV->List AB->Option (AV×List AB)):Prop:=∀args h v h',f args h=some (v,h')->ZTa P id args h v h'
structure Env where
 fns:Tab
 rds:Tab
def qj2 (S:Nat->(List AV->List AB->Option (AV×List AB))->Prop):Tab->Prop
 | []=>True
 | c::l=>S c.n c.f/\qj2 S l
theorem Tab.at_ok {S:Nat->(List AV->List AB->Option (AV×List AB))->Prop} {R:Nat->List AV->List AB->AV->List AB->Prop} (hS:∀n f,S n f->∀a h v h',f a h=some (v,h')->R n a h v h'):∀(l:Tab),qj2 S l->∀g a h v h',l.at g a h=some (v,h')->R g a h v h'
 | [],_,g,a,h,v,h',e=>by rw[Tab.at]at e;cases e
 | c::l,ok,g,a,h,v,h',e=>by
  rw[Tab.at]at e
  split at e
  ·rename_i hn
   subst hn
   exact hS c.n c.f ok.1 a h v h' e
  ·exact Tab.at_ok hS l ok.2 g a h v h' e
structure Env.Ok (P:Program) (T:Env):Prop where
 fns:qj2 (Spec P) T.fns
 rds:qj2 (XRG P) T.rds
def zHD (T:Env) (f:AV) (args:List AV) (h:List AB):Option (AV×List AB):=
 match f with
 | .f (.func g) fst cap=>T.fns.at g (fst++args++cap) h
 | .y id=>T.rds.at id args h
 | _=>none
def opR (T:Env) (op:CO) (fr:List AV) (h:List AB):Option (AV×List AB):=
 match op.isCall with
 | some (f,args)=>zHD T (f.ev fr) (args.map (Opd.ev fr)) h
 | none=>op.run (Opd.ev fr) h
def opC (T:Env) (op:CO) (fr:List AV) (h:List AB) (v:AV) (h':List AB):Prop:=opR T op fr h=some (v,h')
section
variable {P:Program}
theorem JIV {T:Env} (hT:T.Ok P):Jvz P (opC T):=by
 intro op fr h v h' e
 unfold opC opR at e
 unfold OpAt
 split at e
 ·rename_i f args hc
  rw[hc]
  dsimp only
  unfold zHD at e
  unfold YRp
  split at e
  ·rename_i g fst cap hf
   rw[hf]
   exact Tab.at_ok (S:=Spec P) (R:=FnC P) (fun n f hs=>hs) _ hT.fns _ _ _ _ _ e
  ·rename_i id hf
   rw[hf]
   exact Tab.at_ok (S:=XRG P) (R:=ZTa P) (fun n f hs=>hs) _ hT.rds _ _ _ _ _ e
  ·cases e
 ·rename_i hc
  rw[hc]
  exact e
end
def seen (len0 anc:Nat) (past:List Pt) (n:Nat):List Nat:=(List.range n).filter (qOk len0 0 0 anc past)
def wsC (T:Env) (ev:Opd->AV):CO->List Nat
 | .call f args=>match ev f with
  | .f (.func g) fst cap=>T.fns.ws g (fst++args.map ev++cap)
  | .y id=>T.rds.ws id (args.map ev)
  | _=>[]
 | .st _ x _=>idOf (ev x)
 | .app _ _ _ _ s _=>idOf (ev s)
 | .cpy _ _ d _=>idOf (ev d)
 | .clr _ x=>idOf (ev x)
 | .nxt x=>idOf (ev x)
 | .s2s x=>idOf (ev x)
 | .mup _ _ x _ _=>idOf (ev x)
 | .mdl _ _ x _=>idOf (ev x)
 | .mnx x=>idOf (ev x)
 | _=>[]
def ZYm (len0 anc:Nat) (past:List Pt) (ws:List Nat) (p:Pt):Bool:=
 bit p.k anc||(p.ws.all (fun id=>!qOk len0 0 0 anc past id)&&(Nat.ble p.hi p.lo||(Nat.ble len0 p.lo&&past.all fun p'=>!bit p'.k anc||Nat.ble p'.hi p.lo||Nat.ble p.hi p'.lo))&&ws.all fun id=>!Zrs p id && !memN id (p.rs++p.ws))
def Msk (T:Env) (len0 k anc:Nat) (op:CO) (past:List Pt) (fr:List AV) (h:List AB) (Kt:AV->List AB->Pt->Prop):Prop:=
 ∃v G,okL (fun i=>decide (i<h.length)) (op.tmps.map (nthA fr))=true/\HOk h/\past.all (ZYm len0 anc past (wsC T (Opd.ev fr) op))=true/\((wsC T (Opd.ev fr) op).all fun id=>decide (id<h.length))=true /\
  opR T op fr (qRB (seen len0 anc past h.length) (wsC T (Opd.ev fr) op) 0 h)=some (v,G)/\h.length<=G.length/\v.ok (qOk len0 h.length G.length anc past)=true /\
  ((wsC T (Opd.ev fr) op).all fun id=>(G.getD id .dead).ok (qOk len0 h.length G.length anc past))=true/\((G.drop h.length).all fun B=>B.ok (qOk len0 h.length G.length anc past))=true /\
  Kt v (JkA (wsC T (Opd.ev fr) op) G 0 h) ⟨k,h.length,G.length,seen len0 anc past h.length,wsC T (Opd.ev fr) op⟩
def _root_.Go.Proofs.YtekeoichmdiiiaaGreat.CO.nw:CO->Option (Bool×List AV)
 | .new fl zs=>some (fl,zs)
 | _=>none
def _root_.Go.Proofs.YtekeoichmdiiiaaGreat.CO.isM:CO->Bool
 | .new _ _=>false
 | op=>match op.mk with
  | .mem=>true
  | _=>false
theorem zqW {op:CO} (h:op.isM=true):op.mk=.mem/\op.nw=none:=by cases op <;> first|exact ⟨rfl,rfl⟩|(simp [CO.isM,CO.mk]at h)
theorem QLP {op:CO} (h:op.mk=.free):op.nw=none:=by cases op <;> first|rfl|(simp [CO.mk]at h)
theorem K4u {op:CO} {x:Bool×List AV} (h:op.nw=some x):op=.new x.1 x.2:=by
 cases op <;> first|(simp [CO.nw]at h;done)|(injection h with h;subst h;rfl)
def wpD (T:Env) (len0:Nat):List DOp->Nat->List Pt->(List AV->List AB->Prop)->List AV->List AB->Prop
  | [],_,_,K,fr,h=>K fr h
  | d :: l, k, past, K, fr, h => qdw fr d.o.guard = true ∧ (zEb fr d.o.guard = true → match d.o.op.nw with
        | some x=>x.2.all (wrOk x.1)=true/\(AB.blk x.1 true x.2).ok (qOk len0 h.length (h.length+1) d.anc past)=true/\wpD T len0 l (k+1) (⟨k,h.length,h.length+1,[],[]⟩::past) K (put fr d.o.dst (.p h.length 0)) (h++[.blk x.1 true x.2])
        | none=>match d.o.op.mk with
        | .free=>∃v h',opR T d.o.op fr h=some (v,h')/\v.ok (qOk len0 0 0 d.anc past)=true/\wpD T len0 l (k+1) past K (put fr d.o.dst v) h
        | .ld x=>∃v h',opR T d.o.op fr h=some (v,h')/\(if past.all (ZYm len0 d.anc past [])=true then True else past.all (QmL d.anc (idOf (x.ev fr)) [])=true)/\(x.ev fr).ok (qOk len0 0 0 d.anc past)=true/\v.ok (qOk len0 0 0 d.anc past)=true/\wpD T len0 l (k+1) (⟨k,0,0,idOf (x.ev fr),[]⟩::past) K (put fr d.o.dst v) h
        | _=>Msk T len0 k d.anc d.o.op past fr h fun v hh pt=>wpD T len0 l (k+1) (pt::past) K (put fr d.o.dst v) hh) /\
      (zEb fr d.o.guard=false->wpD T len0 l (k+1) past K (put fr d.o.dst (.tu [])) h)
theorem Y5g {len0 anc n:Nat} {past:List Pt} {ws:List Nat} {p:Pt} (e:ZYm len0 anc past ws p=true):QmL anc (seen len0 anc past n) ws p=true:=by
 unfold ZYm at e
 unfold QmL
 split
 ·rfl
 ·rename_i hb
  simp only[hb,Bool.false_or,Bool.and_eq_true,List.all_eq_true,Bool.not_eq_true',Bool.or_eq_true,Nat.ble_eq]at e
  obtain ⟨⟨e1,e2⟩,e3⟩:=e
  simp only[Bool.and_eq_true,List.all_eq_true,Bool.not_eq_true',List.mem_append]
  refine ⟨fun id hid=>?_,fun id hid=>(e3 id hid).2⟩
  rcases hid with hid|hid
  ·unfold seen at hid
   obtain ⟨_,hq⟩:=List.mem_filter.1 hid
   refine K3K.2 ⟨fun hw=>?_,fun ⟨h1,h2⟩=>?_⟩
   ·rw[e1 id hw]at hq
    cases hq
   ·rcases e2 with e2|⟨e2,e4⟩
    ·omega
    ·simp only[qOk,Bool.or_eq_true,Bool.and_eq_true,Nat.blt_eq,Nat.ble_eq,List.any_eq_true]at hq
     rcases hq with (hq|hq)|⟨p',hp',hq⟩
     ·omega
     ·omega
     ·rcases e4 p' hp' with (h|h)|h
      ·rw[hq.1.1]at h
       cases h
      ·omega
      ·omega
  ·exact (e3 id hid).1
theorem KSt {T:Env} {op:CO} (h:op.isCall=none) (fr:List AV) (hp:List AB):opR T op fr hp=op.run (Opd.ev fr) hp:=by
 unfold opR
 rw[h]
theorem KgL {op:CO} (h:op.mk=.free):op.isCall=none:=by cases op <;> first|rfl|cases h
theorem JDg {op:CO} {x:Opd} (h:op.mk=.ld x):∃n,op=.ld n x:=by
 cases op <;> cases h
 exact ⟨_,rfl⟩
theorem Y1g {q:Nat->Bool} {v:AV} {id off:Nat} (hv:v=.p id off) (h:v.ok q=true):∀i∈idOf v,q i=true:=by
 subst hv
 intro i hi
 simp only[idOf,List.mem_singleton]at hi
 subst hi
 exact h
theorem J88 {T:Env} {len0:Nat}:∀(l:List DOp) {k:Nat} {past:List Pt} {K:List AV->List AB->Prop} {fr:List AV} {h:List AB},wpD T len0 l k past K fr h->Qnf (opC T) len0 l k past K fr h
 | [],k,past,K,fr,h,e=>e
 | d::l,k,past,K,fr,h,e=>by
  obtain ⟨h1,h3,h2⟩:=e
  refine ⟨h1,fun hw=>J88 l (h2 hw),fun hw=>?_⟩
  have h4:=h3 hw
  split at h4
  ·rename_i x hx
   obtain ⟨q1,q2,q3⟩:=h4
   have hop:=K4u hx
   refine .inr (.inr ⟨[],[],.p h.length 0,qRB [] [] 0 h++[.blk x.1 true x.2],fun t ht=>?_,fun i hi=>by simp at hi,List.all_eq_true.2 fun p _=>by unfold QmL;split <;> simp,?_,?_,?_,fun id hid=>by simp at hid,fun B hB=>?_,?_⟩)
   ·rw[hop]at ht
    simp [CO.tmps]at ht
   ·unfold opC
    rw[hop,KSt rfl]
    simp only[CO.run,newB]
    rw[if_pos q1,ZOs]
   ·rw[List.length_append,ZOs];omega
   ·rw[List.length_append,ZOs]
    simp [AV.ok,qOk]
   ·rw[List.drop_left' (ZOs _ _ _ _),List.mem_singleton]at hB
    rw[hB,List.length_append,ZOs]
    exact q2
   ·have e2:JkA [] (qRB [] [] 0 h++[AB.blk x.1 true x.2]) 0 h=h++[.blk x.1 true x.2]:=by
     refine List.ext_getElem? fun i=>?_
     rw[Xwm]
     split
     ·rename_i hi
      rw[if_neg (by simp),List.getElem?_append_left hi]
     ·rename_i hi
      rw[Nat.zero_add,List.getElem?_append_right (by rw[ZOs];omega),List.getElem?_append_right (by omega),ZOs]
    rw[e2,List.length_append,ZOs]
    exact J88 l q3
  split at h4
  ·rename_i hm
   obtain ⟨v,h',q1,q3,q4⟩:=h4
   rw[KSt (KgL hm),X32 hm]at q1
   obtain ⟨v',hv',e'⟩:=Option.map_eq_some_iff.1 q1
   cases e'
   refine .inl ⟨hm,_,?_,q3,J88 l q4⟩
   rw[X32 hm,hv']
   rfl
  ·rename_i x hm
   obtain ⟨n,hop⟩:=JDg hm
   obtain ⟨v,h',q1,q2,q2',q3,q4⟩:=h4
   rw[hop,KSt rfl]at q1
   simp only[CO.run]at q1
   obtain ⟨v',hv',e'⟩:=Option.map_eq_some_iff.1 q1
   cases e'
   refine .inr (.inl ⟨n,x,v,hop,hv',List.all_eq_true.2 fun p hp=>?_,q3,J88 l q4⟩)
   by_cases qc:past.all (ZYm len0 d.anc past [])=true
   case neg =>
    rw[if_neg qc]at q2
    exact List.all_eq_true.1 q2 p hp
   have hp':=Y5g (n:=h.length) (List.all_eq_true.1 qc p hp)
   unfold QmL at hp' ⊢
   split
   ·rfl
   ·rename_i hb
    rw[if_neg hb]at hp'
    simp only[Bool.and_eq_true,List.all_eq_true,Bool.not_eq_true',List.append_nil]at hp' ⊢
    refine ⟨fun id hid=>hp'.1 id ?_,fun id hid=>by simp at hid⟩
    obtain ⟨i0,o0,hx⟩:∃i0 o0,x.ev fr=.p i0 o0:=by
     cases hx:x.ev fr with
     | p i0 o0=>exact ⟨i0,o0,rfl⟩
     | _=>rw[hx]at hv';cases n <;> cases hv'
    have hlt:id<h.length:=by
     rw[hx]at hid hv'
     simp only[idOf,List.mem_singleton]at hid
     subst hid
     cases n <;> simp only[ldV]at hv' <;> obtain ⟨xs,hxs,_⟩:=oQ.1 hv' <;> unfold zZU at hxs <;> split at hxs <;> first|(cases hxs;done)|(rename_i hh;exact (List.getElem?_eq_some_iff.1 hh).1)
    exact List.mem_filter.2 ⟨List.mem_range.2 hlt,Y1g hx q2' id hid⟩
  ·obtain ⟨v,G,q1,q2,q3,q4,q5,q6,q7,q8,q9,q10⟩:=h4
   refine .inr (.inr ⟨_,_,v,G,fun t ht=>?_,fun i hi=>?_,List.all_eq_true.2 fun p hp=>Y5g (List.all_eq_true.1 q3 p hp),q5,q6,q7,fun id hid=>?_,fun B hB=>List.all_eq_true.1 q9 B hB,J88 l q10⟩)
   ·obtain ⟨j,hj⟩:=List.mem_iff_getElem?.1 ht
    exact z7N.1 q1 j _ (by rw[List.getElem?_map,hj];rfl)
   ·have hlt:i<h.length:=by
     rcases List.mem_append.1 hi with hi|hi
     ·unfold seen at hi
      exact List.mem_range.1 (List.mem_filter.1 hi).1
     ·exact of_decide_eq_true (List.all_eq_true.1 q4 i hi)
    exact ⟨h[i],List.getElem?_eq_getElem hlt,q2 i _ (List.getElem?_eq_getElem hlt)⟩
   ·have:=List.all_eq_true.1 q8 id hid
    rw[List.getD_eq_getElem?_getD]at this
    exact this
theorem Ytf {T:Env} {len0:Nat}:∀(l:List DOp) {k:Nat} {past:List Pt} {K K':List AV->List AB->Prop} (_:∀fr h,K fr h->K' fr h) {fr:List AV} {h:List AB},wpD T len0 l k past K fr h->wpD T len0 l k past K' fr h
 | [],_,_,_,_,hk,_,_,e=>hk _ _ e
 | d::l,k,past,K,K',hk,fr,h,e=>by
  obtain ⟨h1,h3,h2⟩:=e
  refine ⟨h1,fun hw=>?_,fun hw=>Ytf l hk (h2 hw)⟩
  have h4:=h3 hw
  split at h4
  ·obtain ⟨q1,q2,q3⟩:=h4
   exact ⟨q1,q2,Ytf l hk q3⟩
  split at h4
  ·obtain ⟨v,h',q1,q2,q3⟩:=h4
   exact ⟨v,h',q1,q2,Ytf l hk q3⟩
  ·obtain ⟨v,h',q1,q2,q3,q4,q5⟩:=h4
   exact ⟨v,h',q1,q2,q3,q4,Ytf l hk q5⟩
  ·obtain ⟨v,G,q1,q2,q3,q4,q5,q6,q7,q8,q9,q10⟩:=h4
   exact ⟨v,G,q1,q2,q3,q4,q5,q6,q7,q8,q9,Ytf l hk q10⟩
def smT (T:Env):Sm:=⟨opC T,fun ds K fr h=>wpD T h.length ds 0 [] K fr h⟩
theorem qa9 {P:Program} (hm:P.follows .mixedOrders=true) {T:Env} (hT:T.Ok P):Fits P (smT T):=⟨JIV hT,fun e =>
 let ⟨fr',h',q1,q2⟩:=DrwAt.of (JIV hT) hm (J88 _ e)
 ⟨fr',h',q1,q2⟩⟩
inductive IT where
 | code (c:CC)
 | blk (id:Nat)
 | ops (l:List COper)
 | op (d:Option Nat) (r:Option (AV×List AB))
 | grd (v:AV) (t:Nat) (w:Bool) (d:Option Nat) (op:CO)
 | cnd (v:AV) (a b:CC)
 | drw (len0 k:Nat) (past:List Pt) (l:List DOp)
 | dgr (v:AV) (t:Nat) (w:Bool) (len0 k:Nat) (past:List Pt) (d:DOp) (l:List DOp)
 | dop (len0 k:Nat) (past:List Pt) (d:DOp) (l:List DOp)
 | dfr (r:Option (AV×List AB)) (len0 k anc:Nat) (past:List Pt) (d:Option Nat) (l:List DOp)
 | dld (r:Option (AV×List AB)) (x:AV) (len0 k anc:Nat) (past:List Pt) (d:Option Nat) (l:List DOp)
 | dmk (ws:List Nat) (vs:List AV) (r:Option (AV×List AB)) (len0 k anc:Nat) (past:List Pt) (d:Option Nat) (l:List DOp)
 | lpe (J:List AV->List AB->Prop)
structure Ctx where
 P:Program
 T:Env
 rb:Bool
 p:Nat
 K:XE->List AV->List AB->Prop
def gv (fr:List AV) (t:Nat):AV:=fr.getD t (.tu [])
def _root_.Go.Proofs.YtekeoichmdiiiaaGreat.DOp.one (c:Ctx) (K:XE->List AV->List AB->Prop) (d:DOp) (len0 k:Nat) (past:List Pt) (l:List DOp) (fr:List AV) (h:List AB):Prop:=
 match d.o.op.nw with
 | some x=>x.2.all (wrOk x.1)=true/\(AB.blk x.1 true x.2).ok (qOk len0 h.length (h.length+1) d.anc past)=true/\wpD c.T len0 l (k+1) (⟨k,h.length,h.length+1,[],[]⟩::past) (K .n) (put fr d.o.dst (.p h.length 0)) (h++[.blk x.1 true x.2])
 | none=>match d.o.op.mk with
 | .free=>∃v h',opR c.T d.o.op fr h=some (v,h')/\v.ok (qOk len0 0 0 d.anc past)=true/\wpD c.T len0 l (k+1) past (K .n) (put fr d.o.dst v) h
 | .ld x=>∃v h',opR c.T d.o.op fr h=some (v,h')/\(if past.all (ZYm len0 d.anc past [])=true then True else past.all (QmL d.anc (idOf (x.ev fr)) [])=true)/\(x.ev fr).ok (qOk len0 0 0 d.anc past)=true/\v.ok (qOk len0 0 0 d.anc past)=true/\wpD c.T len0 l (k+1) (⟨k,0,0,idOf (x.ev fr),[]⟩::past) (K .n) (put fr d.o.dst v) h
 | _=>Msk c.T len0 k d.anc d.o.op past fr h fun v hh pt=>wpD c.T len0 l (k+1) (pt::past) (K .n) (put fr d.o.dst v) hh
def IT.wp (c:Ctx) (K:XE->List AV->List AB->Prop):IT->List AV->List AB->Prop
 | .code a,fr,h=>wpC c.P (smT c.T) c.rb c.p a K fr h
 | .blk _,fr,h=>K .n fr h
 | .ops l,fr,h=>Xa7 (opC c.T) l (K .n) fr h
 | .op d r,fr,_=>∃v h',r=some (v,h')/\K .n (put fr d v) h'
 | .grd v t w d oo,fr,h=>gv fr t=v/\v.known=true/\(v=.b w->∃v' h',opR c.T oo fr h=some (v',h')/\K .n (put fr d v') h')/\(v≠.b w->K .n (put fr d (.tu [])) h)
 | .cnd v a b,fr,h=>∃t,v=.b t/\(t=true->wpC c.P (smT c.T) c.rb c.p a K fr h)/\(t=false->wpC c.P (smT c.T) c.rb c.p b K fr h)
 | .drw len0 k past l,fr,h=>wpD c.T len0 l k past (K .n) fr h
 | .dgr v t w len0 k past d l,fr,h=>gv fr t=v/\v.known=true/\(v=.b w->d.one c K len0 k past l fr h)/\(v≠.b w->wpD c.T len0 l (k+1) past (K .n) (put fr d.o.dst (.tu [])) h)
 | .dop len0 k past d l,fr,h=>d.one c K len0 k past l fr h
 | .dfr r len0 k anc past d l,fr,h=>∃v h',r=some (v,h')/\v.ok (qOk len0 0 0 anc past)=true/\wpD c.T len0 l (k+1) past (K .n) (put fr d v) h
 | .dld r x len0 k anc past d l,fr,h=>∃v h',r=some (v,h')/\(if past.all (ZYm len0 anc past [])=true then True else past.all (QmL anc (idOf x) [])=true)/\x.ok (qOk len0 0 0 anc past)=true/\v.ok (qOk len0 0 0 anc past)=true/\wpD c.T len0 l (k+1) (⟨k,0,0,idOf x,[]⟩::past) (K .n) (put fr d v) h
 | .dmk ws vs r len0 k anc past d l,fr,h=>∃v G,okL (fun i=>decide (i<h.length)) vs=true/\HOk h/\past.all (ZYm len0 anc past ws)=true/\(ws.all fun id=>decide (id<h.length))=true/\r=some (v,G)/\h.length<=G.length/\v.ok (qOk len0 h.length G.length anc past)=true /\
   (ws.all fun id=>(G.getD id .dead).ok (qOk len0 h.length G.length anc past))=true/\((G.drop h.length).all fun B=>B.ok (qOk len0 h.length G.length anc past))=true /\
   wpD c.T len0 l (k+1) (⟨k,h.length,G.length,seen len0 anc past h.length,ws⟩::past) (K .n) (put fr d v) (JkA ws G 0 h)
 | .lpe J,fr,h=>J fr h
def Lv (c:Ctx):List IT->XE->List AV->List AB->Prop
 | [],x,fr,h=>c.K x fr h
 | it::k,.n,fr,h=>it.wp c (Lv c k) fr h
 | .blk i::k,.x j,fr,h=>if j=i then Lv c k .n fr h else Lv c k (.x j) fr h
 | _::k,x,fr,h=>Lv c k x fr h
def W (c:Ctx) (k:List IT) (fr:List AV) (h:List AB):Prop:=Lv c k .n fr h
section
variable {c:Ctx} {k:List IT} {fr:List AV} {h:List AB}
theorem Lv_n (it:IT):Lv c (it::k) .n fr h=it.wp c (Lv c k) fr h:=by cases it <;> rfl
theorem znl (i j:Nat):Lv c (.blk i::k) (.x j) fr h=if j=i then W c k fr h else Lv c k (.x j) fr h:=oI rfl
theorem Lv_r (it:IT):Lv c (it::k) .r fr h=Lv c k .r fr h:=by cases it <;> rfl
theorem XZ4:∀(k:List IT),Lv c k .r fr h=c.K .r fr h
 | []=>rfl
 | it::k=>by rw[Lv_r,XZ4 k]
theorem XsY (a:CC) (j:Nat):Lv c (.code a::k) (.x j) fr h=Lv c k (.x j) fr h:=oI rfl
theorem zSq (a:List COper) (j:Nat):Lv c (.ops a::k) (.x j) fr h=Lv c k (.x j) fr h:=oI rfl
theorem z7M (J) (j:Nat):Lv c (.lpe J::k) (.x j) fr h=Lv c k (.x j) fr h:=_root_.id rfl
theorem Jmm (j:Nat):Lv c [] (.x j) fr h=c.K (.x j) fr h:=oI rfl
theorem zB4:W c [] fr h=c.K .n fr h:=oI rfl
theorem Q05:W c (.code .skip::k) fr h=W c k fr h:=by simp only[W,Lv_n,IT.wp,wpC]
theorem Yea (i:Nat) (l:List COper):W c (.code (.reg i l)::k) fr h=W c (.ops l::k) fr h:=by simp only[W,Lv_n,IT.wp,wpC,smT]
theorem Ydp (a b:CC):W c (.code (.seq a b)::k) fr h=W c (.code a::.code b::k) fr h:=by
 simp only[W,Lv_n,IT.wp,wpC]
 congr 1
 funext x fr h
 cases x <;> rfl
theorem zsm (q:Opd) (a b:CC):W c (.code (.cond q a b)::k) fr h=W c (.cnd (q.ev fr) a b::k) fr h:=by simp only[W,Lv_n,IT.wp,wpC]
theorem qVI (a b:CC):W c (.cnd (.b true) a b::k) fr h=W c (.code a::k) fr h:=by simp [W,Lv_n,IT.wp]
theorem KU1 (a b:CC):W c (.cnd (.b false) a b::k) fr h=W c (.code b::k) fr h:=by simp [W,Lv_n,IT.wp]
theorem ze4 (t:Prop) [Decidable t] (a b:CC):W c (.cnd (.b (decide t)) a b::k) fr h=((t->W c (.code a::k) fr h)/\(¬t->W c (.code b::k) fr h)):=by
 by_cases ht:t <;> simp [W,Lv_n,IT.wp,ht]
theorem Y1u (i:Nat) (a:CC):W c (.code (.block i a)::k) fr h=W c (.code a::.blk i::k) fr h:=by
 simp only[W,Lv_n,IT.wp,wpC]
 congr 1
 funext x fr h
 cases x with
 | n=>rfl
 | x j=>simp only[znl,W]
 | r=>rfl
theorem QBL (i:Nat):W c (.blk i::k) fr h=W c k fr h:=oI rfl
theorem q4n (a:CC):W c (.code (.scope a)::k) fr h=W c (.code a::k) fr h:=by simp only[W,Lv_n,IT.wp,wpC]
theorem ZgW (j:Nat):W c (.code (.exit j)::k) fr h=Lv c k (.x j) fr h:=by simp only[W,Lv_n,IT.wp,wpC]
theorem K5z:W c (.code .ret::k) fr h=c.K .r fr h:=by
 simp only[W,Lv_n,IT.wp,wpC]
 exact XZ4 k
theorem Xda (J):W c (.lpe J::k) fr h=J fr h:=_root_.id rfl
theorem Q73:W c (.ops []::k) fr h=W c k fr h:=by simp only[W,Lv_n,IT.wp,Xa7]
theorem W_op (d:Option Nat) (v:AV) (h':List AB):W c (.op d (some (v,h'))::k) fr h=W c k (put fr d v) h':=by
 simp only[W,Lv_n,IT.wp,Option.some.injEq,Prod.mk.injEq]
 exact propext ⟨fun ⟨_,_,⟨e1,e2⟩,q⟩=>by rw[e1,e2];exact q,fun q=>⟨v,h',⟨rfl,rfl⟩,q⟩⟩
theorem JCe (d:Option Nat) (t:Prop) [Decidable t] (r:AV×List AB):W c (.op d (if t then some r else none)::k) fr h=(t/\W c (.op d (some r)::k) fr h):=by
 by_cases ht:t <;> simp [W,Lv_n,IT.wp,ht]
theorem ZDD (d:Option Nat) (t:Prop) [Decidable t] (r:AV×List AB):W c (.op d (if t then none else some r)::k) fr h=(¬t/\W c (.op d (some r)::k) fr h):=by
 by_cases ht:t <;> simp [W,Lv_n,IT.wp,ht]
theorem XJb (d:Option Nat):W c (.op d none::k) fr h=False:=by simp [W,Lv_n,IT.wp]
theorem Q7Y (d:Option Nat) (op:CO) (l:List COper) [hx:NMx op]:W c (.ops (⟨d,none,op⟩::l)::k) fr h=W c (.op d (opR c.T op fr h)::.ops l::k) fr h:=by
 simp only[W,Lv_n,IT.wp,Xa7,qdw,zEb,opC,hx.e,true_and,true_implies,reduceCtorEq,false_implies,and_true]
theorem ZRM {t:Nat} {x:Bool} (hg:gv fr t=.b x):fr[t]?=some (.b x):=by
 unfold gv at hg
 rw[List.getD_eq_getElem?_getD]at hg
 cases hq:fr[t]? with
 | none=>rw[hq]at hg;cases hg
 | some v=>rw[hq]at hg;exact congrArg some hg
theorem Kax {t:Nat} {v:AV} (hg:fr[t]?=some v):fr.set t v=fr:=by
 refine List.ext_getElem? fun i=>?_
 rw[List.getElem?_set]
 split
 ·rename_i e
  subst e
  obtain ⟨h1,h2⟩:=List.getElem?_eq_some_iff.1 hg
  rw[if_pos h1,hg]
 ·rfl
theorem YAm (d:Option Nat) (t:Nat) (w:Bool) (op:CO) (l:List COper) [hx:NMx op]:W c (.ops (⟨d,some (t,w),op⟩::l)::k) fr h=W c (.grd (gv fr t) t w d op::.ops l::k) fr h:=by
 have e1:qdw fr (some (t,w))=(gv fr t).known:=by
  unfold qdw gv
  rw[List.getD_eq_getElem?_getD]
  dsimp only
  cases fr[t]? <;> rfl
 have e2:(zEb fr (some (t,w))=true)=(gv fr t=.b w):=by
  unfold zEb gv
  rw[List.getD_eq_getElem?_getD]
  dsimp only
  cases fr[t]? with
  | none=>simp
  | some v=>cases v <;> simp
 have e3:(zEb fr (some (t,w))=false)=(gv fr t≠.b w):=by rw[<-Bool.not_eq_true,e2]
 simp only[W,Lv_n,IT.wp,Xa7,opC,hx.e,true_and,e1,e2,e3]
theorem zRU (t:Nat) (w:Bool) (d:Option Nat) (op:CO):W c (.grd (.b w) t w d op::k) fr h=(gv fr t=.b w/\W c (.op d (opR c.T op fr h)::k) fr h):=by
 simp [W,Lv_n,IT.wp,AV.known]
theorem Qsc (t:Nat) (d:Option Nat) (op:CO):W c (.grd (.b true) t true d op::k) fr h=(gv fr t=.b true/\W c (.op d (opR c.T op fr h)::k) fr h):=zRU t true d op
theorem qM5 (t:Nat) (d:Option Nat) (op:CO):W c (.grd (.b false) t false d op::k) fr h=(gv fr t=.b false/\W c (.op d (opR c.T op fr h)::k) fr h):=zRU t false d op
theorem z6O (t:Nat) (d:Option Nat) (op:CO):W c (.grd (.b true) t false d op::k) fr h=(gv fr t=.b true/\W c k (put fr d (.tu [])) h):=by
 simp [W,Lv_n,IT.wp,AV.known]
theorem Qpn (t:Nat) (d:Option Nat) (op:CO):W c (.grd (.b false) t true d op::k) fr h=(gv fr t=.b false/\W c k (put fr d (.tu [])) h):=by
 simp [W,Lv_n,IT.wp,AV.known]
theorem ZfO (t:Nat) (w:Bool) (d:Option Nat) (op:CO):W c (.grd (.tu []) t w d op::k) fr h=(gv fr t=.tu []/\W c k (put fr d (.tu [])) h):=by
 simp [W,Lv_n,IT.wp,AV.known]
theorem QTq (x:Prop) [Decidable x] (t:Nat) (d:Option Nat) (op:CO):W c (.grd (.b (decide x)) t true d op::k) fr h=(gv fr t=.b (decide x)/\(x->W c (.op d (opR c.T op (fr.set t (.b true)) h)::k) (fr.set t (.b true)) h)/\(¬x->W c k (put (fr.set t (.b false)) d (.tu [])) h)):=by
 by_cases hg:gv fr t=.b (decide x)
 ·by_cases hx:x <;> simp only[hx,decide_true,decide_false]at hg ⊢ <;> simp [W,Lv_n,IT.wp,hg,Kax (ZRM hg),AV.known]
 ·simp [W,Lv_n,IT.wp,hg]
theorem JAI (x:Prop) [Decidable x] (t:Nat) (d:Option Nat) (op:CO):W c (.grd (.b (decide x)) t false d op::k) fr h=(gv fr t=.b (decide x)/\(x->W c k (put (fr.set t (.b true)) d (.tu [])) h)/\(¬x->W c (.op d (opR c.T op (fr.set t (.b false)) h)::k) (fr.set t (.b false)) h)):=by
 by_cases hg:gv fr t=.b (decide x)
 ·by_cases hx:x <;> simp only[hx,decide_true,decide_false]at hg ⊢ <;> simp [W,Lv_n,IT.wp,hg,Kax (ZRM hg),AV.known]
 ·simp [W,Lv_n,IT.wp,hg]
theorem quh (t:Nat) (w:Bool):qdw fr (some (t,w))=(gv fr t).known:=by
 unfold qdw gv
 rw[List.getD_eq_getElem?_getD]
 dsimp only
 cases fr[t]? <;> rfl
theorem Xqx (t:Nat) (w:Bool):(zEb fr (some (t,w))=true)=(gv fr t=.b w):=by
 unfold zEb gv
 rw[List.getD_eq_getElem?_getD]
 dsimp only
 cases fr[t]? with
 | none=>simp
 | some v=>cases v <;> simp
theorem Xbz (t:Nat) (w:Bool):(zEb fr (some (t,w))=false)=(gv fr t≠.b w):=by rw[<-Bool.not_eq_true,Xqx]
variable {len0 n:Nat} {past:List Pt} {l:List DOp} {d:Option Nat} {anc us:Nat} {op:CO}
theorem QKv (i:Nat) (ds:List DOp):W c (.code (.drw i ds)::k) fr h=W c (.drw h.length 0 [] ds::k) fr h:=by simp only[W,Lv_n,IT.wp,wpC,smT]
theorem ZDm:W c (.drw len0 n past []::k) fr h=W c k fr h:=by simp only[W,Lv_n,IT.wp,wpD]
theorem KIr:W c (.drw len0 n past (⟨⟨d,none,op⟩,anc,us⟩::l)::k) fr h=W c (.dop len0 n past ⟨⟨d,none,op⟩,anc,us⟩ l::k) fr h:=by
 simp only[W,Lv_n,IT.wp,wpD,DOp.one,qdw,zEb,true_and,true_implies,reduceCtorEq,false_implies,and_true]
theorem KFY (t:Nat) (w:Bool):W c (.drw len0 n past (⟨⟨d,some (t,w),op⟩,anc,us⟩::l)::k) fr h=W c (.dgr (gv fr t) t w len0 n past ⟨⟨d,none,op⟩,anc,us⟩ l::k) fr h:=by
 simp only[W,Lv_n,IT.wp,wpD,DOp.one,quh,Xqx,Xbz,true_and]
theorem Zmf (t:Nat) (d:DOp):W c (.dgr (.b true) t true len0 n past d l::k) fr h=(gv fr t=.b true/\W c (.dop len0 n past d l::k) fr h):=by simp [W,Lv_n,IT.wp,AV.known]
theorem Qvw (t:Nat) (d:DOp):W c (.dgr (.b false) t false len0 n past d l::k) fr h=(gv fr t=.b false/\W c (.dop len0 n past d l::k) fr h):=by simp [W,Lv_n,IT.wp,AV.known]
theorem QO6 (t:Nat) (d:DOp):W c (.dgr (.b true) t false len0 n past d l::k) fr h=(gv fr t=.b true/\W c (.drw len0 (n+1) past l::k) (put fr d.o.dst (.tu [])) h):=by simp [W,Lv_n,IT.wp,AV.known]
theorem JfW (t:Nat) (d:DOp):W c (.dgr (.b false) t true len0 n past d l::k) fr h=(gv fr t=.b false/\W c (.drw len0 (n+1) past l::k) (put fr d.o.dst (.tu [])) h):=by simp [W,Lv_n,IT.wp,AV.known]
theorem QcM (t:Nat) (w:Bool) (d:DOp):W c (.dgr (.tu []) t w len0 n past d l::k) fr h=(gv fr t=.tu []/\W c (.drw len0 (n+1) past l::k) (put fr d.o.dst (.tu [])) h):=by simp [W,Lv_n,IT.wp,AV.known]
theorem YdV (x:Prop) [Decidable x] (t:Nat) (d:DOp):W c (.dgr (.b (decide x)) t true len0 n past d l::k) fr h=(gv fr t=.b (decide x)/\(x->W c (.dop len0 n past d l::k) (fr.set t (.b true)) h)/\(¬x->W c (.drw len0 (n+1) past l::k) (put (fr.set t (.b false)) d.o.dst (.tu [])) h)):=by
 by_cases hg:gv fr t=.b (decide x)
 ·by_cases hx:x <;> simp only[hx,decide_true,decide_false]at hg ⊢ <;> simp [W,Lv_n,IT.wp,hg,Kax (ZRM hg),AV.known]
 ·simp [W,Lv_n,IT.wp,hg]
theorem Jm1 (x:Prop) [Decidable x] (t:Nat) (d:DOp):W c (.dgr (.b (decide x)) t false len0 n past d l::k) fr h=(gv fr t=.b (decide x)/\(x->W c (.drw len0 (n+1) past l::k) (put (fr.set t (.b true)) d.o.dst (.tu [])) h)/\(¬x->W c (.dop len0 n past d l::k) (fr.set t (.b false)) h)):=by
 by_cases hg:gv fr t=.b (decide x)
 ·by_cases hx:x <;> simp only[hx,decide_true,decide_false]at hg ⊢ <;> simp [W,Lv_n,IT.wp,hg,Kax (ZRM hg),AV.known]
 ·simp [W,Lv_n,IT.wp,hg]
theorem YEo (g) (hm:op.mk=.free):W c (.dop len0 n past ⟨⟨d,g,op⟩,anc,us⟩ l::k) fr h=W c (.dfr (opR c.T op fr h) len0 n anc past d l::k) fr h:=by
 simp only[W,Lv_n,IT.wp,DOp.one,hm,QLP hm]
theorem XIy (g) (m:Option Nat) (x:Opd):W c (.dop len0 n past ⟨⟨d,g,.ld m x⟩,anc,us⟩ l::k) fr h=W c (.dld (opR c.T (.ld m x) fr h) (x.ev fr) len0 n anc past d l::k) fr h:=by
 simp only[W,Lv_n,IT.wp,DOp.one,CO.mk,CO.nw]
theorem zFT (g) (hm:op.isM=true):W c (.dop len0 n past ⟨⟨d,g,op⟩,anc,us⟩ l::k) fr h=W c (.dmk (wsC c.T (Opd.ev fr) op) (op.tmps.map (nthA fr)) (opR c.T op fr (qRB (seen len0 anc past h.length) (wsC c.T (Opd.ev fr) op) 0 h)) len0 n anc past d l::k) fr h:=by
 simp only[W,Lv_n,IT.wp,DOp.one,(zqW hm).1,(zqW hm).2,Msk]
theorem JxL (g) (f:Opd) (args:List Opd):W c (.dop len0 n past ⟨⟨d,g,.call f args⟩,anc,us⟩ l::k) fr h=W c (.dmk (wsC c.T (Opd.ev fr) (.call f args)) ((CO.tmps (.call f args)).map (nthA fr)) (opR c.T (.call f args) fr (qRB (seen len0 anc past h.length) (wsC c.T (Opd.ev fr) (.call f args)) 0 h)) len0 n anc past d l::k) fr h:=by
 simp only[W,Lv_n,IT.wp,DOp.one,CO.mk,CO.nw,Msk]
theorem ZUD (g) (fl:Bool) (zs:List AV):W c (.dop len0 n past ⟨⟨d,g,.new fl zs⟩,anc,us⟩ l::k) fr h=(zs.all (wrOk fl)=true/\(AB.blk fl true zs).ok (qOk len0 h.length (h.length+1) anc past)=true/\W c (.drw len0 (n+1) (⟨n,h.length,h.length+1,[],[]⟩::past) l::k) (put fr d (.p h.length 0)) (h++[.blk fl true zs])):=by
 simp only[W,Lv_n,IT.wp,DOp.one,CO.nw]
theorem ex2 {α β:Type} {Q:α->β->Prop} {v:α} {g:β}:(∃v' g',some (v,g)=some (v',g')/\Q v' g')=Q v g:=by
 simp only[Option.some.injEq,Prod.mk.injEq]
 exact propext ⟨fun ⟨_,_,⟨e1,e2⟩,q⟩=>by rw[e1,e2];exact q,fun q=>⟨v,g,⟨rfl,rfl⟩,q⟩⟩
theorem zhg (v:AV) (h':List AB):W c (.dfr (some (v,h')) len0 n anc past d l::k) fr h=(v.ok (qOk len0 0 0 anc past)=true/\W c (.drw len0 (n+1) past l::k) (put fr d v) h):=by
 simp only[W,Lv_n,IT.wp,ex2]
theorem XvL (t:Prop) [Decidable t] (r:AV×List AB):W c (.dfr (if t then some r else none) len0 n anc past d l::k) fr h=(t/\W c (.dfr (some r) len0 n anc past d l::k) fr h):=by
 by_cases ht:t <;> simp [W,Lv_n,IT.wp,ht]
theorem ZMh (v:AV) (h':List AB) (x:AV):W c (.dld (some (v,h')) x len0 n anc past d l::k) fr h=((if past.all (ZYm len0 anc past [])=true then True else past.all (QmL anc (idOf x) [])=true)/\x.ok (qOk len0 0 0 anc past)=true/\v.ok (qOk len0 0 0 anc past)=true/\W c (.drw len0 (n+1) (⟨n,0,0,idOf x,[]⟩::past) l::k) (put fr d v) h):=by
 simp only[W,Lv_n,IT.wp,ex2]
theorem zLD (ws : List Nat) (vs : List AV) (v : AV) (G : List AB) : W c (.dmk ws vs (some (v, G)) len0 n anc past d l :: k) fr h = (okL (fun i => decide (i < h.length)) vs = true ∧ HOk h ∧ past.all (ZYm len0 anc past ws) = true ∧ (ws.all fun id => decide (id < h.length)) = true ∧ h.length ≤ G.length ∧ v.ok (qOk len0 h.length G.length anc past) = true ∧
      (ws.all fun id=>(G.getD id .dead).ok (qOk len0 h.length G.length anc past))=true/\((G.drop h.length).all fun B=>B.ok (qOk len0 h.length G.length anc past))=true /\
      W c (.drw len0 (n+1) (⟨n,h.length,G.length,seen len0 anc past h.length,ws⟩::past) l::k) (put fr d v) (JkA ws G 0 h)):=by
  simp only[W,Lv_n,IT.wp]
  refine propext ⟨fun ⟨v',G',q1,q2,q3,q4,q5,q⟩=>?_,fun ⟨q1,q2,q3,q4,q⟩=>⟨v,G,q1,q2,q3,q4,rfl,q⟩⟩
  cases q5
  exact ⟨q1,q2,q3,q4,q⟩
theorem zuM (ws:List Nat) (vs:List AV) (t:Prop) [Decidable t] (r:AV×List AB):W c (.dmk ws vs (if t then some r else none) len0 n anc past d l::k) fr h=(t/\W c (.dmk ws vs (some r) len0 n anc past d l::k) fr h):=by
 by_cases ht:t <;> simp [W,Lv_n,IT.wp,ht]
def Back (c:Ctx) (I:Nat->List AV->List AB->Prop) (n:Nat) (fr:List AV) (h:List AB):Prop:=∃m fr' h',m<n/\Bt c.P c.p fr h fr' h'/\I m fr' h'
theorem Ywz {a:CC} (I:Nat->List AV->List AB->Prop) (n:Nat) (fr':List AV) (h':List AB) (hg:Bt c.P c.p fr h fr' h') (h0:I n fr' h') (hs:∀n fr h,I n fr h->W c (.code a::.lpe (Back c I n)::k) fr h):W c (.code (.loop a)::k) fr h:=by
 simp only[W,Lv_n,IT.wp,wpC]
 refine ⟨I,⟨n,fr',h',hg,h0⟩,fun n fr h hi=>?_⟩
 have:=hs n fr h hi
 simp only[W,Lv_n,IT.wp]at this
 refine cast ?_ this
 congr 1
 funext x fr h
 cases x <;> rfl
end
theorem FnAt.run {P:Program} (hm:P.follows .mixedOrders=true) {T:Env} (hT:T.Ok P) {g:Nat} {fn:Func} {cf:CF} (hf:P.funcs[g]?=some fn) (hc:J0o P fn=some cf) {args:List AV} {h:List AB} {a:AV} {h':List AB}
  (w:okL (fun i=>decide (i<h.length)) args=true->HOk h->W ⟨P,T,false,h.length,Fin P h.length cf.res a h'⟩ [.code cf.body] (args++List.replicate (cf.ntmps-args.length) (.tu [])) (h++[])):FnAt P g args h a h':=by
 refine FnAt.fin (qa9 hm hT) hf hc fun h1 h2=>?_
 have:=w h1 h2
 rw[List.append_nil]at this
 simp only[W,Lv_n,IT.wp]at this
 refine cast ?_ this
 congr 1
end
end Go.Proofs.YtekeoichmdiiiaaGreat
