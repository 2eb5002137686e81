/- Part 14 of what the laws' proofs rest on. No condition. -/
import Derived.Test.YtekeoichmdiiiaaGreatTh13
set_option linter.all false
namespace Go.Proofs.YtekeoichmdiiiaaGreat
section
open Go.RowKit
section
variable {P:Program}
def FnAt (P:Program) (g:Nat) (args:List AV) (h:List AB) (a:AV) (h':List AB):Prop:=
 ∃fn cf,P.funcs[g]?=some fn/\J0o P fn=some cf/\AM P h.length none g [.code cf.body] (args++List.replicate (cf.ntmps-args.length) (.tu [])) h (fun a' h''=>a'=a/\h''=h')
def Jms (P:Program) (g:Nat) (args:List AV) (h:List AB) (X:AV->List AB->Prop):Prop:=
 ∃fn cf,P.funcs[g]?=some fn/\J0o P fn=some cf/\AM P h.length none g [.code cf.body] (args++List.replicate (cf.ntmps-args.length) (.tu [])) h X
def ZTa (P:Program) (id:Nat) (args:List AV) (h:List AB) (a:AV) (h':List AB):Prop:=
 ∃st pd fr0 ps asg bd,h[id]?=some (.lp st pd fr0 ps asg bd)/\ps.length=args.length/\∀g,AM P h.length (some id) g [.code asg,.br,.code bd] (zHT ps args fr0) h (fun a' h''=>a'=a/\h''=h')
theorem FnAt.c {g:Nat} {args:List AV} {h h':List AB} {a:AV} (e:FnAt P g args h a h'):FnC P g args h a h':=by
 obtain ⟨fn,cf,hf,hcf,am⟩:=e
 obtain ⟨hname,body,hbody,hcb,hres,hnt⟩:=qKr hcf
 refine ⟨⟨fn,body,hf,by simpa using hname,hbody⟩,fun ρ w vals hr hv cs=>?_⟩
 let bf':Frame:={ (default:Frame) with fn:=g,kind:=.normal,roundOf:=none }
 have henter:Frame.enter P g vals .normal=bf'.atR { tmps:=vals++Array.replicate (fn.ntmps-vals.size) undef,defers:=[] } [.code body]:=by
  simp [Frame.enter,Frame.atR,hf,hbody,bf']
 obtain ⟨v',w',⟨a0,h'',ρ',⟨rfl,rfl⟩,hva,hrel,heff⟩,frm,hsteps,hfrm,hleave⟩:=am ρ w _ [.code body] bf' cs [] rfl rfl rfl (Nat.le_refl _) (.mcode hcb trivial) (hv.append (by rw[hv.1,hnt];exact qYv ρ _)) hr ⟨List.nodup_nil,fun r h=>by simp at h⟩
 exact ⟨.returned v',w',frm,⟨v',ρ',rfl,hva,hrel,heff.p⟩,by rw[henter];exact hsteps,hfrm,hleave⟩
def YRp (P:Program) (f:AV) (args:List AV) (h:List AB) (a:AV) (h':List AB):Prop:=
 match f with
 | .f (.func g) fst cap=>FnC P g (fst++args++cap) h a h'
 | .y id=>ZTa P id args h a h'
 | _=>False
def OpAt (P:Program) (op:CO) (fr:List AV) (h:List AB) (v:AV) (h':List AB):Prop:=
 match op.isCall with
 | some (f,args)=>YRp P (f.ev fr) (args.map (Opd.ev fr)) h v h'
 | none=>op.run (Opd.ev fr) h=some (v,h')
theorem XDZ {ops:Array Oper} {i:Nat} {o:Oper} {c:COper} (ho:ops[i]?=some o) (hc:YXt P ops o=some c) {fr:List AV} {h h':List AB} {v:AV} (hk:qdw fr c.guard=true) (hwt:zEb fr c.guard=true) (e:OpAt P c.op fr h v h'):OpOk P ops i c.dst fr h v h':=by
 unfold OpAt at e
 split at e
 ·rename_i f args hcc
  have hop:=z1g hcc
  unfold YRp at e
  split at e
  ·rename_i g fst cap hf
   exact XtF ho hc hk hwt hop hf e
  ·rename_i id hf
   obtain ⟨st,pd,fr0,ps,asg,bd,h1,h2,h3⟩:=e
   exact J2Y ho hc hk hwt hop hf h1 (by simpa using h2) h3
  ·exact e.elim
 ·exact X2d ho hc hk hwt e
def Xa7 (C:CO->List AV->List AB->AV->List AB->Prop):List COper->(List AV->List AB->Prop)->List AV->List AB->Prop
  | [],K,fr,h=>K fr h
  | o :: l, K, fr, h => qdw fr o.guard = true ∧ (zEb fr o.guard = true → match o.op.mx with
        | some x=>o.guard=none/\∃cands,mnxC h (x.ev fr)=some cands/\∀r∈cands,Xa7 C l K (put fr o.dst r.1) r.2
        | none=>∃v h',C o.op fr h v h'/\Xa7 C l K (put fr o.dst v) h')/\(zEb fr o.guard=false->Xa7 C l K (put fr o.dst (.tu [])) h)
def Jvz (P:Program) (C:CO->List AV->List AB->AV->List AB->Prop):Prop:=∀ {op:CO} {fr:List AV} {h:List AB} {v:AV} {h':List AB},C op fr h v h'->OpAt P op fr h v h'
variable {C:CO->List AV->List AB->AV->List AB->Prop}
theorem zLI (hC:Jvz P C):∀(l:List COper) {K:List AV->List AB->Prop} {fr:List AV} {h:List AB},Xa7 C l K fr h->∀(p:Nat) (rd:Option Nat) (fn:FuncId) (k:List CI) (R:AV->List AB->Prop),(∀fr' h',K fr' h'->AM P p rd fn k fr' h' R)->AM P p rd fn (.ops l::k) fr h R
 | [],K,fr,h,e=>fun p rd fn k R g=>AM.go rfl (g fr h e)
 | o::l,K,fr,h,e=>by
  obtain ⟨hk,h1,h2⟩:=e
  intro p rd fn k R g
  cases hw:zEb fr o.guard with
  | true =>
   have h3:=h1 hw
   split at h3
   ·rename_i x hx
    obtain ⟨hg,cands,e1,e2⟩:=h3
    obtain ⟨dst,gd,op⟩:=o
    dsimp only at hg hx e2
    subst hg
    rw[YUz hx]
    exact AM.mnx e1 fun r hr=>zLI hC l (e2 r hr) p rd fn k R g
   ·obtain ⟨v,h',e1,e2⟩:=h3
    exact AM.op (fun ops i o' ho hc=>XDZ ho hc hk hw (hC e1)) (zLI hC l e2 p rd fn k R g)
  | false=>exact AM.op (fun ops i o' ho hc=>J7n ho hc hk hw) (zLI hC l (h2 hw) p rd fn k R g)
def DrwAt (P:Program) (ds:List DOp) (fr:List AV) (h:List AB) (fr':List AV) (h':List AB):Prop:=
 ∀(p:Nat) (rd:Option Nat) (fn:FuncId) (id:Nat) (k:List CI) (R:AV->List AB->Prop),AM P p rd fn k fr' h' R->AM P p rd fn (.code (.drw id ds)::k) fr h R
structure Sm where
 C:CO->List AV->List AB->AV->List AB->Prop
 D:List DOp->(List AV->List AB->Prop)->List AV->List AB->Prop
structure Fits (P:Program) (S:Sm):Prop where
 C:Jvz P S.C
 D:∀ {ds:List DOp} {K:List AV->List AB->Prop} {fr:List AV} {h:List AB},S.D ds K fr h->∃fr' h',DrwAt P ds fr h fr' h'/\K fr' h'
variable {S:Sm}
def wpC (P:Program) (S:Sm) (rb:Bool) (p:Nat):CC->(XE->List AV->List AB->Prop)->List AV->List AB->Prop
 | .skip,K,fr,h=>K .n fr h
 | .reg _ ops,K,fr,h=>Xa7 S.C ops (K .n) fr h
 | .drw _ ds,K,fr,h=>S.D ds (K .n) fr h
 | .seq a b,K,fr,h=>wpC P S rb p a (fun x fr h=>match x with | .n=>wpC P S rb p b K fr h|x=>K x fr h) fr h
 | .cond q a b,K,fr,h=>∃t,q.ev fr=.b t/\(t=true->wpC P S rb p a K fr h)/\(t=false->wpC P S rb p b K fr h)
 | .block id a,K,fr,h=>wpC P S rb p a (fun x fr h=>match x with | .n=>K .n fr h | .x i=>if i=id then K .n fr h else K (.x i) fr h | .r=>K .r fr h) fr h
 | .loop a,K,fr,h=>∃I:Nat->List AV->List AB->Prop,(∃n fr' h',Bt P p fr h fr' h'/\I n fr' h')/\∀n fr h,I n fr h->wpC P S rb p a (fun x fr h=>match x with | .n=>∃m fr' h',m<n/\Bt P p fr h fr' h'/\I m fr' h'|x=>K x fr h) fr h
 | .scope a,K,fr,h=>wpC P S rb p a K fr h
 | .exit id,K,fr,h=>K (.x id) fr h
 | .ret,K,fr,h=>K .r fr h
 | .stop,_,_,_=>False
 | .rf q ps a b,K,fr,h=>rb=false/\∃g fst cap X,q.ev fr=.f (.func g) fst cap/\Jms P g (fst++[AV.y h.length]++cap) (h++[AB.lp .ready .n fr ps a b]) X/\∀v h2,X v h2->∃st pd fr1 ps1 a1 b1,h2[h.length]?=some (.lp st pd fr1 ps1 a1 b1)/\st≠.busy/\K pd fr (h2.set h.length .dead)
theorem KuA {C:CO->List AV->List AB->AV->List AB->Prop}:∀(l:List COper) {K K':List AV->List AB->Prop} (_:∀fr h,K fr h->K' fr h) {fr:List AV} {h:List AB},Xa7 C l K fr h->Xa7 C l K' fr h
 | [],_,_,hk,_,_,e=>hk _ _ e
 | o::l,K,K',hk,fr,h,e=>by
  obtain ⟨h1,h2,h3⟩:=e
  refine ⟨h1,fun hw=>?_,fun hw=>KuA l hk (h3 hw)⟩
  have h4:=h2 hw
  split at h4
  ·rename_i x hx
   obtain ⟨hg,cands,e1,e2⟩:=h4
   exact ⟨hg,cands,e1,fun r hr=>KuA l hk (e2 r hr)⟩
  ·obtain ⟨v,h',q1,q2⟩:=h4
   exact ⟨v,h',q1,KuA l hk q2⟩
theorem Qqo {rb:Bool} {p:Nat} (hD:∀ {ds:List DOp} {K K':List AV->List AB->Prop} {fr:List AV} {h:List AB},(∀fr h,K fr h->K' fr h)->S.D ds K fr h->S.D ds K' fr h) (c:CC):∀ {K K':XE->List AV->List AB->Prop} (_:∀x fr h,K x fr h->K' x fr h) {fr:List AV} {h:List AB},wpC P S rb p c K fr h->wpC P S rb p c K' fr h:=by
 induction c with
 | skip=>exact fun hk _ _ e=>hk _ _ _ e
 | reg id ops=>exact fun hk _ _ e=>KuA ops (fun fr h=>hk .n fr h) e
 | drw id ds=>exact fun hk _ _ e=>hD (fun fr h=>hk .n fr h) e
 | seq a b iha ihb =>
  intro K K' hk fr h e
  refine iha (fun x fr h q=>?_) e
  cases x with
  | n=>exact ihb hk q
  | x i=>exact hk _ _ _ q
  | r=>exact hk _ _ _ q
 | cond q a b iha ihb=>exact fun hk _ _ ⟨t,ht,e1,e2⟩=>⟨t,ht,fun z=>iha hk (e1 z),fun z=>ihb hk (e2 z)⟩
 | block id a iha =>
  intro K K' hk fr h e
  refine iha (fun x fr h q=>?_) e
  cases x with
  | n=>exact hk _ _ _ q
  | x i =>
   dsimp only at q ⊢
   split at q
   ·rename_i hi
    rw[if_pos hi]
    exact hk _ _ _ q
   ·rename_i hi
    rw[if_neg hi]
    exact hk _ _ _ q
  | r=>exact hk _ _ _ q
 | loop a iha =>
  intro K K' hk fr h e
  obtain ⟨I,h0,hI⟩:=e
  refine ⟨I,h0,fun n fr h hi=>iha (fun x fr h q=>?_) (hI n fr h hi)⟩
  cases x with
  | n=>exact q
  | x i=>exact hk _ _ _ q
  | r=>exact hk _ _ _ q
 | scope a iha=>exact fun hk _ _ e=>iha hk e
 | exit id=>exact fun hk _ _ e=>hk _ _ _ e
 | ret=>exact fun hk _ _ e=>hk _ _ _ e
 | stop=>exact fun _ _ _ e=>e.elim
 | rf q ps a b _ _ =>
  intro K K' hk fr h e
  obtain ⟨hr,g,fst,cap,X,hq,hcall,hX⟩:=e
  refine ⟨hr,g,fst,cap,X,hq,hcall,fun v h2 q=>?_⟩
  obtain ⟨st,pd,fr1,ps1,a1,b1,hlp,hst,hK⟩:=hX v h2 q
  exact ⟨st,pd,fr1,ps1,a1,b1,hlp,hst,hk _ _ _ hK⟩
theorem zUy (hS:Fits P S) {rb:Bool} {p:Nat} (c:CC):∀ {K:XE->List AV->List AB->Prop} {fr:List AV} {h:List AB},wpC P S rb p c K fr h ->
  ∀(rd:Option Nat) (fn:FuncId) (k:List CI) (R:AV->List AB->Prop),(rd.isSome=rb/\∀id,rd=some id->id<p)->(∀x fr' h',K x fr' h'->Left P p rd fn k R fr' h' x)->AM P p rd fn (.code c::k) fr h R:=by
 induction c with
 | skip=>exact fun {K fr h} e rd fn k R _ g=>AM.go rfl (g .n fr h e)
 | reg id ops =>
  intro K fr h e rd fn k R _ g
  exact AM.go rfl (zLI hS.C ops e p rd fn k R fun fr' h' q=>g .n fr' h' q)
 | drw id ds =>
  intro K fr h e rd fn k R _ g
  obtain ⟨fr',h',q1,q2⟩:=hS.D e
  exact q1 p rd fn id k R (g .n fr' h' q2)
 | seq a b iha ihb =>
  intro K fr h e rd fn k R hr g
  refine AM.go rfl (iha e rd fn (.code b::k) R hr fun x fr1 h1 q=>?_)
  cases x with
  | n=>exact ihb q rd fn k R hr g
  | x i=>exact (g (.x i) fr1 h1 q).pass (fun q=>nomatch q) (fun _ _=>rfl)
  | r=>exact g .r fr1 h1 q
 | cond q a b iha ihb =>
  intro K fr h e rd fn k R hr g
  obtain ⟨t,ht,e1,e2⟩:=e
  cases t with
  | true=>exact AM.go (by simp only[XYj,ht]) (iha (e1 rfl) rd fn k R hr g)
  | false=>exact AM.go (by simp only[XYj,ht]) (ihb (e2 rfl) rd fn k R hr g)
 | block id a iha =>
  intro K fr h e rd fn k R hr g
  refine AM.go rfl (iha e rd fn (.blk id::k) R hr fun x fr1 h1 q=>?_)
  cases x with
  | n=>exact AM.go rfl (g .n fr1 h1 q)
  | x i =>
   dsimp only at q
   by_cases hi:i=id
   ·subst hi
    rw[if_pos rfl]at q
    exact .inl ⟨k,by simp [KYl],g .n fr1 h1 q⟩
   ·rw[if_neg hi]at q
    exact (g (.x i) fr1 h1 q).pass (fun q=>nomatch q) (fun j q=>by cases q;simp [KYl,Ne.symm hi])
  | r=>exact g .r fr1 h1 q
 | loop a iha =>
  intro K fr h e
  obtain ⟨I,⟨n,fr0,h00,hg0,h0⟩,hI⟩:=e
  have main:∀n fr h,I n fr h->∀(rd:Option Nat) (fn:FuncId) (k:List CI) (R:AV->List AB->Prop),(rd.isSome=rb/\∀id,rd=some id->id<p)->(∀x fr' h',K x fr' h'->Left P p rd fn k R fr' h' x)->AM P p rd fn (.code a::.lp a::k) fr h R:=by
   intro n
   induction n using Nat.strongRecOn with
   | ind n ih =>
    intro fr h hin rd fn k R hr g
    refine iha (hI n fr h hin) rd fn (.lp a::k) R hr fun x fr1 h1 q1=>?_
    cases x with
    | n =>
     obtain ⟨m,fr1',h1',hm,hgc,him⟩:=q1
     exact AM.lp (AM.bt hr.2 hgc (ih m hm fr1' h1' him rd fn k R hr g))
    | x i=>exact (g (.x i) fr1 h1 q1).pass (fun q=>nomatch q) (fun _ _=>rfl)
    | r=>exact g .r fr1 h1 q1
  intro rd fn k R hr g
  exact AM.loop (AM.bt hr.2 hg0 (main n fr0 h00 h0 rd fn k R hr g))
 | scope a iha =>
  intro K fr h e rd fn k R hr g
  refine AM.go rfl (iha e rd fn (.sc::k) R hr fun x fr1 h1 q=>?_)
  cases x with
  | n=>exact AM.go rfl (g .n fr1 h1 q)
  | x i=>exact (g (.x i) fr1 h1 q).pass (fun q=>nomatch q) (fun _ _=>rfl)
  | r=>exact g .r fr1 h1 q
 | exit id=>exact fun {K fr h} e rd fn k R _ g=>(g (.x id) fr h e).jump
 | ret=>exact fun {K fr h} e rd fn k R _ g=>g .r fr h e k
 | stop=>exact fun {K fr h} e=>e.elim
 | rf q ps a b _ _ =>
  intro K fr h e rd fn k R hr' gg
  obtain ⟨hr,g,fst,cap,X,hq,hcall,hX⟩:=e
  obtain ⟨f,cf,hf,hcf,am⟩:=hcall
  cases rd with
  | some l=>have:=hr'.1;rw[hr]at this;cases this
  | none =>
   refine AM.rfS hq hf hcf am fun v h2 q=>?_
   obtain ⟨st,pd,fr1,ps1,a1,b1,hlp,hst,hK⟩:=hX v h2 q
   exact ⟨st,pd,fr1,ps1,a1,b1,hlp,hst,(gg pd fr _ hK).jump⟩
def Fin (P:Program) (p:Nat) (res:List RC) (a:AV) (h':List AB):XE->List AV->List AB->Prop
 | .x _,_,_=>False
 | _,fr,h=>∃v,resV fr h res=some v/\Bt P p [v] h [a] h'
theorem FnAt.fin (hS:Fits P S) {g:Nat} {fn:Func} {cf:CF} (hf:P.funcs[g]?=some fn) (hc:J0o P fn=some cf) {args:List AV} {h:List AB} {a:AV} {h':List AB}
  (w:okL (fun i=>decide (i<h.length)) args=true->HOk h->wpC P S false h.length cf.body (Fin P h.length cf.res a h') (args++List.replicate (cf.ntmps-args.length) (.tu [])) h):FnAt P g args h a h':=by
 refine ⟨fn,cf,hf,hc,?_⟩
 intro ρ wo tmps items b cs rs hfn hk hro hpl hi hv hr hmk
 have hargs:okL (fun i=>decide (i<h.length)) args=true:=z7N.2 fun j x hx=>by
  have hj:=(List.getElem?_eq_some_iff.1 hx).1
  obtain ⟨c,_,hc⟩:=hv.get (j:=j) (a:=x) (by rw[List.getElem?_append_left hj];exact hx)
  exact hc.okLe (by rw[hr.len];exact Nat.le_refl _)
 have hh:HOk h:=fun i B hB=>by
  have:=hr.okLen hB
  rw[hr.len]at this
  exact this
 obtain ⟨_,body,hb,hcb,hres,_⟩:=qKr hc
 have am:AM P h.length none g [.code cf.body] (args++List.replicate (cf.ntmps-args.length) (.tu [])) h (fun a' h''=>a'=a/\h''=h'):=by
  refine zUy hS cf.body (w hargs hh) none g [] _ ⟨rfl,fun _ z=>nomatch z⟩ fun x fr1 h1 q1=>?_
  cases x with
  | n =>
   obtain ⟨v,hv,hQ⟩:=q1
   exact AM.post (R:=fun a' h''=>a'=v/\h''=h1) (fun a' h'' ⟨e1,e2⟩=>⟨a,h',by rw[e1,e2];exact hQ,rfl,rfl⟩) (AM.fin hf hres hv ⟨rfl,rfl⟩)
  | x i=>exact q1.elim
  | r =>
   obtain ⟨v,hv,hQ⟩:=q1
   exact fun k'=>AM.post (R:=fun a' h''=>a'=v/\h''=h1) (fun a' h'' ⟨e1,e2⟩=>⟨a,h',by rw[e1,e2];exact hQ,rfl,rfl⟩) (AM.ret hf hres hv ⟨rfl,rfl⟩)
 exact am ρ wo tmps items b cs rs hfn hk hro hpl hi hv hr hmk
end
end
section
open Go.RowKit
section
variable {P:Program}
inductive DRel (P:Program) (len0:Nat):List DOp->Nat->List Pt->List AV->List AB->List AV->List AB->Prop
 | nil (k:Nat) (past:List Pt) (fr:List AV) (h:List AB):DRel P len0 [] k past fr h fr h
 | cons (d:DOp) (l:List DOp) (k:Nat) (past past':List Pt) (fr fr':List AV) (h h1 h':List AB) (v:AV) (pt:Pt) (s:DSx P len0 d k past fr h v h1 past' pt) (r:DRel P len0 l (k+1) past' (put fr d.o.dst v) h1 fr' h'):DRel P len0 (d::l) k past fr h fr' h'
theorem z36 {len0:Nat} {l:List DOp} {k:Nat} {past:List Pt} {fr fr':List AV} {h h':List AB} (r:DRel P len0 l k past fr h fr' h') :
  ∃(S:Nat->St) (V:Nat->AV) (PT:Nat->Pt),S 0=⟨fr,h,past⟩/\(∀j d,l[j]?=some d->DSx P len0 d (k+j) (S j).past (S j).fr (S j).h (V j) (S (j+1)).h (S (j+1)).past (PT j)/\(S (j+1)).fr=put (S j).fr d.o.dst (V j)) /\
   (S l.length).fr=fr'/\(S l.length).h=h':=by
 induction r with
 | nil k past fr h=>exact ⟨fun _=>⟨fr,h,past⟩,fun _=>.tu [],fun _=>⟨0,0,0,[],[]⟩,rfl,fun j d q=>by simp at q,rfl,rfl⟩
 | cons d l k past past' fr fr' h h1 h' v pt s _ ih =>
  obtain ⟨S,V,PT,s0,s1,s2,s3⟩:=ih
  refine ⟨fun j=>Nat.casesOn j ⟨fr,h,past⟩ S,fun j=>Nat.casesOn j v V,fun j=>Nat.casesOn j pt PT,rfl,fun j d' hd=>?_,s2,s3⟩
  cases j with
  | zero =>
   cases hd
   refine ⟨?_,?_⟩
   ·change DSx P len0 d (k+0) past fr h v (S 0).h (S 0).past pt
    rw[s0]
    exact s
   ·change (S 0).fr=put fr d.o.dst v
    rw[s0]
  | succ j =>
   have:=s1 j d' (by simpa using hd)
   rw[show k+1+j=k+(j+1) by omega]at this
   exact this
theorem XOl {ops:Array Oper} {l:List (COper×List Nat)} (hl:qmN P ops (List.range ops.size)=some l) (hok:qXC [] (clos [] l) (l.map (·.2))=true)
  {fr fr':List AV} {h h':List AB} (e:DRel P h.length (clos [] l) 0 [] fr h fr' h') :
  ∃(DS:Nat->DOp) (FR:Nat->List AV) (H:Nat->List AB) (V:Nat->AV) (PT:Nat->Pt),Can P ops ops.size h.length DS FR H V PT/\FR 0=fr/\H 0=h/\FR ops.size=fr'/\H ops.size=h':=by
 obtain ⟨S,V,PT,s0,s1,s2,s3⟩:=z36 e
 obtain ⟨c1,c2⟩:=qjF hl
 rw[List.length_range]at c1
 have hlen:(clos [] l).length=ops.size:=by rw[ZeO,c1]
 rw[hlen]at s2 s3
 let DS:Nat->DOp:=fun k=>((clos [] l)[k]?).getD ⟨⟨none,none,.stop⟩,0,0⟩
 have dget:∀k,k<ops.size->(clos [] l)[k]?=some (DS k):=fun k hk=>by
  simp only[DS]
  rw[List.getElem?_eq_getElem (by omega)]
  rfl
 have K:∀k,k<ops.size->∃o,ops[k]?=some o/\YXt P ops o=some (DS k).o/\(DS k).us=K89 (DS k).o.tmps/\l[k]?=some ((DS k).o,zqT o) /\
   (DS k).anc=(zqT o).foldl (fun m x=>Nat.lor m (Nat.lor (Nat.shiftLeft 1 x) (([]++((clos [] l).map DOp.anc).take k).getD x 0))) 0:=fun k hk=>by
  obtain ⟨c,deps,h1,h2,h3,h4⟩:=YtZ l [] k (DS k) (dget k hk)
  obtain ⟨i,o,h5,h6,h7,rfl⟩:=c2 k c deps h1
  rw[List.getElem?_range hk]at h5
  cases h5
  exact ⟨o,h6,by rw[h2];exact h7,by rw[h2];exact h3,by rw[h2];exact h1,h4⟩
 have T1:∀k,k<ops.size->DSx P h.length (DS k) k (S k).past (S k).fr (S k).h (V k) (S (k+1)).h (S (k+1)).past (PT k)/\(S (k+1)).fr=put (S k).fr (DS k).o.dst (V k):=fun k hk=>by
  have:=s1 k (DS k) (dget k hk)
  rw[Nat.zero_add]at this
  exact this
 have hdr:=QUW _ _ _ hok
 have D1:∀k,k<ops.size->∀o,ops[k]?=some o->(∀x∈zqT o,bit x (DS k).anc=true)/\(DS k).anc<2 ^ k/\zif (DS k) 0 ((clos [] l).take k)=true:=fun k hk o ho=>by
  obtain ⟨o',h1,_,_,h4,_⟩:=K k hk
  rw[h1]at ho
  cases ho
  have:=hdr.2 k (DS k) (zqT o) (dget k hk) (by rw[List.getElem?_map,h4];rfl)
  simpa using this
 have lt:∀k,k<ops.size->∀j,bit j (DS k).anc=true->j<k:=fun k hk j hj=>by
  obtain ⟨o',h1,_⟩:=K k hk
  exact qRw (D1 k hk o' h1).2.1 hj
 have past:∀k,k<=ops.size->(∀p∈(S k).past,∃m,m<k/\p=PT m)/\(∀m,m<k->PT m∈(S k).past\/((PT m).rs=[]/\(PT m).ws=[]/\(PT m).lo=0/\(PT m).hi=0)):=by
  intro k
  induction k with
  | zero =>
   intro _
   rw[s0]
   exact ⟨fun p hp=>by simp at hp,fun m hm=>by omega⟩
  | succ k ih =>
   intro hk
   obtain ⟨i1,i2⟩:=ih (by omega)
   have hd:=(T1 k (by omega)).1
   rcases hd.pp with q|⟨q,r⟩
   ·rw[q]
    refine ⟨fun p hp=>?_,fun m hm=>?_⟩
    ·rcases List.mem_cons.1 hp with rfl|hp
     ·exact ⟨k,by omega,rfl⟩
     ·obtain ⟨m,hm,rfl⟩:=i1 p hp
      exact ⟨m,by omega,rfl⟩
    ·by_cases e:m=k
     ·subst e
      exact .inl (List.mem_cons_self ..)
     ·exact (i2 m (by omega)).imp (List.mem_cons_of_mem _) (fun x=>x)
   ·rw[q]
    refine ⟨fun p hp=>?_,fun m hm=>?_⟩
    ·obtain ⟨m,hm,rfl⟩:=i1 p hp
     exact ⟨m,by omega,rfl⟩
    ·by_cases e:m=k
     ·subst e
      exact .inr r
     ·exact i2 m (by omega)
 have pk:∀k,k<ops.size->(PT k).k=k:=fun k hk=>(T1 k hk).1.pk
 have own:∀k,k<ops.size->∀id,qOk h.length (PT k).lo (PT k).hi (DS k).anc (S k).past id=true->ownQ h.length PT (fun k=>(DS k).anc) k id=true:=fun k hk id hq=>by
  simp only[qOk,Bool.or_eq_true,Bool.and_eq_true,Nat.blt_eq,Nat.ble_eq,List.any_eq_true]at hq
  simp only[ownQ,decide_eq_true_eq]
  rcases hq with (hq|hq)|⟨p,hp,hq⟩
  ·exact .inl hq
  ·exact .inr ⟨k,Nat.le_refl _,.inl rfl,hq.1,hq.2⟩
  ·obtain ⟨m,hm,rfl⟩:=(past k (by omega)).1 p hp
   rw[pk m (by omega)]at hq
   exact .inr ⟨m,by omega,.inr hq.1.1,hq.1.2,hq.2⟩
 refine ⟨DS,fun k=>(S k).fr,fun k=>(S k).h,V,PT,⟨rfl,fun k hk=>(T1 k hk).2,fun k hk=>?_,by simp [s0],fun k hk=>?_,fun k hk i hi=>?_,fun k hk i hi=>?_,fun j k hjk hk=>?_,fun k hk=>?_,fun k hk i B hi hB=>?_,fun j k hjk hk=>?_,lt,fun k hk o ho=>(D1 k hk o ho).1,fun k hk o ho m hm=>?_,fun k hk=>?_⟩,by simp [s0],by simp [s0],s2,s3⟩
 ·rcases (T1 k hk).1.cas with ⟨q,_⟩|⟨_,_,_,_,G,q,q2,_⟩
  ·rw[q];exact Nat.le_refl _
  ·rw[q,KVe];omega
 ·rcases (T1 k hk).1.cas with ⟨_,_,q,q',_⟩|⟨q,q',_⟩
  ·exact .inl ⟨q,q'⟩
  ·exact .inr ⟨q,q'⟩
 ·rcases (T1 k hk).1.cas with ⟨q,_⟩|⟨q,q',_,_,G,hG,q2,_⟩
  ·rw[q]
  ·have hn:=K3K.1 hi
   rw[hG,Xwm,Nat.zero_add,if_neg hn.1]
   split
   ·rfl
   ·rename_i hlt
    rw[hG,KVe]at q'
    rw[q,q']at hn
    have h1:G.length<=i:=by have:=hn.2;omega
    rw[List.getElem?_eq_none h1,List.getElem?_eq_none (by omega)]
 ·rcases (T1 k hk).1.cas with ⟨_,q,_,_,q',_⟩|⟨_,_,_,q,_⟩
  ·rw[q,List.append_nil]at hi
   exact q' i hi
  ·obtain ⟨B,hB,_⟩:=q i hi
   exact (List.getElem?_eq_some_iff.1 hB).1
 ·rcases (past k (by omega)).2 j hjk with q|⟨q1,q2,q3,q4⟩
  ·have:=(T1 k hk).1.ind _ q
   unfold QmL at this
   rw[pk j (by omega)]at this
   split at this
   ·rename_i hb
    exact .inl hb
   ·simp only[Bool.and_eq_true,List.all_eq_true,Bool.not_eq_true']at this
    refine .inr ⟨fun i hi=>this.1 i hi,fun i hi hm=>?_⟩
    have:=this.2 i hi
    rw[qS5.2 hm]at this
    cases this
  ·refine .inr ⟨fun i _=>K3K.2 ⟨by rw[q2];simp,by omega⟩,fun i _ hm=>?_⟩
   rw[q1,q2]at hm
   simp at hm
 ·exact AV.ok_mono (own k hk) _ (T1 k hk).1.vok
 ·rcases (T1 k hk).1.cas with ⟨_,q,q1,q2,_⟩|⟨q,q',_,hrw,G,hG,q2,q3,q4,_⟩
  ·exfalso
   rcases ZPE.1 hi with u|u
   ·rw[q]at u;simp at u
   ·omega
  ·refine AB.ok_mono (own k hk) B ?_
   rw[hG,Xwm,Nat.zero_add]at hB
   by_cases hw:i∈(PT k).ws
   ·have:=q3 i hw
    have hlt:i<(S k).h.length:=by
     obtain ⟨B',hB',_⟩:=hrw i (List.mem_append_right _ hw)
     exact (List.getElem?_eq_some_iff.1 hB').1
    rw[if_pos hlt,if_pos hw]at hB
    cases hB
    exact this
   ·have hr:(PT k).lo<=i/\i<(PT k).hi:=(ZPE.1 hi).resolve_left hw
    rw[q]at hr
    rw[if_neg (by omega)]at hB
    refine q4 B (List.mem_of_getElem? (i:=i-(S k).h.length) ?_)
    rw[List.getElem?_drop,show (S k).h.length+(i-(S k).h.length)=i by omega]
    exact hB
 ·obtain ⟨o,ho,_⟩:=K k hk
  have:=Zbo _ _ (D1 k hk o ho).2.2 j (DS j) (by rw[List.getElem?_take,if_pos hjk];exact dget j (by omega))
  rw[Nat.zero_add]at this
  exact this
 ·obtain ⟨o',ho',_,_,_,h5⟩:=K k hk
  rw[ho']at ho
  cases ho
  rw[h5,q1u,KEx]at hm
  rcases hm with hm|⟨x,hx,hm⟩
  ·cases hm
  ·refine ⟨x,hx,hm.imp (fun q=>q) fun q=>?_⟩
   rw[List.nil_append,List.getD_eq_getElem?_getD,List.getElem?_take]at q
   split at q
   ·rename_i hxk
    rw[List.getElem?_map,dget x (by omega)]at q
    exact q
   ·rw[Option.getD_none,KEx]at q
    cases q
 ·obtain ⟨o,ho,hc,hus,_⟩:=K k hk
  have hmem:∀ {frx:List AV},(∀t,bit t (DS k).us=true->nthA frx t=nthA (S k).fr t)->∀t∈(DS k).o.tmps,nthA frx t=nthA (S k).fr t:=fun {frx} hx t ht=>hx t (by rw[hus];exact (Jhf t _).2 ht)
  rcases (T1 k hk).1.cas with ⟨q,q1,_,q2,q3,q4⟩|⟨q1,q2,q3,q4,G,hG,q5,q6,q7,q8⟩
  ·exact .inl ⟨q1,q2,fun frx hx hf hh=>q4 frx hx (hmem hf) hh ops k o ho hc⟩
  ·refine .inr ⟨q1,q2,fun t ht=>?_,q4,G,?_,fun i hi=>?_,fun frx hf=>q8 frx (hmem hf) ops k o ho hc⟩
   ·rw[hus,Jhf]at ht
    exact q3 t ht
   ·rw[hG,KVe];omega
   ·rw[hG,Xwm,Nat.zero_add]
    by_cases hw:i∈(PT k).ws
    ·have hlt:i<(S k).h.length:=by
      obtain ⟨B',hB',_⟩:=q4 i (List.mem_append_right _ hw)
      exact (List.getElem?_eq_some_iff.1 hB').1
     rw[if_pos hlt,if_pos hw,List.getElem?_eq_getElem (by omega)]
     rfl
    ·have hr:(PT k).lo<=i/\i<(PT k).hi:=(ZPE.1 hi).resolve_left hw
     rw[q1]at hr
     rw[if_neg (by omega)]
theorem AM.drwR (hm:P.follows .mixedOrders=true) {p:Nat} {rd:Option Nat} {fn:FuncId} {id:Nat} {ds:List DOp} {k:List CI} {fr fr':List AV} {h h':List AB} {R:AV->List AB->Prop}
  (e:DRel P h.length ds 0 [] fr h fr' h') (g:AM P p rd fn k fr' h' R):AM P p rd fn (.code (.drw id ds)::k) fr h R:=by
 intro ρ w tmps items b cs ms hf hk hro hp hi hv hr hmk
 obtain ⟨c',its,rfl,hc,hi2⟩:=hi.code
 obtain ⟨ops,l,rfl,hl,rfl,hok⟩:=qIN hc
 obtain ⟨DS,FR,H,V,PT,C,rfl,rfl,rfl,rfl⟩:=XOl hl hok e
 have hlen:=C.mono (j:=0) (k:=ops.size) (by omega) (Nat.le_refl _)
 obtain ⟨p1,p2,p3⟩:=hr.pad ((H ops.size).length-(H 0).length) (Nat.le_refl _)
 have f0:∀(t:Nat) (a:AV),(FR 0)[t]?=some a->a.ok (fun i=>decide (i<(H 0).length))=true:=fun t a ha=>by
  obtain ⟨c,_,hc⟩:=hv.get ha
  exact hc.okLe (by rw[hr.len];exact Nat.le_refl _)
 have h0:∀(i:Nat) (B:AB),(H 0)[i]?=some B->B.ok (fun i=>decide (i<(H 0).length))=true:=fun i B hB=>by
  have:=hr.okLen hB
  rw[hr.len]at this
  exact this
 have zero:∀j,(Array.replicate ops.size false).getD j false=false:=fun j=>by
  rw[Array.getD_eq_getD_getElem?,Array.getElem?_replicate]
  split <;> rfl
 have z1:∀m,frD DS FR V (fun j=>(Array.replicate ops.size false).getD j false) m=FR 0:=by
  intro m
  induction m with
  | zero=>rfl
  | succ m ih =>
   simp only[frD,zero m,Bool.false_eq_true,if_false]
   exact ih
 have z2:∀i m,hD H PT (fun j=>(Array.replicate ops.size false).getD j false) i m=(H 0)[i]?:=by
  intro i m
  induction m with
  | zero=>rfl
  | succ m ih =>
   simp only[hD,zero m,Bool.false_and,Bool.false_eq_true,if_false]
   exact ih
 have z3:hL H PT ops.size (fun j=>(Array.replicate ops.size false).getD j false)=H 0++List.replicate ((H ops.size).length-(H 0).length) .dead:=by
  refine List.ext_getElem? fun i=>?_
  rw[Kaw,z2]
  by_cases h1:i<(H 0).length
  ·rw[if_pos (by omega),List.getElem?_append_left h1,List.getElem?_eq_getElem h1]
   rfl
  ·rw[List.getElem?_append_right (by omega),List.getElem?_replicate,List.getElem?_eq_none (by omega:(H 0).length<=i)]
   by_cases h2:i<(H ops.size).length
   ·rw[if_pos h2,if_pos (by omega)]
    rfl
   ·rw[if_neg h2,if_neg (by omega)]
 have p1':Rel (KC P) (ρ++List.replicate ((H ops.size).length-(H 0).length) (0,0,0)) (hL H PT ops.size (fun j=>(Array.replicate ops.size false).getD j false)) { w with drawn:=w.drawn+1 }:=by
  rw[z3]
  exact p1.heap rfl
 obtain ⟨tmps',w',ρ',st,v',r',e'⟩:=C.sched f0 h0 (Nat.le_refl _) its cs (ms.map mkD) hk ops.size (w.tape w.drawn (.order b.fn id)) (Array.replicate ops.size false) _ _ tmps (by simp) (by
  unfold unL
  refine Nat.le_trans (List.length_filter_le _ _) ?_
  simp) (fun j hj hd=>by
  dsimp only at hd
  rw[zero j]at hd
  cases hd) (by rw[z1];exact hv.ext p3) p1'
 rw[z3]at e'
 have eall:=(p2.trans (EffP.drewn _ _ _ w)).trans e'
 have hend:=g ρ' w' tmps' its b cs ms hf hk (hro.ext (eall.ext hr)) (by omega) hi2 v' r' (hmk.eff eall)
 refine Ret.steps ((Steps.one stepR_region_draw).trans ?_) ((hend.mono fun v w'' q=>q.from (eall.weak hp) (fun r hr=>.inl hr)))
 have hsch:Region.schedule (P.follows .mixedOrders) ops (w.tape w.drawn (.order b.fn id))=Region.linearise.go .any ops ops.size (w.tape w.drawn (.order b.fn id)) (Array.replicate ops.size false) []:=by
  simp only[Region.schedule,hm,Bool.true_or,if_true]
  rfl
 rw[hsch]
 exact st.trans (.one stepR_region_end)
theorem OpAt.congr {op:CO} {fr frx:List AV} {h h':List AB} {v:AV} (hx:∀t∈op.tmps,nthA frx t=nthA fr t) (e:OpAt P op fr h v h'):OpAt P op frx h v h':=by
 have one:∀x:Opd,(∀t∈x.tmps,nthA frx t=nthA fr t)->Opd.ev frx x=Opd.ev fr x:=fun x q=>by
  cases x with
  | t n =>
   have:=q n (by simp [Opd.tmps])
   rw[QCq,QCq]at this
   exact this
  | c v=>rfl
 unfold OpAt at e ⊢
 split at e
 ·rename_i f args hcc
  have hop:=z1g hcc
  rw[hop]at hx
  rw[one f (fun t q=>hx t (List.mem_append_left _ q)),List.map_congr_left fun x hxm=>one x fun t q=>hx t (List.mem_append_right _ (List.mem_flatMap.2 ⟨x,hxm,q⟩))]
  exact e
 ·rename_i hcc
  rw[<-e]
  refine zQS h op (ev:=Opd.ev frx) (ev':=Opd.ev fr) (fun v=>rfl) fun t ht=>?_
  have:=hx t ht
  rw[QCq,QCq]at this
  exact this
def Qnf (C:CO->List AV->List AB->AV->List AB->Prop) (len0:Nat):List DOp->Nat->List Pt->(List AV->List AB->Prop)->List AV->List AB->Prop
 | [],_,_,K,fr,h=>K fr h
 | d::l,k,past,K,fr,h=>qdw fr d.o.guard=true/\(zEb fr d.o.guard=false->Qnf C len0 l (k+1) past K (put fr d.o.dst (.tu [])) h) /\
   (zEb fr d.o.guard=true ->
    (d.o.op.mk=.free/\∃v,d.o.op.run (Opd.ev fr) h=some (v,h)/\v.ok (qOk len0 0 0 d.anc past)=true/\Qnf C len0 l (k+1) past K (put fr d.o.dst v) h) \/
    (∃n x v,d.o.op=.ld n x/\ldV h n (x.ev fr)=some v/\past.all (QmL d.anc (idOf (x.ev fr)) [])=true/\v.ok (qOk len0 0 0 d.anc past)=true/\Qnf C len0 l (k+1) (⟨k,0,0,idOf (x.ev fr),[]⟩::past) K (put fr d.o.dst v) h) \/
    (∃rs ws v G,(∀t∈d.o.op.tmps,(nthA fr t).ok (fun i=>decide (i<h.length))=true)/\(∀i,i∈rs++ws->∃B,h[i]?=some B/\B.ok (fun i=>decide (i<h.length))=true)/\past.all (QmL d.anc rs ws)=true /\
     C d.o.op fr (qRB rs ws 0 h) v G/\h.length<=G.length/\v.ok (qOk len0 h.length G.length d.anc past)=true/\(∀id∈ws,((G[id]?).getD .dead).ok (qOk len0 h.length G.length d.anc past)=true) /\
     (∀B∈G.drop h.length,B.ok (qOk len0 h.length G.length d.anc past)=true)/\Qnf C len0 l (k+1) (⟨k,h.length,G.length,rs,ws⟩::past) K (put fr d.o.dst v) (JkA ws G 0 h)))
variable {C:CO->List AV->List AB->AV->List AB->Prop}
theorem KRQ (hC:Jvz P C) {len0:Nat}:∀(l:List DOp) {k:Nat} {past:List Pt} {K:List AV->List AB->Prop} {fr:List AV} {h:List AB},Qnf C len0 l k past K fr h->∃fr' h',K fr' h'/\DRel P len0 l k past fr h fr' h'
 | [],k,past,K,fr,h,e=>⟨fr,h,e,.nil k past fr h⟩
 | d::l,k,past,K,fr,h,e=>by
  have triv:∀p:Pt,QmL d.anc [] [] p=true:=fun p=>by
   unfold QmL
   split <;> simp
  obtain ⟨hk,e0,e1⟩:=e
  have gx:∀ {frx:List AV},(∀t∈d.o.tmps,nthA frx t=nthA fr t)->qdw frx d.o.guard=qdw fr d.o.guard/\zEb frx d.o.guard=zEb fr d.o.guard:=fun {frx} hx=>by
   cases hg:d.o.guard with
   | none=>exact ⟨rfl,rfl⟩
   | some p =>
    obtain ⟨t,w⟩:=p
    have:=hx t (by unfold COper.tmps;rw[hg];exact List.mem_append_left _ (List.mem_singleton.2 rfl))
    rw[qGQ,qGQ]at this
    simp only[qdw,zEb]
    cases h1:frx[t]? with
    | none =>
     cases h2:fr[t]? with
     | none=>exact ⟨rfl,rfl⟩
     | some b =>
      rw[h1,h2]at this
      simp only[Option.getD_none,Option.getD_some]at this
      rw[<-this]
      exact ⟨rfl,rfl⟩
    | some a =>
     cases h2:fr[t]? with
     | none =>
      rw[h1,h2]at this
      simp only[Option.getD_none,Option.getD_some]at this
      rw[this]
      exact ⟨rfl,rfl⟩
     | some b =>
      rw[h1,h2]at this
      simp only[Option.getD_some]at this
      rw[this]
      exact ⟨rfl,rfl⟩
  have opm:∀ {t:Nat},t∈d.o.op.tmps->t∈d.o.tmps:=fun {t} ht=>List.mem_append_right _ ht
  cases hw:zEb fr d.o.guard with
  | false =>
   obtain ⟨fr',h',q1,q2⟩:=KRQ hC l (e0 hw)
   exact ⟨fr',h',q1,.cons d l k past past fr fr' h h h' (.tu []) ⟨k,0,0,[],[]⟩ ⟨rfl,.inr ⟨rfl,rfl,rfl,rfl,rfl⟩,fun p _=>triv p,rfl,.inl ⟨rfl,rfl,rfl,rfl,fun i hi=>by simp at hi,fun frx hx hfx _ ops i o ho hc=>J7n ho hc (by rw[(gx hfx).1];exact hk) (by rw[(gx hfx).2];exact hw)⟩⟩ q2⟩
  | true =>
   rcases e1 hw with ⟨hm,v,hr,hok,e2⟩|⟨n,x,v,hop,hr,hall,hok,e2⟩|⟨rs,ws,v,G,hus,hblk,hall,hat,hle,hok,hws,hnew,e2⟩
   ·obtain ⟨fr',h',q1,q2⟩:=KRQ hC l e2
    refine ⟨fr',h',q1,.cons d l k past past fr fr' h h h' v ⟨k,0,0,[],[]⟩ ⟨rfl,.inr ⟨rfl,rfl,rfl,rfl,rfl⟩,fun p _=>triv p,hok,.inl ⟨rfl,rfl,rfl,rfl,fun i hi=>by simp at hi,fun frx hx hfx _ ops i o ho hc=>?_⟩⟩ q2⟩
    have hc0:d.o.op.isCall=none:=by
     cases hop:d.o.op <;> rw[hop]at hm <;> first|(cases hm;done)|rfl
    have hat:OpAt P d.o.op fr hx v hx:=by
     unfold OpAt
     rw[hc0]
     dsimp only
     rw[X32 hm]at hr ⊢
     obtain ⟨r,hr1,hr2⟩:=Option.map_eq_some_iff.1 hr
     cases hr2
     rw[hr1]
     rfl
    exact XDZ ho hc (by rw[(gx hfx).1];exact hk) (by rw[(gx hfx).2];exact hw) (hat.congr fun t ht=>hfx t (opm ht))
   ·obtain ⟨fr',h',q1,q2⟩:=KRQ hC l e2
    refine ⟨fr',h',q1,.cons d l k past _ fr fr' h h h' v ⟨k,0,0,idOf (x.ev fr),[]⟩ ⟨rfl,.inl rfl,fun p hp=>List.all_eq_true.1 hall p hp,hok,.inl ⟨rfl,rfl,rfl,rfl,fun i hi=>?_,fun frx hx hfx hhx ops i o ho hc=>?_⟩⟩ q2⟩
    ·have key:∀ {id:Nat} {xs:List AV},zZU h id=some xs->id<h.length:=fun {id xs} q=>by
      unfold zZU at q
      split at q
      ·rename_i h1
       exact (List.getElem?_eq_some_iff.1 h1).1
      ·cases q
     dsimp only at hi
     cases hx:x.ev fr with
     | p id off =>
      rw[hx]at hi hr
      obtain rfl:i=id:=by simpa [idOf] using hi
      cases n <;> simp only[ldV]at hr <;> obtain ⟨xs,hxs,_⟩:=oQ.1 hr <;> exact key hxs
     | _=>rw[hx]at hr;cases n <;> cases hr
    ·have hat:OpAt P d.o.op fr hx v hx:=by
      unfold OpAt
      rw[hop]
      simp only[CO.isCall,CO.run]
      rw[QxO hhx,hr]
      rfl
     exact XDZ ho hc (by rw[(gx hfx).1];exact hk) (by rw[(gx hfx).2];exact hw) (hat.congr fun t ht=>hfx t (opm ht))
   ·obtain ⟨fr',h',q1,q2⟩:=KRQ hC l e2
    refine ⟨fr',h',q1,.cons d l k past _ fr fr' h _ h' v ⟨k,h.length,G.length,rs,ws⟩ ⟨rfl,.inl rfl,fun p hp=>List.all_eq_true.1 hall p hp,hok,.inr ⟨rfl,?_,fun t ht=>?_,hblk,G,rfl,hle,hws,hnew,fun frx hfx ops i o ho hc=>XDZ ho hc (by rw[(gx hfx).1];exact hk) (by rw[(gx hfx).2];exact hw) ((hC hat).congr fun t ht=>hfx t (opm ht))⟩⟩ q2⟩
    ·simp only[KVe]
     omega
    ·unfold COper.tmps at ht
     rcases List.mem_append.1 ht with ht|ht
     ·cases hgd:d.o.guard with
      | none=>rw[hgd]at ht;simp at ht
      | some p =>
       obtain ⟨u,w⟩:=p
       rw[hgd]at ht hw
       obtain rfl:t=u:=by simpa using ht
       simp only[zEb]at hw
       rw[qGQ]
       split at hw
       ·rename_i x hx
        rw[hx]
        simp [AV.ok]
       ·cases hw
     ·exact hus t ht
theorem DrwAt.of (hC:Jvz P C) (hm:P.follows .mixedOrders=true) {ds:List DOp} {K:List AV->List AB->Prop} {fr:List AV} {h:List AB} (w:Qnf C h.length ds 0 [] K fr h):∃fr' h',DrwAt P ds fr h fr' h'/\K fr' h':=
 let ⟨fr',h',q1,q2⟩:=KRQ hC ds w
 ⟨fr',h',fun _ _ _ _ _ _ g=>AM.drwR hm q2 g,q1⟩
end
end
end Go.Proofs.YtekeoichmdiiiaaGreat
