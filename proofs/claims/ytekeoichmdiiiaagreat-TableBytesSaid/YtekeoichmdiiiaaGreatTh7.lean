/- Part 7 of what the laws' proofs rest on. No condition. -/
import Derived.RangeFuncRecord
import Derived.Test.YtekeoichmdiiiaaGreatTh6
set_option linter.all false
namespace Go.Proofs.YtekeoichmdiiiaaGreat
section
open Go.RowKit
section
variable {P:Program}
theorem qIN {c':Code} {c:CC} (h:Qfa P c'=some c):match c with
  | .skip=>c'=.skip\/∃l,c'=.label l
  | .reg id ops=>∃o,c'=.region id o false/\cOps P o (List.range o.size)=some ops
  | .drw id ds=>∃o l,c'=.region id o true/\qmN P o (List.range o.size)=some l/\ds=clos [] l/\qXC [] ds (l.map (·.2))=true
  | .seq a b=>∃x y,c'=.seq x y/\Qfa P x=some a/\Qfa P y=some b
  | .cond q a b=>∃o x y,c'=.cond o x y/\cOpd o=some q/\Qfa P x=some a/\Qfa P y=some b
  | .block id a=>∃x,c'=.block id x/\Qfa P x=some a
  | .loop a=>∃x,c'=.loop x/\Qfa P x=some a
  | .scope a=>∃x,c'=.scope x/\Qfa P x=some a
  | .exit id=>c'=.exit id
  | .ret=>c'=.ret
  | .stop=>True
  | .rf g ps a b=>∃o qs x y,c'=.rangeFunc o qs x y/\cOpd o=some g/\qs.toList=ps/\Qfa P x=some a/\Qfa P y=some b:=by
 cases c' with
 | skip=>cases h;exact .inl rfl
 | label l=>cases h;exact .inr ⟨l,rfl⟩
 | region id ops d =>
  simp only[Qfa]at h
  cases d with
  | true =>
   simp only[if_true]at h
   obtain ⟨l,hl,h⟩:=Option.map_eq_some_iff.1 h
   split at h
   ·rename_i hok
    cases h
    exact ⟨ops,l,rfl,hl,rfl,hok⟩
   ·cases h;trivial
  | false =>
   simp only[Bool.false_eq_true,if_false]at h
   obtain ⟨l,hl,rfl⟩:=Option.map_eq_some_iff.1 h
   exact ⟨ops,rfl,hl⟩
 | seq a b =>
  simp only[Qfa]at h
  obtain ⟨x,hx,h⟩:=oQ.1 h
  obtain ⟨y,hy,rfl⟩:=Option.map_eq_some_iff.1 h
  exact ⟨a,b,rfl,hx,hy⟩
 | cond q a b =>
  simp only[Qfa]at h
  split at h
  ·cases h;trivial
  ·rename_i o ho
   obtain ⟨x,hx,h⟩:=oQ.1 h
   obtain ⟨y,hy,rfl⟩:=Option.map_eq_some_iff.1 h
   exact ⟨q,a,b,rfl,ho,hx,hy⟩
 | rangeFunc g ps a b =>
  simp only[Qfa]at h
  split at h
  ·cases h;trivial
  ·rename_i o ho
   obtain ⟨x,hx,h⟩:=oQ.1 h
   obtain ⟨y,hy,rfl⟩:=Option.map_eq_some_iff.1 h
   exact ⟨g,ps,a,b,rfl,ho,rfl,hx,hy⟩
 | block id a =>
  simp only[Qfa]at h
  obtain ⟨x,hx,rfl⟩:=Option.map_eq_some_iff.1 h
  exact ⟨a,rfl,hx⟩
 | loop a =>
  simp only[Qfa]at h
  obtain ⟨x,hx,rfl⟩:=Option.map_eq_some_iff.1 h
  exact ⟨a,rfl,hx⟩
 | scope a =>
  simp only[Qfa]at h
  obtain ⟨x,hx,rfl⟩:=Option.map_eq_some_iff.1 h
  exact ⟨a,rfl,hx⟩
 | exit id=>cases h;rfl
 | ret=>cases h;rfl
 | _=>cases h;trivial
theorem IRs.code {c:CC} {k:List CI} {items:List Item} (h:IRs P (.code c::k) items):∃c' its,items=.code c'::its/\Qfa P c'=some c/\IRs P k its:=by
 cases items with
 | nil=>exact h.elim
 | cons i its =>
  obtain ⟨h1,h2⟩:=h
  cases i with
  | code c'=>exact ⟨c',its,rfl,h1,h2⟩
  | _=>exact h1.elim
theorem IRs.blk {id:Nat} {k:List CI} {items:List Item} (h:IRs P (.blk id::k) items):∃its,items=.inBlock id::its/\IRs P k its:=by
 cases items with
 | nil=>exact h.elim
 | cons i its =>
  obtain ⟨h1,h2⟩:=h
  cases i with
  | inBlock id' =>
   cases h1
   exact ⟨its,rfl,h2⟩
  | _=>exact h1.elim
theorem IRs.lp {c:CC} {k:List CI} {items:List Item} (h:IRs P (.lp c::k) items):∃c' its,items=.inLoop c'::its/\Qfa P c'=some c/\IRs P k its:=by
 cases items with
 | nil=>exact h.elim
 | cons i its =>
  obtain ⟨h1,h2⟩:=h
  cases i with
  | inLoop c'=>exact ⟨c',its,rfl,h1,h2⟩
  | _=>exact h1.elim
theorem IRs.sc {k:List CI} {items:List Item} (h:IRs P (.sc::k) items):∃c' its,items=.inScope c'::its/\IRs P k its:=by
 cases items with
 | nil=>exact h.elim
 | cons i its =>
  obtain ⟨h1,h2⟩:=h
  cases i with
  | inScope c'=>exact ⟨c',its,rfl,h2⟩
  | _=>exact h1.elim
theorem IRs.ops {l:List COper} {k:List CI} {items:List Item} (h:IRs P (.ops l::k) items):∃ops is its,items=.inRegion ops is::its/\cOps P ops is=some l/\IRs P k its:=by
 cases items with
 | nil=>exact h.elim
 | cons i its =>
  obtain ⟨h1,h2⟩:=h
  cases i with
  | inRegion ops is=>exact ⟨ops,is,its,rfl,h1,h2⟩
  | _=>exact h1.elim
theorem IRs.br {k:List CI} {items:List Item} (h:IRs P (.br::k) items):∃its,items=.beginRound::its/\IRs P k its:=by
 cases items with
 | nil=>exact h.elim
 | cons i its =>
  obtain ⟨h1,h2⟩:=h
  cases i with
  | beginRound=>exact ⟨its,rfl,h2⟩
  | _=>exact h1.elim
theorem IRs.mbr {k:List CI} {its:List Item} (g:IRs P k its):IRs P (.br::k) (.beginRound::its):=⟨trivial,g⟩
theorem IRs.mcode {a:CC} {x:Code} {k:List CI} {its:List Item} (h:Qfa P x=some a) (g:IRs P k its):IRs P (.code a::k) (.code x::its):=⟨h,g⟩
theorem IRs.mlp {a:CC} {x:Code} {k:List CI} {its:List Item} (h:Qfa P x=some a) (g:IRs P k its):IRs P (.lp a::k) (.inLoop x::its):=⟨h,g⟩
theorem IRs.mblk (id:Nat) {k:List CI} {its:List Item} (g:IRs P k its):IRs P (.blk id::k) (.inBlock id::its):=⟨rfl,g⟩
theorem IRs.msc (x:Code) {k:List CI} {its:List Item} (g:IRs P k its):IRs P (.sc::k) (.inScope x::its):=⟨trivial,g⟩
theorem IRs.mops {l:List COper} {ops:Array Oper} {is:List Nat} {k:List CI} {its:List Item} (h:cOps P ops is=some l) (g:IRs P k its):IRs P (.ops l::k) (.inRegion ops is::its):=⟨h,g⟩
def KYl (id:Nat):List CI->Option (List CI)
 | .blk id'::k=>if id'=id then some k else KYl id k
 | _::k=>KYl id k
 | []=>none
theorem X92 (id:Nat):∀(k k':List CI) (items:List Item),IRs P k items->KYl id k=some k'->∃its,exitTo id items=some its/\IRs P k' its
 | [],k',items,_,e=>by cases e
 | .blk id'::k,k',items,h,e=>by
  obtain ⟨its,rfl,h'⟩:=h.blk
  simp only[KYl]at e
  by_cases hid:id'=id
  ·rw[if_pos hid]at e
   cases e
   exact ⟨its,by simp [exitTo,hid],h'⟩
  ·rw[if_neg hid]at e
   obtain ⟨its',h1,h2⟩:=X92 id k k' its h' e
   exact ⟨its',by simp [exitTo,hid,h1],h2⟩
 | .code c::k,k',items,h,e=>by
  obtain ⟨c',its,rfl,_,h'⟩:=h.code
  obtain ⟨its',h1,h2⟩:=X92 id k k' its h' e
  exact ⟨its',by simp [exitTo,h1],h2⟩
 | .lp c::k,k',items,h,e=>by
  obtain ⟨c',its,rfl,_,h'⟩:=h.lp
  obtain ⟨its',h1,h2⟩:=X92 id k k' its h' e
  exact ⟨its',by simp [exitTo,h1],h2⟩
 | .sc::k,k',items,h,e=>by
  obtain ⟨c',its,rfl,h'⟩:=h.sc
  obtain ⟨its',h1,h2⟩:=X92 id k k' its h' e
  exact ⟨its',by simp [exitTo,h1],h2⟩
 | .ops l::k,k',items,h,e=>by
  obtain ⟨ops,is,its,rfl,_,h'⟩:=h.ops
  obtain ⟨its',h1,h2⟩:=X92 id k k' its h' e
  exact ⟨its',by simp [exitTo,h1],h2⟩
 | .br::k,k',items,h,e=>by
  obtain ⟨its,rfl,h'⟩:=h.br
  obtain ⟨its',h1,h2⟩:=X92 id k k' its h' e
  exact ⟨its',by simp [exitTo,h1],h2⟩
theorem zyi (id:Nat):∀(k:List CI) (items:List Item),IRs P k items->KYl id k=none->exitTo id items=none
 | [],items,h,_=>by
  match items,h with
  | [],_=>rfl
 | .blk id'::k,items,h,e=>by
  obtain ⟨its,rfl,h'⟩:=h.blk
  simp only[KYl]at e
  by_cases hid:id'=id
  ·rw[if_pos hid]at e
   cases e
  ·rw[if_neg hid]at e
   simp [exitTo,hid,zyi id k its h' e]
 | .code c::k,items,h,e=>by
  obtain ⟨c',its,rfl,_,h'⟩:=h.code
  simp [exitTo,zyi id k its h' e]
 | .lp c::k,items,h,e=>by
  obtain ⟨c',its,rfl,_,h'⟩:=h.lp
  simp [exitTo,zyi id k its h' e]
 | .sc::k,items,h,e=>by
  obtain ⟨c',its,rfl,h'⟩:=h.sc
  simp [exitTo,zyi id k its h' e]
 | .ops l::k,items,h,e=>by
  obtain ⟨ops,is,its,rfl,_,h'⟩:=h.ops
  simp [exitTo,zyi id k its h' e]
 | .br::k,items,h,e=>by
  obtain ⟨its,rfl,h'⟩:=h.br
  simp [exitTo,zyi id k its h' e]
def XYj:List CI->List AV->List AB->Option (List CI×List AV×List AB)
 | .code c::k,fr,h=>match c with
  | .skip=>some (k,fr,h)
  | .seq a b=>some (.code a::.code b::k,fr,h)
  | .cond c a b=>match c.ev fr with
   | .b true=>some (.code a::k,fr,h)
   | .b false=>some (.code b::k,fr,h)
   | _=>none
  | .block id a=>some (.code a::.blk id::k,fr,h)
  | .scope a=>some (.code a::.sc::k,fr,h)
  | .exit id=>(KYl id k).map (·,fr,h)
  | .reg _ ops=>some (.ops ops::k,fr,h)
  | _=>none
 | .blk _::k,fr,h=>some (k,fr,h)
 | .sc::k,fr,h=>some (k,fr,h)
 | .ops []::k,fr,h=>some (k,fr,h)
 | .ops (o::l)::k,fr,h =>
  if qdw fr o.guard then
   match zEb fr o.guard with
   | true=>(o.op.run (Opd.ev fr) h).map fun (v,h')=>(.ops l::k,put fr o.dst v,h')
   | false=>some (.ops l::k,put fr o.dst (.tu []),h)
  else none
 | _,_,_=>none
theorem zLd {o:Op} {c:CO} (h:XE2 P o=some c):∀q,o≠.defer q:=fun q e=>by
 subst e
 cases h
theorem Ysn {o:Op} {c:CO} (h:XE2 P o=some c) (hc:c≠.stop):qA0 P o=some c:=by
 unfold XE2 at h
 split at h
 ·cases h
 ·cases hq:qA0 P o with
  | none=>rw[hq]at h;cases h;exact absurd rfl hc
  | some d=>rw[hq]at h;cases h;rfl
theorem qze {ev:Opd->AV} {h:List AB} {c:CO} {r:AV×List AB} (e:c.run ev h=some r):c≠.stop:=fun q=>by
 subst q
 cases e
theorem QK2 {ops:Array Oper} {o:Oper} {c:COper} (h:YXt P ops o=some c):XE2 P o.op=some c.op/\c.dst=o.dst/\(match o.guard with|none=>c.guard=none|some (j,want)=>∃t,(ops[j]?).bind (·.dst)=some t/\c.guard=some (t,want)):=by
 unfold YXt at h
 obtain ⟨op,hop,h⟩:=oQ.1 h
 split at h
 ·rename_i hg
  cases h
  exact ⟨hop,rfl,by first|rw[hg] | rfl⟩
 ·rename_i j want hg
  obtain ⟨t,ht,rfl⟩:=Option.map_eq_some_iff.1 h
  refine ⟨hop,rfl,?_⟩
  try rw[hg]
  exact ⟨t,ht,rfl⟩
theorem Q8m {ρ:Mp} {fr:List AV} {tmps:Array Value} (hv:VL ρ fr tmps) {ops:Array Oper} {o:Oper} {c:COper} (h:YXt P ops o=some c) (hk:qdw fr c.guard=true):Region.wanted o (yielded ops tmps)=zEb fr c.guard:=by
 obtain ⟨_,_,hg⟩:=QK2 h
 unfold Region.wanted
 split at hg
 ·rename_i hn
  rw[hn,hg]
  rfl
 ·rename_i j want hs
  obtain ⟨t,ht,hc⟩:=hg
  rw[hs,hc]
  rw[hc]at hk
  simp only[zEb,qdw]at hk ⊢
  unfold yielded
  rw[ht]
  simp only[Option.bind_some]
  cases hf:fr[t]? with
  | none =>
   have:tmps[t]?=none:=Array.getElem?_eq_none (by rw[<-hv.1];exact (List.getElem?_eq_none_iff.1 hf))
   rw[this]
   cases want <;> rfl
  | some a =>
   rw[hf]at hk
   obtain ⟨v,hv1,hv2⟩:=hv.get hf
   rw[hv1]
   cases hv2 with
   | top v=>simp [AV.known]at hk
   | b x=>cases x <;> cases want <;> rfl
   | _=>simp
theorem YQQ {ρ:Mp} {fr:List AV} {a:Act} (hv:VL ρ fr a.tmps) (d:Option Nat) {x:AV} {v:Value} (hx:VR ρ x v):VL ρ (put fr d x) (a.put d v).tmps/\(a.put d v).defers=a.defers:=by
 cases d with
 | none=>exact ⟨hv,rfl⟩
 | some d=>exact ⟨hv.set d hx,rfl⟩
theorem AM.go {p:Nat} {rd:Option Nat} {fn:FuncId} {todo todo':List CI} {fr fr':List AV} {h h':List AB} {R:AV->List AB->Prop} (e:XYj todo fr h=some (todo',fr',h')) (g:AM P p rd fn todo' fr' h' R):AM P p rd fn todo fr h R:=by
 intro ρ w tmps items bf cs rs hf hk hro hp hi hv hr hmk
 have same:∀ {items':List Item},h'=h->fr'=fr->IRs P todo' items'->step P (lone (bf.atR { tmps,defers:=rs.map mkD } items) cs w)=.next (lone (bf.atR { tmps,defers:=rs.map mkD } items') cs w)->Ret P rd bf cs (PostR P p rs ρ h w R) (lone (bf.atR { tmps,defers:=rs.map mkD } items) cs w):=by
  rintro items' rfl rfl hi' hs
  exact (g ρ w tmps items' bf cs rs hf hk hro hp hi' hv hr hmk).steps (.one hs)
 cases todo with
 | nil=>cases e
 | cons c k =>
  cases c with
  | blk id =>
   obtain ⟨its,rfl,hi2⟩:=hi.blk
   cases e
   exact same rfl rfl hi2 stepR_inBlock
  | sc =>
   obtain ⟨c',its,rfl,hi2⟩:=hi.sc
   cases e
   exact same rfl rfl hi2 (step_lone_go (by simp [stepG,stepG.exec,Frame.atR]))
  | lp c=>cases e
  | br=>cases e
  | code c =>
   obtain ⟨c',its,rfl,hc,hi2⟩:=hi.code
   have inv:=qIN hc
   cases c with
   | skip =>
    cases e
    rcases inv with rfl|⟨l,rfl⟩
    ·exact same rfl rfl hi2 stepR_skip
    ·exact same rfl rfl hi2 stepR_label
   | seq a b =>
    obtain ⟨x,y,rfl,h1,h2⟩:=inv
    cases e
    exact same rfl rfl (.mcode h1 (.mcode h2 hi2)) stepR_seq
   | cond q a b =>
    obtain ⟨o,x,y,rfl,h0,h1,h2⟩:=inv
    have hev:=EV.of (a:={ tmps,defers:=rs.map mkD }) hv o q h0
    simp only[XYj]at e
    split at e
    ·rename_i hq
     cases e
     rw[hq]at hev
     generalize hvc:Act.eval { tmps,defers:=rs.map mkD } o=vc at hev
     cases hev
     exact same rfl rfl (items':=.code x::its) (.mcode h1 hi2) (stepR_cond hvc)
    ·rename_i hq
     cases e
     rw[hq]at hev
     generalize hvc:Act.eval { tmps,defers:=rs.map mkD } o=vc at hev
     cases hev
     exact same rfl rfl (items':=.code y::its) (.mcode h2 hi2) (stepR_cond hvc)
    ·cases e
   | block id a =>
    obtain ⟨x,rfl,h1⟩:=inv
    cases e
    exact same rfl rfl (.mcode h1 (.mblk id hi2)) stepR_block
   | scope a =>
    obtain ⟨x,rfl,h1⟩:=inv
    cases e
    exact same rfl rfl (items':=.code x::.inScope x::its) (.mcode h1 (.msc x hi2)) (step_lone_go (by simp [stepG,stepG.exec,Frame.atR]))
   | exit id =>
    cases inv
    obtain ⟨k',hk',e⟩:=Option.map_eq_some_iff.1 e
    cases e
    obtain ⟨its',h1,h2⟩:=X92 id _ _ _ hi2 hk'
    exact same rfl rfl h2 (stepR_exit h1)
   | reg id l =>
    obtain ⟨o,rfl,h1⟩:=inv
    cases e
    exact same rfl rfl (.mops h1 hi2) stepR_region
   | drw id l=>cases e
   | loop a=>cases e
   | ret=>cases e
   | stop=>cases e
   | rf g ps a b=>cases e
  | ops l =>
   obtain ⟨ops,is,its,rfl,hc,hi2⟩:=hi.ops
   cases l with
   | nil =>
    cases e
    cases is with
    | nil=>exact same rfl rfl hi2 stepR_region_end
    | cons i is =>
     simp only[cOps]at hc
     obtain ⟨_,_,hc⟩:=oQ.1 hc
     obtain ⟨_,_,hc⟩:=oQ.1 hc
     obtain ⟨_,_,hc⟩:=Option.map_eq_some_iff.1 hc
     cases hc
   | cons c l =>
    cases is with
    | nil=>cases hc
    | cons i is =>
     simp only[cOps]at hc
     obtain ⟨o,ho,hc⟩:=oQ.1 hc
     obtain ⟨c',hc',hc⟩:=oQ.1 hc
     obtain ⟨l',hl',hc⟩:=Option.map_eq_some_iff.1 hc
     cases hc
     obtain ⟨hop,hdst,_⟩:=QK2 hc'
     simp only[XYj]at e
     split at e
     case isFalse=>cases e
     rename_i hkn
     have hw:=Q8m hv hc' hkn
     have hfin:∀(u:Value) (w':World),(bf.atR { tmps,defers:=rs.map mkD } (.inRegion ops (i::is)::its)).finish u=bf.atR (Act.put { tmps,defers:=rs.map mkD } o.dst u) (.inRegion ops is::its):=fun u _=>by
      rw[Frame.finish_atR,ho]
      rfl
     split at e
     ·rename_i hwt
      rw[hwt]at hw
      obtain ⟨⟨v,h1⟩,hrun,e⟩:=Option.map_eq_some_iff.1 e
      cases e
      obtain ⟨v',w',ρ',hor,hext,hrel,hvr,heff⟩:=KWV hr (EV.of (a:={ tmps,defers:=rs.map mkD }) hv) (Ysn hop (qze hrun)) hrun
      have hput:=YQQ (a:={ tmps,defers:=rs.map mkD }) (hv.ext hext) c.dst hvr
      have hlen:=hext.len
      rw[hr.len]at hlen
      have g':=g ρ' w' (Act.put { tmps,defers:=rs.map mkD } c.dst v').tmps (.inRegion ops is::its) bf cs rs hf hk (hro.ext hext) (by rw[<-hrel.len];omega) (.mops hl' hi2) hput.1 hrel (hmk.eff (heff.p hext (by rw[hr.len];exact hp)))
      have hact:(⟨(Act.put { tmps,defers:=rs.map mkD } c.dst v').tmps,rs.map mkD⟩:Act)=Act.put { tmps,defers:=rs.map mkD } c.dst v':=by
       cases c.dst <;> rfl
      rw[hact]at g'
      have hstep:step P (lone (bf.atR { tmps,defers:=rs.map mkD } (.inRegion ops (i::is)::its)) cs w)=.next (lone (bf.atR (Act.put { tmps,defers:=rs.map mkD } c.dst v') (.inRegion ops is::its)) cs w'):=by
       refine step_lone_go ?_
       rw[stepGR_op ho hw,Oper.semAt_eq _ _ _ (zLd hop),hdst]
       rcases hor with hok|⟨hok,rfl⟩
       ·rw[<-hfin v' w'];simp [stepG.apply,Sem.runT_eq,hok,GStep.bare_after]
       ·rw[<-hfin undef w'];simp [stepG.apply,Sem.runT_eq,hok,GStep.bare_after]
      exact (g'.mono fun v w'' q=>q.from (heff.p hext (by rw[hr.len];exact hp)) (fun r hr=>.inl hr)).steps (.one hstep)
     ·rename_i hwt
      rw[hwt]at hw
      cases e
      have hput:=YQQ (a:={ tmps,defers:=rs.map mkD }) hv c.dst (x:=.tu []) (v:=undef) (.tu [] #[] rfl (fun j a c h=>by simp at h))
      have g':=g ρ w (Act.put { tmps,defers:=rs.map mkD } c.dst undef).tmps (.inRegion ops is::its) bf cs rs hf hk hro hp (.mops hl' hi2) hput.1 hr hmk
      have hact:(⟨(Act.put { tmps,defers:=rs.map mkD } c.dst undef).tmps,rs.map mkD⟩:Act)=Act.put { tmps,defers:=rs.map mkD } c.dst undef:=by
       cases c.dst <;> rfl
      rw[hact]at g'
      refine g'.steps (.one ?_)
      have:=stepR_op_skip (P:=P) (b:=bf) (a:={ tmps,defers:=rs.map mkD }) (k:=its) (cs:=cs) (w:=w) (ops:=ops) (i:=i) (rest:=is) (by simp [ho,hw])
      rw[ho]at this
      rw[hdst]
      exact this
end
end
section
open Go.RowKit
mutual
def AV.ids:AV->List Nat
 | .p id _=>[id]
 | .sl id _ _ _ _=>[id]
 | .f _ fst cap=>idsL fst++idsL cap
 | .ifc _ v=>v.ids
 | .ag l=>idsL l
 | .tu l=>idsL l
 | .y id=>[id]
 | .m id=>[id]
 | _=>[]
def idsL:List AV->List Nat
 | []=>[]
 | a::l=>a.ids++idsL l
end
end
section
open Go.RowKit
section
variable {P:Program}
def OpOk (P:Program) (ops:Array Oper) (i:Nat) (dst:Option Nat) (fr:List AV) (h:List AB) (v:AV) (h':List AB):Prop:=
 ∀(ρ:Mp) (w:World) (tmps:Array Value) (is:List Nat) (its:List Item) (b:Frame) (cs:List Frame) (ds:List Deferred),b.kind=.normal->VL ρ fr tmps->Rel (KC P) ρ h w ->
  ∃v' w' ρ',Steps P (lone (b.atR { tmps,defers:=ds } (.inRegion ops (i::is)::its)) cs w) (lone (b.atR (Act.put { tmps,defers:=ds } dst v') (.inRegion ops is::its)) cs w')/\VR ρ' v v'/\Rel (KC P) ρ' h' w'/\EffP h.length ρ h w ρ' h' w'
theorem X2d {ops:Array Oper} {i:Nat} {o:Oper} {c:COper} (ho:ops[i]?=some o) (hc:YXt P ops o=some c) {fr:List AV} {h h':List AB} {v:AV} (hk:qdw fr c.guard=true) (hwt:zEb fr c.guard=true)
  (hrun:c.op.run (Opd.ev fr) h=some (v,h')):OpOk P ops i c.dst fr h v h':=by
 intro ρ w tmps is its bf cs ds hkn hv hr
 obtain ⟨hop,hdst,_⟩:=QK2 hc
 have hw:=Q8m hv hc hk
 rw[hwt]at hw
 have hfin:∀(u:Value),(bf.atR { tmps,defers:=ds } (.inRegion ops (i::is)::its)).finish u=bf.atR (Act.put { tmps,defers:=ds } o.dst u) (.inRegion ops is::its):=fun u=>by
  rw[Frame.finish_atR,ho]
  rfl
 obtain ⟨v',w',ρ',hor,hext,hrel,hvr,heff⟩:=KWV hr (EV.of (a:={ tmps,defers:=ds }) hv) (Ysn hop (qze hrun)) hrun
 refine ⟨v',w',ρ',.one (step_lone_go ?_),hvr,hrel,heff.p hext (by rw[hr.len];exact Nat.le_refl _)⟩
 rw[stepGR_op ho hw,Oper.semAt_eq _ _ _ (zLd hop),hdst]
 rcases hor with hok|⟨hok,rfl⟩
 ·rw[<-hfin v'];simp [stepG.apply,Sem.runT_eq,hok,GStep.bare_after]
 ·rw[<-hfin undef];simp [stepG.apply,Sem.runT_eq,hok,GStep.bare_after]
theorem J7n {ops:Array Oper} {i:Nat} {o:Oper} {c:COper} (ho:ops[i]?=some o) (hc:YXt P ops o=some c) {fr:List AV} {h:List AB} (hk:qdw fr c.guard=true) (hwt:zEb fr c.guard=false):OpOk P ops i c.dst fr h (.tu []) h:=by
 intro ρ w tmps is its bf cs ds hkn hv hr
 obtain ⟨hop,hdst,_⟩:=QK2 hc
 have hw:=Q8m hv hc hk
 rw[hwt]at hw
 refine ⟨undef,w,ρ,.one ?_,.tu [] #[] rfl (fun j a c h=>by simp at h),hr,EffP.refl _ _ _ _⟩
 have:=stepR_op_skip (P:=P) (b:=bf) (a:={ tmps,defers:=ds }) (k:=its) (cs:=cs) (w:=w) (ops:=ops) (i:=i) (rest:=is) (by simp [ho,hw])
 rw[ho]at this
 rw[hdst]
 exact this
theorem Xzn {ρ:Mp} {h:List AB} {w:World} (hr:Rel (KC P) ρ h w) {id:Nat} {st:LoopState} {pd:XE} {fr0:List AV} {ps:List Nat} {asg bd:CC} (hlp:h[id]?=some (.lp st pd fr0 ps asg bd)) {b o n:Nat} (hρ:ρ[id]?=some (b,o,n)) :
  ∃r:Loop,w.heap[b]?=some (.loop r)/\r.state=st/\r.pending=pd.jump/\VL ρ fr0 r.tmps/\r.params.toList=ps/\Qfa P r.assign=some asg/\Qfa P r.body=some bd:=hr.blk id _ b o n hlp hρ
def NC (x:Option CO):Prop:=∀f a,x≠some (.call f a)
theorem zrj:NC none:=fun _ _ h=>nomatch h
theorem ZhE {α:Type} {x:Option α} {g:α->Option CO} (h:∀y,NC (g y)):NC (x.bind g):=by
 cases x with
 | none=>exact zrj
 | some y=>exact h y
theorem Kua {α:Type} {x:Option α} {g:α->CO} (h:∀y f a,g y≠.call f a):NC (x.map g):=by
 cases x with
 | none=>exact zrj
 | some y=>exact fun f a e=>h y f a (Option.some.inj e)
theorem Zct {c:CO} (h:∀f a,c≠.call f a):NC (some c):=fun f a e=>h f a (Option.some.inj e)
theorem nc_b (b:Builtin) (az:List Operand) (ts:List TypeId):NC (YYD P b az ts):=by
 unfold YYD
 split <;> (repeat' (first|exact zrj|exact Zct (fun _ _ h=>nomatch h)|exact Kua (fun _ _ _ h=>nomatch h)|refine ZhE (fun _=>?_)|split))
theorem XEQ (op:BinOp) (t:TypeId) (x y:Operand):NC (cBin P op t x y):=by
 unfold cBin
 repeat' (first|exact zrj|exact Zct (fun _ _ h=>nomatch h)|exact Kua (fun _ _ _ h=>nomatch h)|refine ZhE (fun _=>?_)|split)
theorem KUF (s d:TypeId) (x:Operand):NC (JDk P s d x):=by
 unfold JDk
 repeat' (first|exact zrj|exact Zct (fun _ _ h=>nomatch h)|exact Kua (fun _ _ _ h=>nomatch h)|refine ZhE (fun _=>?_)|split)
theorem J6l {o:Op} {f:Opd} {args:List Opd} (h:qA0 P o=some (.call f args)):∃c fo,o=.call c/\c.callee=.value fo/\cOpd fo=some f/\KDj c.args.toList=some args:=by
 cases o with
 | call c =>
  simp only[qA0,YB5]at h
  split at h
  ·exact absurd h (nc_b _ _ _ _ _)
  ·rename_i fo hcal
   split at h
   ·obtain ⟨a,ha,h⟩:=oQ.1 h
    obtain ⟨l,hl,h⟩:=Option.map_eq_some_iff.1 h
    cases h
   ·split at h
    ·unfold QVF at h
     split at h
     ·obtain ⟨a,ha,h⟩:=oQ.1 h
      obtain ⟨l,hl,h⟩:=Option.map_eq_some_iff.1 h
      cases h
     ·cases h
    ·obtain ⟨a,ha,h⟩:=oQ.1 h
     obtain ⟨l,hl,h⟩:=Option.map_eq_some_iff.1 h
     cases h
     exact ⟨c,fo,rfl,hcal,ha,hl⟩
  ·cases h
 | binOp=>exact absurd h (XEQ _ _ _ _ _ _)
 | convert=>exact absurd h (KUF _ _ _ _ _)
 | makeMap t r =>
  cases r with
  | none =>
   simp only[qA0]at h
   split at h <;> cases h
  | some r=>cases h
 | next x b =>
  simp only[qA0]at h
  obtain ⟨a,_,h⟩:=oQ.1 h
  cases b <;> simp at h
 | _ =>
  have key:∀ {x:Option CO},x=some (.call f args)->NC x->False:=fun e n=>n _ _ e
  refine (key h ?_).elim
  simp only[qA0]
  repeat' (first|exact zrj|exact Zct (fun _ _ h=>nomatch h)|exact Kua (fun _ _ _ h=>nomatch h)|refine ZhE (fun _=>?_)|split)
theorem qKr {f : Func} {cf : CF} (h : J0o P f = some cf) : (f.name == "runtime.NumGoroutine") = false ∧ ∃ c, f.body = some c ∧ Qfa P c = some cf.body ∧ cRes P f.results.toList = some cf.res ∧ cf.ntmps = f.ntmps := by
 unfold J0o at h
 split at h
 ·cases h
 ·rename_i hn
  obtain ⟨c,hc,h⟩:=oQ.1 h
  obtain ⟨b,hb,h⟩:=oQ.1 h
  obtain ⟨r,hr,rfl⟩:=Option.map_eq_some_iff.1 h
  exact ⟨by simpa using hn,c,hc,hb,hr,rfl⟩
theorem qYv (ρ:Mp) (n:Nat):VL ρ (List.replicate n (.tu [])) (Array.replicate n undef):=
 ⟨by simp,fun j a c h1 h2=>by
  rw[List.getElem?_replicate]at h1
  rw[Array.getElem?_replicate]at h2
  split at h1
  ·rw[if_pos (by assumption)]at h2
   cases h1;cases h2
   exact .tu [] #[] rfl (fun j a c h=>by simp at h)
  ·cases h1⟩
theorem QfW {ops:Array Oper} {i:Nat} {o:Oper} {c:COper} (ho:ops[i]?=some o) (hc:YXt P ops o=some c) {fr:List AV} {h h':List AB} {v:AV} (hk:qdw fr c.guard=true) (hwt:zEb fr c.guard=true)
  {f:Opd} {args:List Opd} (hcc:c.op=.call f args) {g:FuncId} {fst cap:List AV} (hfv:f.ev fr=.f (.func g) fst cap) {fn:Func} {cf:CF} (hfn:P.funcs[g]?=some fn) (hcf:J0o P fn=some cf)
  (hcall:AM P h.length none g [.code cf.body] (fst++args.map (Opd.ev fr)++cap++List.replicate (cf.ntmps-(fst++args.map (Opd.ev fr)++cap).length) (.tu [])) h (fun a h''=>a=v/\h''=h')):OpOk P ops i c.dst fr h v h':=by
 intro ρ w tmps is its bf cs ds hkn hv hr
 obtain ⟨hop,hdst,_⟩:=QK2 hc
 have hw:=Q8m hv hc hk
 rw[hwt]at hw
 have hfin:∀(u:Value),(bf.atR { tmps,defers:=ds } (.inRegion ops (i::is)::its)).finish u=bf.atR (Act.put { tmps,defers:=ds } o.dst u) (.inRegion ops is::its):=fun u=>by
  rw[Frame.finish_atR,ho]
  rfl
 have hopS:=hop
 rw[hcc]at hop
 obtain ⟨cl,fo,hoc,hcal,hcf1,hcargs⟩:=J6l (Ysn hop (fun q=>nomatch q))
 have hev:=EV.of (a:={ tmps,defers:=ds }) hv
 have h1:=hev fo f hcf1
 rw[hfv]at h1
 have h2:=hev.vl hcargs
 generalize hfoe:Act.eval { tmps,defers:=ds } fo=vf at h1
 cases h1 with
 | f _ _ _ fst' cap' hl0 hl hvc0 hvc =>
 obtain ⟨hname,body,hbody,hcb,hres,hnt⟩:=qKr hcf
 have hargs:VL ρ (fst++args.map (Opd.ev fr)++cap) (fst'++cl.args.map (Act.eval { tmps,defers:=ds })++cap'):=by
  have h3:(cl.args.toList.map (Act.eval { tmps,defers:=ds })).toArray=cl.args.map (Act.eval { tmps,defers:=ds }):=by simp [<-Array.toList_map]
  rw[<-h3]
  exact VL.append (VL.append ⟨hl0,hvc0⟩ h2) ⟨hl,hvc⟩
 have hrun:(execOp (Act.eval { tmps,defers:=ds }) o).run P w=.ok (.enter g (fst'++cl.args.map (Act.eval { tmps,defers:=ds })++cap')) w:=by
  simp [execOp, hoc, resolve, hcal, hfoe, Deferred.ofValue, invoke, callFunc, hfn, show fn.name ≠ "runtime.NumGoroutine" by simpa using hname, hbody]
 let bf':Frame:={ (default:Frame) with fn:=g,kind:=.normal,roundOf:=none }
 have henter:Frame.enter P g (fst'++cl.args.map (Act.eval { tmps,defers:=ds })++cap') .normal =
   bf'.atR { tmps:=(fst'++cl.args.map (Act.eval { tmps,defers:=ds })++cap')++Array.replicate (fn.ntmps-(fst'++cl.args.map (Act.eval { tmps,defers:=ds })++cap').size) undef,defers:=[] } [.code body]:=by
  simp [Frame.enter,Frame.atR,hfn,hbody,bf']
 have hsz:(fst++args.map (Opd.ev fr)++cap).length=(fst'++cl.args.map (Act.eval { tmps,defers:=ds })++cap').size:=hargs.1
 obtain ⟨v',w',⟨a,h'',ρ',⟨rfl,rfl⟩,hva,hrel,heff⟩,frm,hsteps,hfrm,hleave⟩:=hcall ρ w _ [.code body] bf' (bf.atR { tmps,defers:=ds } (.inRegion ops (i::is)::its)::cs) [] rfl rfl rfl (Nat.le_refl _) (.mcode hcb trivial) (hargs.append (by rw[hsz,hnt];exact qYv ρ _)) hr ⟨List.nodup_nil,fun r h=>by simp at h⟩
 refine ⟨v',w',ρ',Steps.head (m₁:=lone (Frame.enter P g (fst'++cl.args.map (Act.eval { tmps,defers:=ds })++cap') .normal) (bf.atR { tmps,defers:=ds } (.inRegion ops (i::is)::its)::cs) w) (step_lone_go ?_) ?_,hva,hrel,heff.p⟩
 ·rw[stepGR_op ho hw,Oper.semAt_eq _ _ _ (zLd hopS)]
  simp [stepG.apply,Sem.runT_eq,hrun,GStep.bare_after,Frame.atR]
 ·rw[henter,hdst,<-hfin v']
  exact hsteps.trans (.one (step_leave_returned hleave))
def zHT:List Nat->List AV->List AV->List AV
 | p::ps,a::az,fr=>zHT ps az (fr.set p a)
 | _,_,fr=>fr
theorem Jdf {ρ:Mp}:∀(ps:List Nat) (az:List AV) (vs:List Value) (fr:List AV) (tmps:Array Value),ps.length=az.length->VL ρ az vs.toArray->VL ρ fr tmps->VL ρ (zHT ps az fr) (((ps.zip vs)).foldl (fun tmps x=>tmps.setIfInBounds x.1 x.2) tmps)
 | [],[],vs,fr,tmps,_,_,h=>by simpa [zHT] using h
 | p::ps,a::az,vs,fr,tmps,hl,ha,h=>by
  cases vs with
  | nil=>have:=ha.1;simp at this
  | cons v vs =>
   simp only[zHT,List.zip_cons_cons,List.foldl_cons]
   refine Jdf ps az vs _ _ (by simpa using hl) ⟨by have:=ha.1;simpa using this,fun j x y h1 h2=>ha.2 (j+1) x y (by simpa using h1) (by simpa using h2)⟩ (h.set p (ha.2 0 a v rfl rfl))
 | [],_::_,_,_,_,hl,_,_=>by simp at hl
 | _::_,[],_,_,_,hl,_,_=>by simp at hl
theorem J2Y {ops:Array Oper} {i:Nat} {o:Oper} {c:COper} (ho:ops[i]?=some o) (hc:YXt P ops o=some c) {fr:List AV} {h h':List AB} {v:AV} (hk:qdw fr c.guard=true) (hwt:zEb fr c.guard=true)
  {f:Opd} {args:List Opd} (hcc:c.op=.call f args) {id:Nat} (hfv:f.ev fr=.y id) {st:LoopState} {pd:XE} {fr0:List AV} {ps:List Nat} {asg bd:CC} (hlp:h[id]?=some (.lp st pd fr0 ps asg bd)) (hps:ps.length=args.length)
  (hcall:∀g,AM P h.length (some id) g [.code asg,.br,.code bd] (zHT ps (args.map (Opd.ev fr)) fr0) h (fun a h''=>a=v/\h''=h')):OpOk P ops i c.dst fr h v h':=by
 intro ρ w tmps is its bf cs ds hkn hv hr
 obtain ⟨hop,hdst,_⟩:=QK2 hc
 have hw:=Q8m hv hc hk
 rw[hwt]at hw
 have hfin:∀(u:Value),(bf.atR { tmps,defers:=ds } (.inRegion ops (i::is)::its)).finish u=bf.atR (Act.put { tmps,defers:=ds } o.dst u) (.inRegion ops is::its):=fun u=>by
  rw[Frame.finish_atR,ho]
  rfl
 have hopS:=hop
 rw[hcc]at hop
 obtain ⟨cl,fo,hoc,hcal,hcf1,hcargs⟩:=J6l (Ysn hop (fun q=>nomatch q))
 have hev:=EV.of (a:={ tmps,defers:=ds }) hv
 have h1:=hev fo f hcf1
 rw[hfv]at h1
 have h2:=hev.vl hcargs
 generalize hfoe:Act.eval { tmps,defers:=ds } fo=vf at h1
 cases h1 with
 | y _ l on n hρ =>
 obtain ⟨r,hr1,hr2,hr3,hr4,hr5,hr6,hr7⟩:=Xzn hr hlp hρ
 have hargsz:(cl.args.map (Act.eval { tmps,defers:=ds })).size=r.params.size:=by
  have:=h2.1
  simp at this
  rw[Array.size_map,<-Array.length_toList (xs:=r.params),hr5,hps]
  exact this.symm
 have hrun:(execOp (Act.eval { tmps,defers:=ds }) o).run P w=.ok (.round l r.fn ((r.params.zip (cl.args.map (Act.eval { tmps,defers:=ds }))).foldl (fun tmps x=>tmps.setIfInBounds x.1 x.2) r.tmps) r.assign r.body) w:=by
  have hy:=run_yield (P:=P) (args:=cl.args.map (Act.eval { tmps,defers:=ds })) hr1 hargsz
  have hinv:invoke (.fn (.yield l) #[]) (cl.args.map (Act.eval { tmps,defers:=ds }))=Instr.yield l (cl.args.map (Act.eval { tmps,defers:=ds })):=by simp [invoke]
  simp [execOp,hoc,resolve,hcal,hfoe,Deferred.ofValue,hinv]
  first|exact hy|(simp at hy;exact hy)
 let bf':Frame:={ (default:Frame) with fn:=r.fn,kind:=.normal,roundOf:=some l }
 have henter:Frame.round l r.fn ((r.params.zip (cl.args.map (Act.eval { tmps,defers:=ds }))).foldl (fun tmps x=>tmps.setIfInBounds x.1 x.2) r.tmps) r.assign r.body .normal =
   bf'.atR { tmps:=(r.params.zip (cl.args.map (Act.eval { tmps,defers:=ds }))).foldl (fun tmps x=>tmps.setIfInBounds x.1 x.2) r.tmps,defers:=[] } [.code r.assign,.beginRound,.code r.body]:=by
  simp [Frame.round,Frame.atR,bf']
 have hvl:VL ρ (zHT ps (args.map (Opd.ev fr)) fr0) ((r.params.zip (cl.args.map (Act.eval { tmps,defers:=ds }))).foldl (fun tmps x=>tmps.setIfInBounds x.1 x.2) r.tmps):=by
  have:=Jdf ps (args.map (Opd.ev fr)) _ fr0 r.tmps (by simpa using hps) h2 hr4
  rw[<-hr5]at this ⊢
  rw[<-Array.foldl_toList,Array.toList_zip,Array.toList_map]
  exact this
 obtain ⟨v',w',⟨a,h'',ρ',⟨rfl,rfl⟩,hva,hrel,heff⟩,hsteps⟩:=hcall r.fn ρ w _ [.code r.assign,.beginRound,.code r.body] bf' (bf.atR { tmps,defers:=ds } (.inRegion ops (i::is)::its)::cs) [] rfl rfl ⟨l,(on,n),hρ,rfl⟩ (Nat.le_refl _) (.mcode hr6 (.mbr (.mcode hr7 trivial))) hvl hr ⟨List.nodup_nil,fun r h=>by simp at h⟩
 refine ⟨v',w',ρ',Steps.head (m₁:=lone (Frame.round l r.fn ((r.params.zip (cl.args.map (Act.eval { tmps,defers:=ds }))).foldl (fun tmps x=>tmps.setIfInBounds x.1 x.2) r.tmps) r.assign r.body .normal) (bf.atR { tmps,defers:=ds } (.inRegion ops (i::is)::its)::cs) w) (step_lone_go ?_) ?_,hva,hrel,heff.p⟩
 ·rw[stepGR_op ho hw,Oper.semAt_eq _ _ _ (zLd hopS)]
  simp [stepG.apply,Sem.runT_eq,hrun,GStep.bare_after,Frame.atR]
 ·rw[henter,hdst,<-hfin v']
  exact hsteps _ _ rfl
end
end
end Go.Proofs.YtekeoichmdiiiaaGreat
