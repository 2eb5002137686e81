/- Part 8 of what the laws' proofs rest on. No condition. -/
import Derived.RangeFuncLeaves
import Derived.Test.YtekeoichmdiiiaaGreatTh7
set_option linter.all false
namespace Go.Proofs.YtekeoichmdiiiaaGreat
section
open Go.RowKit
section
variable {P:Program}
theorem EffP.ext {ρ ρ':Mp} {h h':List AB} {w w':World} (e:EffP h.length ρ h w ρ' h' w') (hr:Rel (KC P) ρ h w):Ext ρ ρ':=fun i x hx=>by
 rw[e.fix i (by rw[<-hr.len];exact (List.getElem?_eq_some_iff.1 hx).1)]
 exact hx
theorem EffP.len {ρ ρ':Mp} {h h':List AB} {w w':World} (e:EffP h.length ρ h w ρ' h' w') (hr:Rel (KC P) ρ h w) (hr':Rel (KC P) ρ' h' w'):h.length<=h'.length:=by
 rw[<-hr.len,<-hr'.len]
 exact (e.ext hr).len
theorem YZf (tmps:Array Value) (ds:List Deferred) (dst:Option Nat) (v:Value):(⟨(Act.put { tmps,defers:=ds } dst v).tmps,ds⟩:Act)=Act.put { tmps,defers:=ds } dst v:=by
 cases dst <;> rfl
theorem AM.op {p:Nat} {rd:Option Nat} {fn:FuncId} {c:COper} {l:List COper} {k:List CI} {fr:List AV} {h h':List AB} {v:AV} {R:AV->List AB->Prop}
  (hop:∀(ops:Array Oper) (i:Nat) (o:Oper),ops[i]?=some o->YXt P ops o=some c->OpOk P ops i c.dst fr h v h')
  (g:AM P p rd fn (.ops l::k) (put fr c.dst v) h' R):AM P p rd fn (.ops (c::l)::k) fr h R:=by
 intro ρ w tmps items bf cs rs hf hk hro hp hi hv hr hmk
 obtain ⟨ops,is,its,rfl,hc,hi2⟩:=hi.ops
 cases is with
 | nil=>cases hc
 | cons i is =>
  simp only[cOps]at hc
  obtain ⟨o,ho,hc⟩:=oQ.1 hc
  obtain ⟨c',hc',hc⟩:=oQ.1 hc
  obtain ⟨l',hl',hc⟩:=Option.map_eq_some_iff.1 hc
  cases hc
  obtain ⟨v',w',ρ',hsteps,hvr,hrel,heff⟩:=hop ops i o ho hc' ρ w tmps is its bf cs (rs.map mkD) hk hv hr
  have hput:=YQQ (a:={ tmps,defers:=rs.map mkD }) (hv.ext (heff.ext hr)) c.dst hvr
  have g':=g ρ' w' (Act.put { tmps,defers:=rs.map mkD } c.dst v').tmps (.inRegion ops is::its) bf cs rs hf hk (hro.ext (heff.ext hr)) (Nat.le_trans hp (heff.len hr hrel)) (.mops hl' hi2) hput.1 hrel (hmk.eff heff)
  rw[YZf]at g'
  exact (g'.mono fun v w'' q=>q.from (heff.weak hp) (fun r hr=>.inl hr)).steps hsteps
theorem AM.loop {p:Nat} {rd:Option Nat} {fn:FuncId} {c:CC} {k:List CI} {fr:List AV} {h:List AB} {R:AV->List AB->Prop}
  (g:AM P p rd fn (.code c::.lp c::k) fr h R):AM P p rd fn (.code (.loop c)::k) fr h R:=by
 intro ρ w tmps items bf cs rs hf hk hro hp hi hv hr hmk
 obtain ⟨c',its,rfl,hc,hi2⟩:=hi.code
 obtain ⟨x,rfl,h1⟩:=qIN hc
 exact (g ρ w tmps _ bf cs rs hf hk hro hp (.mcode h1 (.mlp h1 hi2)) hv hr hmk).steps (.one stepR_loop)
theorem AM.lp {p:Nat} {rd:Option Nat} {fn:FuncId} {c:CC} {k:List CI} {fr:List AV} {h:List AB} {R:AV->List AB->Prop}
  (g:AM P p rd fn (.code c::.lp c::k) fr h R):AM P p rd fn (.lp c::k) fr h R:=by
 intro ρ w tmps items bf cs rs hf hk hro hp hi hv hr hmk
 obtain ⟨x,its,rfl,h1,hi2⟩:=hi.lp
 exact (g ρ w tmps _ bf cs rs hf hk hro hp (.mcode h1 (.mlp h1 hi2)) hv hr hmk).steps (.one stepR_inLoop)
theorem zCA {ρ:Mp} {h:List AB} {w:World} (hr:Rel (KC P) ρ h w) (t:TypeId) {d:TypeDesc} {i:TypeInfo} (hd:P.underlying t=some d) (hi:P.info? t=some i) {x a:AV} {vx:Value} (hx:VR ρ x vx) (e:ldV h (if isAg d then some i.size else none) x=some a) :
  ∃v,(do loadVar t (<-asAddr vx):Sem Value).run P w=.ok v w/\VR ρ a v:=by
 cases hx with
 | p id off b o n hρ =>
  by_cases ha:isAg d=true
  ·rw[if_pos ha]at e
   simp only[ldV]at e
   obtain ⟨xs,hxs,e⟩:=oQ.1 e
   split at e
   ·rename_i hle
    cases e
    obtain ⟨vs,hl,hc,hv⟩:=hr.win hxs hρ off i.size hle
    refine ⟨.agg vs.toArray,?_,XC9 hv⟩
    have hload:=run_loadCells_list (P:=P) w ⟨b,o+off,none⟩ vs hc
    rw[hl]at hload
    simp [asAddr,loadVar,JeZ hd,ha,sizeOf,typeInfo,hi,hload]
   ·cases e
  ·rw[if_neg ha]at e
   simp only[ldV]at e
   obtain ⟨xs,hxs,e⟩:=oQ.1 e
   obtain ⟨cs,ty,fz,h1,h3,h4⟩:=hr.row hxs hρ
   obtain ⟨c,hc,hv⟩:=h4 off a e
   refine ⟨c,?_,hv⟩
   simp [asAddr,loadVar,JeZ hd,ha,World.cell?,h1,hc]
 | _=>by_cases ha:isAg d=true <;> simp [ha,ldV]at e
def resF (tmps:Array Value):ResultVar->Sem Value
 | .tmp t=>pure (tmps.getD t undef)
 | .cell c t=>do loadVar t (<-asAddr (tmps.getD c undef))
theorem ZBx {ρ:Mp} {h:List AB} {w:World} (hr:Rel (KC P) ρ h w) {fr:List AV} {tmps:Array Value} (hv:VL ρ fr tmps) {a:AV}:∀(rv:ResultVar) (r:RC),cRes P [rv]=some [r]->KZN fr h r=some a ->
  ∃v,(resF tmps rv).run P w=.ok v w/\VR ρ a v:=by
 have get:∀(n:Nat),VR ρ (fr.getD n (.tu [])) (tmps.getD n undef):=fun n=>by
  rw[List.getD_eq_getElem?_getD,Array.getD_eq_getD_getElem?]
  cases hf:fr[n]? with
  | none =>
   rw[Array.getElem?_eq_none (by rw[<-hv.1];exact List.getElem?_eq_none_iff.1 hf)]
   exact .tu [] #[] rfl (fun j a c h=>by simp at h)
  | some x =>
   obtain ⟨c,hc,hx⟩:=hv.get hf
   rw[hc]
   exact hx
 intro rv r hc e
 cases rv with
 | tmp t =>
  cases hc
  cases e
  exact ⟨_,rfl,get t⟩
 | cell c t =>
  simp only[cRes]at hc
  obtain ⟨n,hn,hc⟩:=oQ.1 hc
  obtain ⟨l,hl,hc⟩:=Option.map_eq_some_iff.1 hc
  cases hl
  cases hc
  obtain ⟨d,i,hd,hi,rfl⟩:=JVz hn
  have hx:=get c
  exact zCA hr t hd hi hx e
theorem Qq2 {ρ:Mp} {h:List AB} {w:World} (hr:Rel (KC P) ρ h w) {fr:List AV} {tmps:Array Value} (hv:VL ρ fr tmps):∀(rvs:List ResultVar) (rs:List RC) (az:List AV),cRes P rvs=some rs->JRR fr h rs=some az ->
  ∃vs,(rvs.mapM (resF tmps)).run P w=.ok vs w/\VL ρ az vs.toArray
 | [],rs,az,hc,e=>by
  cases hc
  cases e
  exact ⟨[],rfl,VL.nil ρ⟩
 | rv::rvs,rs,az,hc,e=>by
  have hsplit:∃r rs',rs=r::rs'/\cRes P [rv]=some [r]/\cRes P rvs=some rs':=by
   cases rv with
   | tmp t =>
    simp only[cRes]at hc
    obtain ⟨l,hl,hc⟩:=Option.map_eq_some_iff.1 hc
    exact ⟨_,l,hc.symm,rfl,hl⟩
   | cell c t =>
    simp only[cRes]at hc
    obtain ⟨n,hn,hc⟩:=oQ.1 hc
    obtain ⟨l,hl,hc⟩:=Option.map_eq_some_iff.1 hc
    exact ⟨_,l,hc.symm,by simp [cRes,hn],hl⟩
  obtain ⟨r,rs',rfl,hc1,hc2⟩:=hsplit
  simp only[JRR]at e
  obtain ⟨a,ha,e⟩:=oQ.1 e
  obtain ⟨as',has,e⟩:=Option.map_eq_some_iff.1 e
  cases e
  obtain ⟨v,h1,h2⟩:=ZBx hr hv rv r hc1 ha
  obtain ⟨vs,h3,h4⟩:=Qq2 hr hv rvs rs' as' hc2 has
  refine ⟨v::vs,?_,VL.cons h2 h4⟩
  rw[List.mapM_cons]
  simp [h1,h3]
theorem KYr {ρ:Mp} {h:List AB} {w:World} (hr:Rel (KC P) ρ h w) {fr:List AV} {tmps:Array Value} (hv:VL ρ fr tmps) {f:Func} {rs:List RC} {a:AV} (hc:cRes P f.results.toList=some rs) (e:resV fr h rs=some a) :
  ∃v,(results f tmps).run P w=.ok v w/\VR ρ a v:=by
 unfold resV at e
 obtain ⟨az,has,e⟩:=Option.map_eq_some_iff.1 e
 obtain ⟨vs,h1,h2⟩:=Qq2 hr hv _ _ _ hc has
 have h3:(f.results.mapM (resF tmps)).run P w=.ok vs.toArray w:=by
  rw[Array.mapM_eq_mapM_toList]
  simp [h1]
 have h4:results f tmps=(do let vs<-f.results.mapM (resF tmps);pure (if h:vs.size=1 then vs[0] else .tuple vs)):=by
  unfold results
  congr 1
 rw[h4]
 cases vs with
 | nil =>
  have:az=[]:=List.eq_nil_of_length_eq_zero (by rw[h2.1];rfl)
  subst this
  cases e
  exact ⟨.tuple #[],by simp [h3],.tu [] #[] rfl (fun j a c h=>by simp at h)⟩
 | cons v vs =>
  cases az with
  | nil=>have:=h2.1;simp at this
  | cons x xs =>
   cases vs with
   | nil =>
    cases xs with
    | nil =>
     cases e
     exact ⟨v,by simp [h3],h2.2 0 x v rfl rfl⟩
    | cons y ys=>have:=h2.1;simp at this
   | cons u us =>
    cases xs with
    | nil=>have:=h2.1;simp at this
    | cons y ys =>
     cases e
     exact ⟨.tuple (v::u::us).toArray,by simp [h3],.tu _ _ h2.1 h2.2⟩
theorem qpq:∀(rs:List Nat) (fr:Frame) (cs:List Frame) (w:World),fr.mode≠.run->fr.defers=rs.map mkD->rs.Nodup->(∀r∈rs,w.heap[r]?=some (.deferred (some []))) ->
  ∃w',Steps P (lone fr cs w) (lone { fr with defers:=[] } cs w')/\w'.os=w.os/\w'.tape=w.tape/\(w'.output=w.output/\dr w<=dr w')/\w'.heap.size=w.heap.size/\∀k,k∉rs->w'.heap[k]?=w.heap[k]?
 | [],fr,cs,w,_,hd,_,_=>by
  refine ⟨w,?_,rfl,rfl,⟨rfl,Nat.le_refl _⟩,rfl,fun _ _=>rfl⟩
  have:({ fr with defers:=[] }:Frame)=fr:=by
   cases fr
   simp_all
  rw[this]
  exact .refl _ _
 | r::rs,fr,cs,w,hm,hd,hn,hb=>by
  have hb1:=hb r (List.mem_cons_self ..)
  have hn':=List.nodup_cons.1 hn
  have htake:(Instr.takeDeferred r).run P w=.ok [] { w with heap:=w.heap.setIfInBounds r (.deferred none) }:=run_takeDeferred hb1
  have h1:=step_collected (P:=P) (cs:=cs) hm hd rfl htake
  obtain ⟨w',s,e1,e2,e3,e4,e5⟩:=qpq rs { fr with defers:=[]++rs.map mkD } cs { w with heap:=w.heap.setIfInBounds r (.deferred none) } hm (by simp) hn'.2 (fun q hq=>by
   have hne:r≠q:=fun e=>hn'.1 (e▸hq)
   simp only[Array.getElem?_setIfInBounds_ne hne]
   exact hb q (List.mem_cons_of_mem _ hq))
  refine ⟨w',Steps.head h1 s,e1,e2,e3,by rw[e4];simp,fun k hk=>?_⟩
  rw[e5 k (fun h=>hk (List.mem_cons_of_mem _ h))]
  simp only[Array.getElem?_setIfInBounds_ne (fun e=>hk (e▸List.mem_cons_self ..):r≠k)]
theorem qlN {p:Nat} {fn:FuncId} {f:Func} {rs:List Nat} {rcs:List RC} {fr:List AV} {h:List AB} {a:AV} {R:AV->List AB->Prop} (hf:P.funcs[fn]?=some f) (hc:cRes P f.results.toList=some rcs) (e:resV fr h rcs=some a) (g:R a h)
  {ρ:Mp} {w:World} {tmps:Array Value} {items:List Item} {bf:Frame} {cs:List Frame} (hfn:bf.fn=fn) (hk:bf.kind=.normal) (hv:VL ρ fr tmps) (hr:Rel (KC P) ρ h w) (hmk:Marks ρ h w rs) :
  Ret P none bf cs (PostR P p rs ρ h w R) (lone { bf.atR { tmps,defers:=rs.map mkD } items with mode:=.returning } cs w):=by
 obtain ⟨w',s,e1,e2,e3,e4,e5⟩:=qpq (P:=P) rs { bf.atR { tmps,defers:=rs.map mkD } items with mode:=.returning } cs w (by simp) rfl hmk.1 (fun r hr=>(hmk.2 r hr).1)
 have hr':Rel (KC P) ρ h w':=⟨hr.len,fun i B b o n h1 h2=>(hr.blk i B b o n h1 h2).same (Ext.refl _) (fun hl=>e5 b fun hb=>(hmk.2 b hb).2 i ⟨B,(o,n),h1,hl,h2⟩),hr.sep,
  hr.gl.keepC (by omega) (fun b cs' e' fz _ _ hc=>(e5 b fun hb=>by rw[(hmk.2 b hb).1]at hc;cases hc).trans hc) fun _ q=>.inl q⟩
 obtain ⟨v,h1,h2⟩:=KYr hr' hv hc e
 exact ⟨v,w',⟨a,h,ρ,g,h2,hr',⟨e1,e2,e3,by omega,fun b _ _ hb=>e5 b hb,fun b hb=>.inl hb,fun i b hb=>.inl ⟨i,hb,fun _=>rfl,fun q=>q⟩,fun _ _=>rfl⟩⟩,_,s,rfl,rfl,rfl,hk,f,by rw[<-hf];exact congrArg _ hfn,h1⟩
theorem AM.ret {p:Nat} {fn:FuncId} {f:Func} {rs:List RC} {k:List CI} {fr:List AV} {h:List AB} {a:AV} {R:AV->List AB->Prop} (hf:P.funcs[fn]?=some f) (hc:cRes P f.results.toList=some rs) (e:resV fr h rs=some a) (g:R a h):AM P p none fn (.code .ret::k) fr h R:=by
 intro ρ w tmps items bf cs ms hfn hk hro hp hi hv hr hmk
 obtain ⟨c',its,rfl,hcc,hi2⟩:=hi.code
 obtain rfl:c'=.ret:=qIN hcc
 exact (qlN hf hc e g hfn hk hv hr hmk).steps (.one (stepR_ret hro))
theorem AM.fin {p:Nat} {fn:FuncId} {f:Func} {rs:List RC} {fr:List AV} {h:List AB} {a:AV} {R:AV->List AB->Prop} (hf:P.funcs[fn]?=some f) (hc:cRes P f.results.toList=some rs) (e:resV fr h rs=some a) (g:R a h):AM P p none fn [] fr h R:=by
 intro ρ w tmps items bf cs ms hfn hk hro hp hi hv hr hmk
 obtain rfl:items=[]:=by
  match items,hi with
  | [],_=>rfl
 exact (qlN hf hc e g hfn hk hv hr hmk).steps (.one (stepR_end hro))
theorem Zi1 {ρ:Mp} {h:List AB} {w:World} (hr:Rel (KC P) ρ h w) {id:Nat} {st st':LoopState} {pd pd':XE} {fr0:List AV} {ps:List Nat} {asg bd:CC} (hlp:h[id]?=some (.lp st pd fr0 ps asg bd)) {l o n:Nat} (hρ:ρ[id]?=some (l,o,n)) {r:Loop} (hl:w.heap[l]?=some (.loop r)) :
  Rel (KC P) ρ (h.set id (.lp st' pd' fr0 ps asg bd)) { w with heap:=w.heap.setIfInBounds l (.loop { r with state:=st',pending:=pd'.jump }) }/\Eff ρ h w ρ (h.set id (.lp st' pd' fr0 ps asg bd)) { w with heap:=w.heap.setIfInBounds l (.loop { r with state:=st',pending:=pd'.jump }) }:=by
 obtain ⟨r',h1,h2,h3,h4,h5,h6,h7⟩:=Xzn hr hlp hρ
 rw[hl]at h1
 cases h1
 have hlt:l<w.heap.size:=(Array.getElem?_eq_some_iff.1 hl).1
 refine hr.put hlp rfl hρ ⟨{ r with state:=st',pending:=pd'.jump },by simp [hlt],rfl,rfl,h4,h5,h6,h7⟩ rfl rfl ⟨rfl,Nat.le_refl _⟩ (by simp) (fun k hk=>?_) (fun _=>rfl)
 simp only[Array.getElem?_setIfInBounds_ne (Ne.symm hk)]
theorem YGN {ρ:Mp} {h:List AB} {w:World} (hr:Rel (KC P) ρ h w) {id:Nat} {st:LoopState} {pd:XE} {fr0:List AV} {ps:List Nat} {asg bd:CC} (hlp:h[id]?=some (.lp st pd fr0 ps asg bd)) {l o n:Nat} (hρ:ρ[id]?=some (l,o,n)) (x:Obj) :
  Rel (KC P) ρ (h.set id .dead) { w with heap:=w.heap.setIfInBounds l x }/\Eff ρ h w ρ (h.set id .dead) { w with heap:=w.heap.setIfInBounds l x }:=by
 refine hr.put hlp rfl hρ trivial rfl rfl ⟨rfl,Nat.le_refl _⟩ (by simp) (fun k hk=>?_) (fun hl=>by cases hl)
 simp only[Array.getElem?_setIfInBounds_ne (Ne.symm hk)]
def rdSt:XE->LoopState
 | .n=>.ready
 | _=>.done
def Z78 (id:Nat) (x:XE) (fr0:List AV) (ps:List Nat) (asg bd:CC) (h:List AB):AV×List AB:=
 (.b (match x with | .n=>true|_=>false),h.set id (.lp (rdSt x) x fr0 ps asg bd))
theorem qmD {p id:Nat} {x:XE} {st:LoopState} {pd:XE} {fr0:List AV} {ps:List Nat} {asg bd:CC} {h:List AB} {R:AV->List AB->Prop} (hp:p<=h.length) (hlp:h[id]?=some (.lp st pd fr0 ps asg bd)) (g:R (Z78 id x fr0 ps asg bd h).1 (Z78 id x fr0 ps asg bd h).2)
  {ρ:Mp} {w:World} {bf:Frame} {cs:List Frame} {rs:List Nat} {m:Machine} (hr:Rel (KC P) ρ h w) {l:Nat} {on:Nat×Nat} (hρ:ρ[id]?=some (l,on))
  (hst:∀(v:Value) (w':World),(Instr.endRound l x.jump).run P w=.ok v w'->∀c cs',cs=c::cs'->step P m=.next (lone (c.finish v) cs' w')):Ret P (some id) bf cs (PostR P p rs ρ h w R) m:=by
 obtain ⟨o,n⟩:=on
 obtain ⟨r,h1,h2,h3,h4⟩:=Xzn hr hlp hρ
 have hrun:(Instr.endRound l x.jump).run P w=.ok (.bool x.jump.isNone) { w with heap:=w.heap.setIfInBounds l (.loop { r with state:=if x.jump.isNone then .ready else .done,pending:=x.jump }) }:=run_endRound x.jump h1
 obtain ⟨q1,q2⟩:=Zi1 (st':=rdSt x) (pd':=x) hr hlp hρ h1
 have hst':(if x.jump.isNone then LoopState.ready else .done)=rdSt x:=by cases x <;> rfl
 rw[hst']at hrun
 refine ⟨_,_,⟨_,_,ρ,g,?_,q1,(q2.p (Ext.refl _) (by rw[hr.len];exact hp)).x rs⟩,fun c cs' e=>.one (hst _ _ hrun c cs' e)⟩
 cases x <;> exact .b _
theorem AM.rend {p id:Nat} {fn:FuncId} {st:LoopState} {pd:XE} {fr0:List AV} {ps:List Nat} {asg bd:CC} {fr:List AV} {h:List AB} {R:AV->List AB->Prop} (hlp:h[id]?=some (.lp st pd fr0 ps asg bd)) (g:R (Z78 id .n fr0 ps asg bd h).1 (Z78 id .n fr0 ps asg bd h).2):AM P p (some id) fn [] fr h R:=by
 intro ρ w tmps items bf cs ms hfn hk hro hp hi hv hr hmk
 obtain rfl:items=[]:=by
  match items,hi with
  | [],_=>rfl
 obtain ⟨l,on,h1,h2⟩:=hro
 exact qmD (x:=.n) hp hlp g hr h1 (fun v w' e c cs' hcs=>by subst hcs;exact stepR_round_end h2 hk e)
theorem AM.rret {p id:Nat} {fn:FuncId} {st:LoopState} {pd:XE} {fr0:List AV} {ps:List Nat} {asg bd:CC} {fr:List AV} {h:List AB} {k:List CI} {R:AV->List AB->Prop} (hlp:h[id]?=some (.lp st pd fr0 ps asg bd)) (g:R (Z78 id .r fr0 ps asg bd h).1 (Z78 id .r fr0 ps asg bd h).2):AM P p (some id) fn (.code .ret::k) fr h R:=by
 intro ρ w tmps items bf cs ms hfn hk hro hp hi hv hr hmk
 obtain ⟨c',its,rfl,hcc,hi2⟩:=hi.code
 obtain rfl:c'=.ret:=qIN hcc
 obtain ⟨l,on,h1,h2⟩:=hro
 exact qmD (x:=.r) hp hlp g hr h1 (fun v w' e c cs' hcs=>by subst hcs;exact stepR_round_ret h2 hk e)
theorem AM.rexit {p id:Nat} {fn:FuncId} {st:LoopState} {pd:XE} {fr0:List AV} {ps:List Nat} {asg bd:CC} {fr:List AV} {h:List AB} {k:List CI} {x:Nat} {R:AV->List AB->Prop} (hx:KYl x k=none) (hlp:h[id]?=some (.lp st pd fr0 ps asg bd)) (g:R (Z78 id (.x x) fr0 ps asg bd h).1 (Z78 id (.x x) fr0 ps asg bd h).2):AM P p (some id) fn (.code (.exit x)::k) fr h R:=by
 intro ρ w tmps items bf cs ms hfn hk hro hp hi hv hr hmk
 obtain ⟨c',its,rfl,hcc,hi2⟩:=hi.code
 obtain rfl:c'=.exit x:=qIN hcc
 obtain ⟨l,on,h1,h2⟩:=hro
 exact qmD (x:=.x x) hp hlp g hr h1 (fun v w' e c cs' hcs=>by subst hcs;exact stepR_round_exit h2 hk (zyi x k its hi2 hx) e)
theorem AM.br {p id:Nat} {fn:FuncId} {pd:XE} {fr0:List AV} {ps:List Nat} {asg bd:CC} {fr:List AV} {h:List AB} {k:List CI} {R:AV->List AB->Prop} (hlp:h[id]?=some (.lp .ready pd fr0 ps asg bd)) (g:AM P p (some id) fn k fr (h.set id (.lp .busy pd fr0 ps asg bd)) R):AM P p (some id) fn (.br::k) fr h R:=by
 intro ρ w tmps items bf cs ms hfn hk hro hp hi hv hr hmk
 obtain ⟨its,rfl,hi2⟩:=hi.br
 have hro':=hro
 obtain ⟨l,⟨o,n⟩,h1,h2⟩:=hro
 obtain ⟨r,q1,q2,q3,_⟩:=Xzn hr hlp h1
 obtain ⟨r1,r2⟩:=Zi1 (st':=.busy) (pd':=pd) hr hlp h1 q1
 have e2:EffP p ρ h w ρ _ _:=r2.p (Ext.refl _) (by rw[hr.len];exact hp)
 have hrun:(Instr.beginRound l).run P w=.ok () { w with heap:=w.heap.setIfInBounds l (.loop { r with state:=.busy,pending:=pd.jump }) }:=by
  rw[<-q3]
  exact run_beginRound q1 q2
 have:=g ρ _ tmps its bf cs ms hfn hk hro' (by simpa using hp) hi2 hv r1 (hmk.eff e2)
 exact (this.mono fun v w' q=>q.from e2 (fun r hr=>.inl hr)).steps (.one (stepR_beginRound h2 hrun))
theorem Rel.beside {ρ:Mp} {h:List AB} {w:World} (r:Rel (KC P) ρ h w) (o:Obj):Rel (KC P) ρ h (w.alloc o)/\Eff ρ h w ρ h (w.alloc o):=
  r.to ⟨r.len,fun i B b o' n h1 h2=>(r.blk i B b o' n h1 h2).same (Ext.refl _) (fun hl=>Below.heap_alloc _ _ _ ((r.blk i B b o' n h1 h2).lt hl)),r.sep⟩
   ⟨rfl,rfl,⟨rfl,Nat.le_refl _⟩,by simp,fun b hb _=>Below.heap_alloc _ _ _ hb,fun b hb=>.inl hb,fun i b hb=>.inl hb⟩
def XFK:XE->List CI
 | .n=>[]
 | .x id=>[.code (.exit id)]
 | .r=>[.code .ret]
theorem KUQ {x:XE} {k:List CI} {its:List Item} (g:IRs P k its):IRs P (XFK x++k) ((x.jump.map Item.code).toList++its):=by
 cases x with
 | n=>exact g
 | x id=>exact .mcode rfl g
 | r=>exact .mcode rfl g
theorem AM.rfS {p:Nat} {fn:FuncId} {q:Opd} {ps:List Nat} {asg bd:CC} {k:List CI} {fr:List AV} {h:List AB} {R S:AV->List AB->Prop} {gid:FuncId} {fst cap:List AV} {f:Func} {cf:CF} (hq:q.ev fr=.f (.func gid) fst cap) (hf:P.funcs[gid]?=some f) (hcf:J0o P f=some cf)
  (hcall:AM P (h++[AB.lp .ready .n fr ps asg bd]).length none gid [.code cf.body] (fst++[AV.y h.length]++cap++List.replicate (cf.ntmps-(fst++[AV.y h.length]++cap).length) (.tu [])) (h++[.lp .ready .n fr ps asg bd]) S)
  (post:∀v h2,S v h2->∃st pd fr1 ps1 a1 b1,h2[h.length]?=some (.lp st pd fr1 ps1 a1 b1)/\st≠.busy/\AM P p none fn (XFK pd++k) fr (h2.set h.length .dead) R):AM P p none fn (.code (.rf q ps asg bd)::k) fr h R:=by
 intro ρ w tmps items bf cs ms hfn hk hro hp hi hv hr hmk
 obtain ⟨c',its,rfl,hc,hi2⟩:=hi.code
 obtain ⟨o,qs,x,y,rfl,ho,hqs,hx,hy⟩:=qIN hc
 have hev:=EV.of (a:={ tmps,defers:=ms.map mkD }) hv o q ho
 rw[hq]at hev
 generalize hoe:Act.eval { tmps,defers:=ms.map mkD } o=vf at hev
 cases hev with
 | f _ _ _ fst' cap' hl0 hl hvc0 hvc =>
 obtain ⟨hname,body,hbody,hcb,hres,hnt⟩:=qKr hcf
 have hro0:bf.roundOf=none:=hro
 let W1:World:=w.alloc (.deferred (some []))
 let rec_:Loop:={ state:=.ready,pending:=none,fn:=bf.fn,tmps,params:=qs,assign:=x,body:=y,defers:=w.heap.size }
 let W:World:=W1.alloc (.loop rec_)
 have hs1:W1.heap.size=w.heap.size+1:=by simp [W1]
 obtain ⟨b1r,b2⟩:=hr.beside (.deferred (some []))
 obtain ⟨n1,n2⟩:=b1r.new (.loop rec_) (.lp .ready .n fr ps asg bd) 0 ⟨rec_,World.alloc_heap_new W1 _,rfl,rfl,hv.ext (Ext.push _ _),hqs,hx,hy⟩
 have e0:EffP p ρ h w (ρ++[(W1.heap.size,0,0)]) (h++[.lp .ready .n fr ps asg bd]) W:=((b2.trans n2).p (Ext.push _ _) (by rw[hr.len];exact hp))
 have hatW:∀i,¬At (ρ++[(W1.heap.size,0,0)]) (h++[AB.lp .ready .n fr ps asg bd]) i w.heap.size:=fun i ha=>by
  rcases (n2.liv i _ ha) with q|q|q
  ·obtain ⟨B,on,q1,q2,q3⟩:=q
   have:=(hr.blk i B _ on.1 on.2 q1 q3).lt q2
   omega
  ·obtain ⟨i',B,on,q1,q2,q3⟩:=q
   have:=(hr.blk i' B _ on.1 on.2 q1 q3).lt (AB.live_of_mut q2)
   omega
  ·rw[hs1]at q;omega
 have hmk1:Marks (ρ++[(W1.heap.size,0,0)]) (h++[AB.lp .ready .n fr ps asg bd]) W (w.heap.size::ms):=by
  have hm0:=hmk.eff e0
  refine ⟨List.nodup_cons.2 ⟨fun hmem=>?_,hmk.1⟩,fun r hr'=>?_⟩
  ·have:=(Array.getElem?_eq_some_iff.1 (hmk.2 _ hmem).1).1
   omega
  ·rcases List.mem_cons.1 hr' with rfl|hr'
   ·refine ⟨?_,hatW⟩
    rw[Below.heap_alloc _ _ _ (by rw[hs1];omega)]
    exact World.alloc_heap_new w _
   ·exact hm0.2 r hr'
 have henterL:(Instr.enterLoop bf.fn tmps qs x y bf.roundOf).run P w=.ok (w.heap.size+1,[mkD w.heap.size]) W:=by
  rw[hro0]
  exact run_enterLoop_outer _ _ _ _ _
 have hresv:(resolve (Act.eval { tmps,defers:=ms.map mkD }) (rangeCall o (w.heap.size+1)) 0).run P W=.ok { target:=.fn (.func gid) cap',args:=fst' ++ #[Value.func (.yield (w.heap.size+1)) #[] #[]] } W:=by
  have:resolve (Act.eval { tmps,defers:=ms.map mkD }) (rangeCall o (w.heap.size+1)) 0=Deferred.ofValue (Act.eval { tmps,defers:=ms.map mkD } o) #[Value.func (.yield (w.heap.size+1)) #[] #[]]:=by
   simp [resolve]
   rfl
  rw[this,hoe]
  rfl
 have hinv:(invoke (.fn (.func gid) cap') (fst' ++ #[Value.func (.yield (w.heap.size+1)) #[] #[]])).run P W=.ok (.enter gid (fst' ++ #[Value.func (.yield (w.heap.size+1)) #[] #[]]++cap')) W:=by
  simp [invoke, callFunc, hf, show f.name ≠ "runtime.NumGoroutine" by simpa using hname, hbody]
 have hstep:=stepR_rangeFunc (P:=P) (b:=bf) (a:={ tmps,defers:=ms.map mkD }) (k:=its) (cs:=cs) (w:=w) henterL hresv hinv
 let bf':Frame:={ (default:Frame) with fn:=gid,kind:=.normal,roundOf:=none }
 have henter:Frame.enter P gid (fst' ++ #[Value.func (.yield (w.heap.size+1)) #[] #[]]++cap') .normal =
   bf'.atR { tmps:=(fst' ++ #[Value.func (.yield (w.heap.size+1)) #[] #[]]++cap')++Array.replicate (f.ntmps-(fst' ++ #[Value.func (.yield (w.heap.size+1)) #[] #[]]++cap').size) undef,defers:=[] } [.code body]:=by
  simp [Frame.enter,Frame.atR,hf,hbody,bf']
 have hyv:VR (ρ++[(W1.heap.size,0,0)]) (.y h.length) (.func (.yield (w.heap.size+1)) #[] #[]):=.y h.length (w.heap.size+1) 0 0 (by rw[<-hr.len,List.getElem?_append_right (Nat.le_refl _),hs1];simp)
 have hargs:VL (ρ++[(W1.heap.size,0,0)]) (fst++[AV.y h.length]++cap) (fst' ++ #[Value.func (.yield (w.heap.size+1)) #[] #[]]++cap'):=by
  have f1:VL ρ fst fst':=⟨hl0,hvc0⟩
  have f2:VL ρ cap cap':=⟨hl,hvc⟩
  exact VL.append (VL.append (f1.ext (Ext.push _ _)) (VL.one hyv)) (f2.ext (Ext.push _ _))
 have hsz:=hargs.1
 obtain ⟨v',w',⟨a,h2,ρ',hS,hva,hrel,heff⟩,frm,hsteps,hfrm,hleave⟩:=hcall (ρ++[(W1.heap.size,0,0)]) W _ [.code body] bf' (bf.atR { tmps,defers:=[mkD w.heap.size]++ms.map mkD } (.inRangeFunc (w.heap.size+1)::its)::cs) [] rfl rfl rfl (Nat.le_refl _) (.mcode hcb trivial) (hargs.append (by rw[hsz,hnt];exact qYv _ _)) n1 ⟨List.nodup_nil,fun r h=>by simp at h⟩
 have hlen1:p<=(h++[AB.lp .ready .n fr ps asg bd]).length:=by simp;omega
 obtain ⟨st,pd,fr1,ps1,a1,b1,hlp,hst,g⟩:=post a h2 hS
 have heP:=heff.p
 have hext1:=heP.ext n1
 have hρl:ρ'[h.length]?=some (w.heap.size+1,0,0):=hext1 _ _ (by rw[<-hr.len,List.getElem?_append_right (Nat.le_refl _),hs1];simp)
 obtain ⟨r,q1,q2,q3,_⟩:=Xzn hrel hlp hρl
 obtain ⟨d1,d2⟩:=YGN hrel hlp hρl (.loop { r with state:=.exhausted })
 have hend:(Instr.endLoop (w.heap.size+1)).run P w'=.ok pd.jump { w' with heap:=w'.heap.setIfInBounds (w.heap.size+1) (.loop { r with state:=.exhausted }) }:=by
  rw[<-q3]
  exact run_endLoop q1 (by rw[q2];exact hst)
 have e1:EffP p (ρ++[(W1.heap.size,0,0)]) (h++[.lp .ready .n fr ps asg bd]) W ρ' h2 w':=heP.weak hlen1
 have hlen2:p<=h2.length:=by have:=heP.len n1 hrel;omega
 have e2:EffP p ρ' h2 w' ρ' (h2.set h.length .dead) _:=d2.p (Ext.refl _) (by rw[hrel.len];exact hlen2)
 have hvr:VL ρ' fr tmps:=(hv.ext (Ext.push _ _)).ext hext1
 have gg:=g ρ' _ tmps ((pd.jump.map Item.code).toList++its) bf cs (w.heap.size::ms) hfn hk hro (by simpa using hlen2) (KUQ hi2) hvr d1 ((hmk1.eff e1).eff e2)
 refine (gg.mono fun u w'' z=>z.from ((e0.trans e1).trans e2) (fun r hr=>?_)).steps (Steps.head hstep ?_)
 ·rcases List.mem_cons.1 hr with rfl|hr
  ·exact .inr (Nat.le_refl _)
  ·exact .inl hr
 ·rw[henter]
  refine hsteps.trans (Steps.head (step_leave_returned hleave) ?_)
  rw[finish_atR_inRangeFunc]
  exact .one (stepR_endRangeFunc hend)
theorem AM.rf {p:Nat} {fn:FuncId} {q:Opd} {ps:List Nat} {asg bd:CC} {k:List CI} {fr:List AV} {h h2:List AB} {R:AV->List AB->Prop} {gid:FuncId} {fst cap:List AV} {f:Func} {cf:CF} {v:AV} (hq:q.ev fr=.f (.func gid) fst cap) (hf:P.funcs[gid]?=some f) (hcf:J0o P f=some cf)
  (hcall:AM P (h++[AB.lp .ready .n fr ps asg bd]).length none gid [.code cf.body] (fst++[AV.y h.length]++cap++List.replicate (cf.ntmps-(fst++[AV.y h.length]++cap).length) (.tu [])) (h++[.lp .ready .n fr ps asg bd]) (fun a h''=>a=v/\h''=h2))
  {st:LoopState} {pd:XE} {fr1:List AV} {ps1:List Nat} {a1 b1:CC} (hlp:h2[h.length]?=some (.lp st pd fr1 ps1 a1 b1)) (hst:st≠.busy) (g:AM P p none fn (XFK pd++k) fr (h2.set h.length .dead) R):AM P p none fn (.code (.rf q ps asg bd)::k) fr h R:=by
 exact AM.rfS hq hf hcf hcall fun v' h2' ⟨_,e⟩=>by subst e;exact ⟨st,pd,fr1,ps1,a1,b1,hlp,hst,g⟩
end
end
section
open Go.RowKit
section
variable {P:Program}
mutual
def AV.ok (q:Nat->Bool):AV->Bool
 | .p id _=>q id
 | .y id=>q id
 | .m id=>q id
 | .sl id _ len cap k=>(Nat.beq len 0&&Nat.beq cap 0&&(match k with|some z=>Nat.beq z 0|none=>false))||q id
 | .f _ fst cap=>okL q fst&&okL q cap
 | .ifc _ v=>v.ok q
 | .ag l=>okL q l
 | .tu l=>okL q l
 | .top | .b _ | .i _ _ | .s _ | .np | .se | .ns | .nf | .ni | .nm=>true
def okL (q:Nat->Bool):List AV->Bool
 | []=>true
 | a::l=>a.ok q&&okL q l
end
theorem z7N {q:Nat->Bool}:∀ {l:List AV},okL q l=true↔∀(j:Nat) (a:AV),l[j]?=some a->a.ok q=true
 | []=>by simp [okL]
 | x::l=>by
  simp only[okL,Bool.and_eq_true]
  constructor
  ·rintro ⟨h1,h2⟩ j a hj
   cases j with
   | zero=>cases hj;exact h1
   | succ j=>exact z7N.1 h2 j a hj
  ·intro h
   exact ⟨h 0 x rfl,z7N.2 fun j a hj=>h (j+1) a hj⟩
theorem KvC {q:Nat->Bool} {id off len cap:Nat} {k:Option Nat} (h:(AV.sl id off len cap k).ok q=true):(len=0/\cap=0/\k=some 0)\/q id=true:=by
 simp only[AV.ok,Bool.or_eq_true,Bool.and_eq_true]at h
 rcases h with ⟨⟨h1,h2⟩,h3⟩|h
 ·cases k with
  | none=>cases h3
  | some z =>
   have:z=0:=Nat.eq_of_beq_eq_true h3
   exact .inl ⟨Nat.eq_of_beq_eq_true h1,Nat.eq_of_beq_eq_true h2,by rw[this]⟩
 ·exact .inr h
theorem VR.agree {ρ ρ':Mp} {q:Nat->Bool} (hq:∀i,q i=true->ρ'[i]?=ρ[i]?) {a:AV} {v:Value} (h:VR ρ a v):a.ok q=true->VR ρ' a v:=by
 induction h with
 | b x=>exact fun _=>.b x
 | i k n=>exact fun _=>.i k n
 | s l bs h=>exact fun _=>.s l bs h
 | p id off b o n h=>exact fun g=>.p id off b o n (by rw[hq id g];exact h)
 | np=>exact fun _=>.np
 | y id b o n h=>exact fun g=>.y id b o n (by rw[hq id g];exact h)
 | m id b o n h=>exact fun g=>.m id b o n (by rw[hq id g];exact h)
 | nm=>exact fun _=>.nm
 | sl id off len cap k b o n cap' h h1 h2 h3 h4 h5 =>
  intro g
  rcases KvC g with ⟨rfl,rfl,rfl⟩|g
  ·exact .sz id off _ _ h3 (fun e=>nomatch e)
  ·exact .sl id off len cap k b o n cap' (by rw[hq id g];exact h) h1 h2 h3 h4 h5
 | sz id off a c h hn=>exact fun _=>.sz id off a c h hn
 | se a c h=>exact fun _=>.se a c h
 | ns=>exact fun _=>.ns
 | f fn fst cap fst' cap' h0 h _ _ ih0 ih =>
  intro g
  simp only[AV.ok,Bool.and_eq_true]at g
  exact .f fn fst cap fst' cap' h0 h (fun j a c h1 h2=>ih0 j a c h1 h2 (z7N.1 g.1 j a h1)) (fun j a c h1 h2=>ih j a c h1 h2 (z7N.1 g.2 j a h1))
 | nf=>exact fun _=>.nf
 | ifc t v v' _ ih=>exact fun g=>.ifc t v v' (ih g)
 | ni=>exact fun _=>.ni
 | ag l cs h _ ih=>exact fun g=>.ag l cs h (fun j a c h1 h2=>ih j a c h1 h2 (z7N.1 g j a h1))
 | tu l cs h _ ih=>exact fun g=>.tu l cs h (fun j a c h1 h2=>ih j a c h1 h2 (z7N.1 g j a h1))
 | top v=>exact fun _=>.top v
theorem VL.agree {ρ ρ':Mp} {q:Nat->Bool} (hq:∀i,q i=true->ρ'[i]?=ρ[i]?) {l:List AV} {cs:Array Value} (h:VL ρ l cs) (g:∀(j:Nat) a,l[j]?=some a->a=.top\/a.ok q=true):VL ρ' l cs:=
 ⟨h.1,fun j a c h1 h2=>by
  rcases g j a h1 with rfl|g
  ·exact .top c
  ·exact (h.2 j a c h1 h2).agree hq g⟩
def AB.ok (q:Nat->Bool):AB->Bool
 | .blk false _ xs=>okL q xs
 | .lp _ _ fr _ _ _=>okL q fr
 | .mo _ _ fr=>okL q fr
 | _=>true
theorem BR.agree {ρ ρ':Mp} {q:Nat->Bool} (hq:∀i,q i=true->ρ'[i]?=ρ[i]?) {w w':World} {b o n:Nat} {B:AB} (h:BR (KC P) ρ w b o n B) (hB:B.ok q=true) (hw:B.live=true->w'.heap[b]?=w.heap[b]?):BR (KC P) ρ' w' b o n B:=by
 cases B with
 | dead=>trivial
 | blk fl m xs =>
  obtain ⟨cs,e,fz,h1,h2,h3,h4⟩:=h
  refine ⟨cs,e,fz,(hw rfl).trans h1,h2,h3,fun k a c ha hc=>?_⟩
  cases fl with
  | true=>exact h4 k a c ha hc
  | false=>exact (h4 k a c ha hc).agree hq (z7N.1 hB k a ha)
 | iter s pos=>exact ⟨h.1,(hw rfl).trans h.2⟩
 | lp st pd fr ps asg bd =>
  obtain ⟨r,h1,h2,h3,h4,h5⟩:=h
  exact ⟨r,(hw rfl).trans h1,h2,h3,⟨h4.1,fun k a c ha hc=>(h4.2 k a c ha hc).agree hq (z7N.1 hB k a ha)⟩,h5⟩
 | mo m k fr =>
  obtain ⟨h0,cs,h1,h4⟩:=h
  exact ⟨h0,cs,(hw rfl).trans h1,⟨h4.1,fun k a c ha hc=>(h4.2 k a c ha hc).agree hq (z7N.1 hB k a ha)⟩⟩
def AB.freeze:AB->AB
 | .blk fl _ xs=>.blk fl false xs
 | .iter _ _=>.dead
 | .lp _ _ _ _ _ _=>.dead
 | .mo _ k fr=>.mo false k fr
 | .dead=>.dead
def AB.le (B' B:AB):Prop:=B'=.dead\/B'=B.freeze\/B'=B
theorem AB.le.live {B' B:AB} (h:B'.le B) (hl:B'.live=true):B.live=true:=by
 rcases h with rfl|rfl|rfl
 ·cases hl
 ·cases B <;> first|rfl|cases hl
 ·exact hl
theorem AB.le.mut {B' B:AB} (h:B'.le B) (hl:B'.mut=true):B.mut=true:=by
 rcases h with rfl|rfl|rfl
 ·cases hl
 ·cases B <;> cases hl
 ·exact hl
theorem BR.le {ρ:Mp} {w:World} {b o n:Nat} {B B':AB} (h:BR (KC P) ρ w b o n B) (hl:B'.le B):BR (KC P) ρ w b o n B':=by
 rcases hl with rfl|rfl|rfl
 ·trivial
 ·cases B with
  | dead=>trivial
  | blk fl m xs =>
   obtain ⟨cs,e,fz,h1,_,h3,h4⟩:=h
   exact ⟨cs,e,fz,h1,(fun e=>nomatch e),h3,h4⟩
  | iter s pos=>trivial
  | lp _ _ _ _ _ _=>trivial
  | mo m k fr=>exact h
 ·exact h
theorem Rel.part {ρ:Mp} {H M:List AB} {w:World} (r:Rel (KC P) ρ H w) {lo:Nat} (hM:M.length=lo) (hlo:lo<=H.length) (hle:∀(i:Nat) B' B,M[i]?=some B'->H[i]?=some B->B'.le B)
  (hok:∀(i:Nat) B,M[i]?=some B->B.ok (fun i=>decide (i<lo))=true):Rel (KC P) (ρ.take lo) M w:=by
 have tk:∀(i:Nat) x,(ρ.take lo)[i]?=some x->i<lo/\ρ[i]?=some x:=fun i x h=>by
  rw[List.getElem?_take]at h
  split at h
  ·exact ⟨by assumption,h⟩
  ·cases h
 have old:∀(i:Nat) B',M[i]?=some B'->∃B,H[i]?=some B/\B'.le B:=fun i B' h=>by
  have hi:i<H.length:=by have:=(List.getElem?_eq_some_iff.1 h).1;omega
  exact ⟨H[i],List.getElem?_eq_getElem hi,hle i B' _ h (List.getElem?_eq_getElem hi)⟩
 refine ⟨by rw[List.length_take,r.len,hM];omega,fun i B b o n h1 h2=>?_,fun i j bi oi bj oj Bi Bj hne h1 h2 h3 h4 hm hl=>?_,r.gl.sub fun b ⟨i,B',o,h1,hm,h3⟩=>by
  obtain ⟨B,hB,hle'⟩:=old i B' h1
  exact ⟨i,B,o,hB,hle'.mut hm,(tk i _ h3).2⟩⟩
 ·obtain ⟨C,hC,hle'⟩:=old i B h1
  have hb:=(r.blk i C b o n hC (tk i _ h2).2).le hle'
  refine hb.agree (q:=fun i=>decide (i<lo)) (fun i hi=>?_) (hok i B h1) (fun _=>rfl)
  rw[List.getElem?_take,if_pos (by simpa using hi)]
 ·obtain ⟨Ci,hCi,hi⟩:=old i Bi h1
  obtain ⟨Cj,hCj,hj⟩:=old j Bj h2
  exact r.sep i j bi oi bj oj Ci Cj hne hCi hCj (tk i _ h3).2 (tk j _ h4).2 (hi.mut hm) (hj.live hl)
def Jhr (ρ ρ1:Mp) (lo hi:Nat):Mp:=ρ.take lo++(ρ1.drop lo).take (hi-lo)++ρ.drop hi
theorem Qc2 {ρ ρ1:Mp} {lo hi:Nat} (h1:lo<=hi) (h2:ρ1.length=hi) (h3:hi<=ρ.length) (i:Nat):(Jhr ρ ρ1 lo hi)[i]?=if lo<=i/\i<hi then ρ1[i]? else ρ[i]?:=by
 unfold Jhr
 by_cases hi1:i<lo
 ·rw[List.append_assoc,List.getElem?_append_left (by rw[List.length_take];omega),List.getElem?_take,if_pos hi1,if_neg (by omega)]
 ·by_cases hi2:i<hi
  ·rw[if_pos ⟨by omega,hi2⟩,List.getElem?_append_left (by simp;omega),List.getElem?_append_right (by rw[List.length_take];omega),List.length_take,List.getElem?_take,if_pos (by omega),List.getElem?_drop]
   congr 1
   omega
  ·rw[if_neg (by omega),List.getElem?_append_right (by simp;omega),List.getElem?_drop]
   congr 1
   simp
   omega
theorem zie {ρ ρ1:Mp} {lo hi:Nat} (h1:lo<=hi) (h2:ρ1.length=hi) (h3:hi<=ρ.length):(Jhr ρ ρ1 lo hi).length=ρ.length:=by
 unfold Jhr
 simp
 omega
theorem Rel.whole {p:Nat} {ρ ρ1:Mp} {H M G H':List AB} {w w1:World} {lo hi:Nat} {T:Nat->Bool} {q:Nat->Bool} (r:Rel (KC P) ρ H w) (hM:M.length=lo) (hG:G.length=hi) (h12:lo<=hi) (h2:hi<=H.length) (hH':H'.length=H.length) (hp:p<=lo)
  (hle:∀(i:Nat) B' B,M[i]?=some B'->H[i]?=some B->B'.le B)
  (hT:∀i,T i=true->i<hi) (hT1:∀(i:Nat),T i=false->¬(lo<=i/\i<hi)) (hT2:∀(i:Nat) B,T i=false->M[i]?=some B->B.mut=false)
  (hin:∀i,T i=true->H'[i]?=G[i]?) (hout:∀i,T i=false->H'[i]?=H[i]?)
  (hq:∀i,q i=true->¬(lo<=i/\i<hi)) (hqH:∀(i:Nat) B,H[i]?=some B->B.ok q=true)
  (r1:Rel (KC P) ρ1 G w1) (e:EffP lo (ρ.take lo) M w ρ1 G w1) :
  Rel (KC P) (Jhr ρ ρ1 lo hi) H' w1/\EffP p ρ H w (Jhr ρ ρ1 lo hi) H' w1/\(∀i,q i=true->(Jhr ρ ρ1 lo hi)[i]?=ρ[i]?)/\Ext ρ1 (Jhr ρ ρ1 lo hi):=by
 have hl1:ρ1.length=hi:=by rw[r1.len,hG]
 have hlρ:hi<=ρ.length:=by rw[r.len];exact h2
 have sg:=Qc2 h12 hl1 hlρ
 have tk:∀(i:Nat) x,(ρ.take lo)[i]?=some x->i<lo/\ρ[i]?=some x:=fun i x h=>by
  rw[List.getElem?_take]at h
  split at h
  ·exact ⟨by assumption,h⟩
  ·cases h
 have old:∀(i:Nat) B',M[i]?=some B'->∃B,H[i]?=some B/\B'.le B:=fun i B' h=>by
  have hi:i<H.length:=by have:=(List.getElem?_eq_some_iff.1 h).1;omega
  exact ⟨H[i],List.getElem?_eq_getElem hi,hle i B' _ h (List.getElem?_eq_getElem hi)⟩
 have ext1:Ext ρ1 (Jhr ρ ρ1 lo hi):=fun i x hx=>by
  rw[sg i]
  split
  ·exact hx
  ·rename_i hn
   have hi':i<lo:=by have:=(List.getElem?_eq_some_iff.1 hx).1;omega
   have:=e.fix i hi'
   rw[hx]at this
   rw[List.getElem?_take,if_pos hi']at this
   exact this.symm
 have back1:∀(i:Nat) x,i<hi->(Jhr ρ ρ1 lo hi)[i]?=some x->ρ1[i]?=some x:=fun i x hi' h=>by
  have:=ext1 i _ (List.getElem?_eq_getElem (by omega:i<ρ1.length))
  rw[h]at this
  rw[List.getElem?_eq_getElem (by omega:i<ρ1.length)]
  exact this.symm
 have agq:∀i,q i=true->(Jhr ρ ρ1 lo hi)[i]?=ρ[i]?:=fun i hi'=>by
  rw[sg i,if_neg (hq i hi')]
 have sameF:∀i,T i=false->(Jhr ρ ρ1 lo hi)[i]?=ρ[i]?:=fun i hi'=>by
  rw[sg i,if_neg (hT1 i hi')]
 have ownM:∀b,Own (ρ.take lo) M b->∃(i:Nat) (B:AB) (o:Nat×Nat),T i=true/\H[i]?=some B/\B.mut=true/\ρ[i]?=some (b,o):=fun b ⟨i,B',o,h1,hm,h3⟩=>by
  obtain ⟨B,hB,hle'⟩:=old i B' h1
  refine ⟨i,B,o,?_,hB,hle'.mut hm,(tk i _ h3).2⟩
  cases ht:T i with
  | true=>rfl
  | false=>rw[hT2 i B' ht h1]at hm;cases hm
 have atM:∀(i b:Nat),At (ρ.take lo) M i b->At ρ H i b:=fun i b ⟨B',o,h1,hl,h3⟩=>by
  obtain ⟨B,hB,hle'⟩:=old i B' h1
  exact ⟨B,o,hB,hle'.live hl,(tk i _ h3).2⟩
 have inG:∀(i:Nat) B,T i=true->H'[i]?=some B->G[i]?=some B:=fun i B ht h=>by rw[<-hin i ht];exact h
 have inH:∀(i:Nat) B,T i=false->H'[i]?=some B->H[i]?=some B:=fun i B ht h=>by rw[<-hout i ht];exact h
 refine (fun q=>⟨q.1,q.2,agq,ext1⟩) (r.toP ⟨by rw[zie h12 hl1 hlρ,r.len,hH'],fun i B b o n k1 k2=>?_,fun i j bi oi bj oj Bi Bj hne k1 k2 k3 k4 hm hl=>?_⟩ ⟨e.os,e.tape,e.output,e.size,fun b hb hn=>e.keep b hb fun ho=>?_,fun b ho=>?_,fun i b ha=>?_,fun i hi'=>?_⟩)
 ·cases ht:T i with
  | true=>exact (r1.blk i B b o n (inG i B ht k1) (back1 i _ (hT i ht) k2)).same ext1 (fun _=>rfl)
  | false =>
   have hH:=inH i B ht k1
   rw[sameF i ht]at k2
   refine (r.blk i B b o n hH k2).agree agq (hqH i B hH) fun hl=>e.keep b ((r.blk i B b o n hH k2).lt hl) fun ho=>?_
   obtain ⟨i',B',o',t',g1,g2,g3⟩:=ownM b ho
   exact r.sep i' i b o' b (o,n) B' B (fun e=>by rw[e,ht]at t';cases t') g1 hH g3 k2 g2 hl rfl
 ·cases hti:T i with
  | true =>
   have gi:=inG i Bi hti k1
   have ri:=back1 i _ (hT i hti) k3
   cases htj:T j with
   | true=>exact r1.sep i j bi oi bj oj Bi Bj hne gi (inG j Bj htj k2) ri (back1 j _ (hT j htj) k4) hm hl
   | false =>
    have hH:=inH j Bj htj k2
    rw[sameF j htj]at k4
    rcases e.own bi ⟨i,Bi,oi,gi,hm,ri⟩ with ho|ho
    ·obtain ⟨i',B',o',t',g1,g2,g3⟩:=ownM bi ho
     exact r.sep i' j bi o' bj oj B' Bj (fun e=>by rw[e,htj]at t';cases t') g1 hH g3 k4 g2 hl
    ·have:=(r.blk j Bj bj oj.1 oj.2 hH k4).lt hl
     omega
  | false =>
   have hHi:=inH i Bi hti k1
   rw[sameF i hti]at k3
   cases htj:T j with
   | true =>
    have gj:=inG j Bj htj k2
    have rj:=back1 j _ (hT j htj) k4
    rcases e.acc j bj ⟨Bj,oj,gj,hl,rj⟩ with ⟨j',ha,h3,h4⟩|ho|ho
    ·have hj':j'<lo:=by
      obtain ⟨B',o',g1,_,_⟩:=ha
      have:=(List.getElem?_eq_some_iff.1 g1).1
      omega
     have hj:j<lo:=by
      rcases Nat.lt_or_ge j lo with q|q
      ·exact q
      ·have:=h4 q;omega
     have:=h3 hj
     subst this
     obtain ⟨B',o',g1,g2,g3⟩:=atM _ _ ha
     exact r.sep i j' bi oi bj o' Bi B' hne hHi g1 k3 g3 hm g2
    ·obtain ⟨i',B',o',t',g1,g2,g3⟩:=ownM bj ho
     exact r.sep i i' bi oi bj o' Bi B' (fun e=>by rw[<-e,hti]at t';cases t') hHi g1 k3 g3 hm (AB.live_of_mut g2)
    ·have:=(r.blk i Bi bi oi.1 oi.2 hHi k3).lt (AB.live_of_mut hm)
     omega
   | false =>
    rw[sameF j htj]at k4
    exact r.sep i j bi oi bj oj Bi Bj hne hHi (inH j Bj htj k2) k3 k4 hm hl
 ·obtain ⟨i',B',o',_,g1,g2,g3⟩:=ownM b ho
  exact hn ⟨i',B',o',g1,g2,g3⟩
 ·obtain ⟨i,B,o,g1,g2,g3⟩:=ho
  cases ht:T i with
  | true =>
   rcases e.own b ⟨i,B,o,inG i B ht g1,g2,back1 i _ (hT i ht) g3⟩ with ho|ho
   ·obtain ⟨i',B',o',_,k1,k2,k3⟩:=ownM b ho
    exact .inl ⟨i',B',o',k1,k2,k3⟩
   ·exact .inr ho
  | false=>exact .inl ⟨i,B,o,inH i B ht g1,g2,by rw[<-sameF i ht];exact g3⟩
 ·obtain ⟨B,o,g1,g2,g3⟩:=ha
  cases ht:T i with
  | true =>
   rcases e.acc i b ⟨B,o,inG i B ht g1,g2,back1 i _ (hT i ht) g3⟩ with ⟨j,ha,h3,h4⟩|ho|ho
   ·have hj':j<lo:=by
     obtain ⟨B',o',g1,_,_⟩:=ha
     have:=(List.getElem?_eq_some_iff.1 g1).1
     omega
    have hj:i<lo:=by
     rcases Nat.lt_or_ge i lo with q|q
     ·exact q
     ·have:=h4 q;omega
    have:=h3 hj
    subst this
    exact .inl ⟨j,atM _ _ ha,fun _=>rfl,fun q=>q⟩
   ·obtain ⟨i',B',o',_,k1,k2,k3⟩:=ownM b ho
    exact .inr (.inl ⟨i',B',o',k1,k2,k3⟩)
   ·exact .inr (.inr ho)
  | false=>exact .inl ⟨i,⟨B,o,inH i B ht g1,g2,by rw[<-sameF i ht];exact g3⟩,fun _=>rfl,fun q=>q⟩
 ·rw[sg i,if_neg (by omega)]
end
end
end Go.Proofs.YtekeoichmdiiiaaGreat
