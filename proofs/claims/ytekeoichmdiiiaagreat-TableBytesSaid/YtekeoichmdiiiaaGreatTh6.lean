/- Part 6 of what the laws' proofs rest on. No condition. -/
import Derived.Test.YtekeoichmdiiiaaGreatTh5
set_option linter.all false
namespace Go.Proofs.YtekeoichmdiiiaaGreat
section
open Go.RowKit
section
variable {P:Program} {K:Code->CC->Prop}
def XkF (K:Code->CC->Prop) (P:Program) (ρ:Mp) (h:List AB) (w:World) (s:Sem Next) (r:AV×List AB):Prop:=
 ∃v' w' ρ',(s.run P w=.ok (.value v') w'\/s.run P w=.ok .skip w'/\v'=undef)/\Ext ρ ρ'/\Rel K ρ' r.2 w'/\VR ρ' r.1 v'/\Eff ρ h w ρ' r.2 w'
theorem Good.next {ρ:Mp} {h:List AB} {w:World} {s:Sem Value} {r:AV×List AB} (g:Good K P ρ h w s r):XkF K P ρ h w (do let v<-s;pure (.value v)) r:=
 let ⟨v,w',ρ',e,rest⟩:=g
 ⟨v,w',ρ',.inl (by simp [e]),rest⟩
theorem Ans.next {ρ:Mp} {h:List AB} {w:World} {s:Sem Value} {a:AV} (ha:Ans P ρ s a) (hr:Rel K ρ h w):XkF K P ρ h w (do let v<-s;pure (.value v)) (a,h):=(ha.good hr).next
def EV (ρ:Mp) (f:Operand->Value) (ev:Opd->AV):Prop:=∀x y,cOpd x=some y->VR ρ (ev y) (f x)
theorem EV.of {ρ:Mp} {fr:List AV} {a:Act} (h:VL ρ fr a.tmps):EV ρ a.eval (Opd.ev fr):=fun x y e=>by
 cases x with
 | tmp t =>
  cases e
  by_cases ht:t<fr.length
  ·have h1:fr[t]?=some fr[t]:=List.getElem?_eq_getElem ht
   obtain ⟨c,hc,hv⟩:=h.get h1
   simpa [Opd.ev,Act.eval,h1,List.getD,Array.getD_eq_getD_getElem?,hc] using hv
  ·have h1:fr[t]?=none:=List.getElem?_eq_none (Nat.le_of_not_lt ht)
   have h2:a.tmps[t]?=none:=Array.getElem?_eq_none (by rw[<-h.1];exact Nat.le_of_not_lt ht)
   simpa [Opd.ev,Act.eval,h1,List.getD,Array.getD_eq_getD_getElem?,h2,undef] using VR.tu (ρ:=ρ) [] #[] rfl (fun j a c h=>by simp at h)
 | const v =>
  obtain ⟨av,h1,rfl⟩:=Option.map_eq_some_iff.1 e
  exact qKT ρ h1
 | func f =>
  cases e
  exact .f _ [] [] #[] #[] rfl rfl (fun j a c h=>by simp at h) (fun j a c h=>by simp at h)
 | global g=>cases e
theorem EV.vo {ρ:Mp} {f:Operand->Value} {ev:Opd->AV} (h:EV ρ f ev) {x:Option Operand} {y:Option Opd} (e:QRl x=some y):VO ρ (y.map ev) (x.map f):=by
 cases x with
 | none=>cases e;trivial
 | some x =>
  obtain ⟨z,hz,rfl⟩:=Option.map_eq_some_iff.1 e
  exact h x z hz
theorem EV.vl {ρ:Mp} {f:Operand->Value} {ev:Opd->AV} (h:EV ρ f ev):∀ {xs:List Operand} {ys:List Opd},KDj xs=some ys->VL ρ (ys.map ev) (xs.map f).toArray
 | [],ys,e=>by cases e;exact VL.nil ρ
 | x::xs,ys,e=>by
  simp only[KDj]at e
  obtain ⟨y,hy,e⟩:=oQ.1 e
  obtain ⟨zs,hz,rfl⟩:=Option.map_eq_some_iff.1 e
  exact VL.cons (h x y hy) (h.vl hz)
theorem EV.parts {ρ:Mp} {f:Operand->Value} {ev:Opd->AV} (h:EV ρ f ev) {place:Nat->Option (Nat×Nat)}:∀ {ps:List (Nat×Operand)} {q:List (Nat×Nat×Opd)},X0Y place ps=some q->YdU ρ place ev q (ps.map fun x=>(x.1,f x.2))
 | [],q,e=>by cases e;trivial
 | (i,x)::ps,q,e=>by
  simp only[X0Y]at e
  obtain ⟨pl,hp,e⟩:=oQ.1 e
  obtain ⟨a,ha,e⟩:=oQ.1 e
  obtain ⟨rest,hr,rfl⟩:=Option.map_eq_some_iff.1 e
  exact ⟨hp,h x a ha,h.parts hr⟩
theorem YN0 {t:TypeId} {n:Nat} (h:szOf P t=some n):∃i,P.info? t=some i/\i.size=n:=Option.map_eq_some_iff.1 h
theorem JVz {t:TypeId} {n:Option Nat} (h:agN P t=some n):∃d i,P.underlying t=some d/\P.info? t=some i/\n=(if isAg d then some i.size else none):=by
 obtain ⟨d,hd,h⟩:=oQ.1 h
 obtain ⟨i,hi,h⟩:=Option.map_eq_some_iff.1 h
 exact ⟨d,i,hd,hi,h.symm⟩
theorem QPm {t:TypeId} {zs:List AV} (h:KHY P t=some zs):∃i z,P.info? t=some i/\i.zero=some z/\absL z.cells.toList=some zs:=by
 obtain ⟨i,hi,h⟩:=oQ.1 h
 obtain ⟨z,hz,h⟩:=oQ.1 h
 exact ⟨i,z,hi,hz,h⟩
theorem KSH:∀(fs:List Field) (pl:List (Nat×Nat)),Yvl P fs=some pl->∀w,(fs.mapM fun f=>do pure (f.offset,<-sizeOf f.type):Sem (List (Nat×Nat))).run P w=.ok pl w
 | [],pl,h,w=>by
  cases h
  rfl
 | f::fs,pl,h,w=>by
  simp only[Yvl]at h
  obtain ⟨n,hn,h⟩:=oQ.1 h
  obtain ⟨rest,hr,rfl⟩:=Option.map_eq_some_iff.1 h
  obtain ⟨i,hi,rfl⟩:=YN0 hn
  have ih:=KSH fs rest hr w
  simp only[List.mapM_cons,Sem.run_bind,sizeOf,typeInfo,run_program,Result.andThen_ok,hi,Sem.run_pure]
  simp only[sizeOf,typeInfo,bind_pure_comp]at ih
  simp only[bind_pure_comp,ih,Result.andThen_ok]
theorem YDW (fs:Array Field) (g:Field->Sem (Nat×Nat)) (l:List (Nat×Nat)) (w:World) (h:(fs.toList.mapM g).run P w=.ok l w):(fs.mapM g).run P w=.ok l.toArray w:=by
 rw[Array.mapM_eq_mapM_toList]
 simp [h]
theorem qeK {ρ:Mp} {h:List AB} {w:World} (hr:Rel K ρ h w) {f:Operand->Value} {fr:List AV} (hev:EV ρ f (Opd.ev fr)) {op:BinOp} {t:TypeId} {x y:Operand} {co:CO} (hc:cBin P op t x y=some co) {r:AV×List AB} (er:co.run (Opd.ev fr) h=some r) :
  XkF K P ρ h w (do let v<-(do eqGuard op t x y (f x) (f y);binOp op t (f x) (f y));pure (.value v)) r:=by
 unfold cBin at hc
 obtain ⟨a,ha,hc⟩:=oQ.1 hc
 obtain ⟨b,hb,hc⟩:=oQ.1 hc
 have va:=hev x a ha
 have vb:=hev y b hb
 generalize f x=vx at va ⊢
 generalize f y=vy at vb ⊢
 have plain:(.bin op a b:CO).run (Opd.ev fr) h=some r->XkF K P ρ h w (do let v<-(do eqGuard op t x y vx vy;binOp op t vx vy);pure (.value v)) r:=fun er=>by
  obtain ⟨v,hv,rfl⟩:=Option.map_eq_some_iff.1 er
  exact (Yut op t x y va vb hv).next hr
 split at hc
 ·rename_i hop
  have hopn:op=(if (op == .neq) then .neq else .eql):=by rcases hop with rfl|rfl <;> rfl
  split at hc
  ·cases hc;exact plain er
  ·cases hc;exact plain er
  ·rename_i hu
   cases hc
   simp only[CO.run]at er
   split at er
   ·rename_i p q hp hq
    cases er
    rw[hp]at va
    rw[hq]at vb
    cases va
    cases vb
    have:=(J3a (P:=P) (ρ:=ρ) (op == .neq) t hu x y p q).next hr
    rcases hop with rfl|rfl <;> exact this
   ·cases er
  ·rename_i fs hu
   split at hc
   ·rename_i hg
    obtain ⟨ks,hk,rfl⟩:=Option.map_eq_some_iff.1 hc
    simp only[CO.run]at er
    split at er
    ·rename_i l l' hl hl'
     obtain ⟨q,hq,rfl⟩:=Option.map_eq_some_iff.1 er
     rw[hl]at va
     rw[hl']at vb
     have:=(QUi (P:=P) (op == .neq) 20 t hk (by omega) (by rw[hu];rfl) hg x y va vb hq).next hr
     rcases hop with rfl|rfl <;> exact this
    ·cases er
   ·cases hc
  ·rename_i n e hu
   split at hc
   ·rename_i hg
    obtain ⟨ks,hk,rfl⟩:=Option.map_eq_some_iff.1 hc
    simp only[CO.run]at er
    split at er
    ·rename_i l l' hl hl'
     obtain ⟨q,hq,rfl⟩:=Option.map_eq_some_iff.1 er
     rw[hl]at va
     rw[hl']at vb
     have:=(QUi (P:=P) (op == .neq) 20 t hk (by omega) (by rw[hu];rfl) hg x y va vb hq).next hr
     rcases hop with rfl|rfl <;> exact this
    ·cases er
   ·cases hc
  ·split at hc
   ·rename_i hn
    cases hc
    simp only[CO.run]at er
    obtain ⟨q,hq,rfl⟩:=Option.map_eq_some_iff.1 er
    cases hu:P.underlying t with
    | none =>
     rw[hu]at hn
     cases x <;> cases y <;> simp [Jg4]at hn
    | some d =>
     rw[hu]at hn
     have side:∀ {X:Operand} {A:Opd},cOpd X=some A->Jg4 X (some d)=true->(∃v,X=.const v)/\QTi d (Opd.ev fr A):=by
      intro X A hX hN
      unfold Jg4 at hN
      split at hN <;> first
       | (rename_i he;cases he;simp [cOpd,absV,absS]at hX;subst hX;exact ⟨⟨_,rfl⟩,rfl⟩)
       | cases hN
     have hcon:(∃v,x=.const v)\/∃v,y=.const v:=by
      rcases Bool.or_eq_true_iff.1 hn with q|q
      ·exact .inl (side ha q).1
      ·exact .inr (side hb q).1
     have hside:QTi d (Opd.ev fr a)\/QTi d (Opd.ev fr b):=by
      rcases Bool.or_eq_true_iff.1 hn with q|q
      ·exact .inl (side ha q).2
      ·exact .inr (side hb q).2
     have:=(QTA (P:=P) (op == .neq) t hu x y hcon va vb hq hside).next hr
     rcases hop with rfl|rfl <;> exact this
   ·cases hc
 ·cases hc;exact plain er
end
end
section
open Go.RowKit
section
variable {P:Program} {K:Code->CC->Prop}
theorem Qrk {ρ:Mp} {h:List AB} {w:World} (hr:Rel K ρ h w) (str:Bool) {t ty:TypeId} {d:TypeDesc} (hu:P.underlying t=some d) (hd:if str then d=.string else ∃e,d=.slice e) {x:AV} {vx:Value} (hx:VR ρ x vx) {r:AV×List AB} (er:(if x.isStr=str then (lenV x).map fun n=>(AV.i .i64 n,h) else none)=some r):Good K P ρ h w (Builtin.len_ #[t] ty #[vx]) r:=by
 split at er
 ·rename_i hs
  obtain ⟨n,hn,rfl⟩:=Option.map_eq_some_iff.1 er
  cases str with
  | true =>
   simp only[if_true]at hd
   subst hd
   exact (JyC (P:=P) t ty hu (.inl rfl) hx hn (propext (Iff.intro (fun _=>q5y.1 hs) (fun _=>rfl)))).good hr
  | false =>
   simp only[Bool.false_eq_true,if_false]at hd
   obtain ⟨e,rfl⟩:=hd
   exact (JyC (P:=P) t ty hu (.inr ⟨e,rfl⟩) hx hn (propext (Iff.intro (fun q=>by cases q) (fun ⟨l,q⟩=>absurd q (qKv hs l))))).good hr
 ·cases er
theorem JfO {ρ:Mp} {h:List AB} {w:World} (hr:Rel K ρ h w) {f:Operand->Value} {fr:List AV} (hev:EV ρ f (Opd.ev fr)) {b:Builtin} {args:List Operand} {ts:List TypeId} {ty:TypeId} {consts:Array Bool} {co:CO} (hc:YYD P b args ts=some co) {r:AV×List AB} (er:co.run (Opd.ev fr) h=some r):XkF K P ρ h w (builtin b ts.toArray ty consts (args.map f).toArray) r:=by
 unfold YYD at hc
 split at hc
 ·rename_i x t
  obtain ⟨a,ha,hc⟩:=oQ.1 hc
  have va:=hev x a ha
  split at hc
  ·rename_i hu
   cases hc
   exact (Qrk (P:=P) hr true hu (by simp) va er).next
  ·rename_i e hu
   cases hc
   exact (Qrk (P:=P) hr false hu (by simp) va er).next
  ·rename_i n e hu
   cases hc
   cases er
   exact ((Ans.mk (P:=P) (v:=.int .i64 n) (fun w=>by simp [Builtin.len_,run_underlying hu,goInt]) (.i _ _)).good hr).next
  ·rename_i kt et hu
   cases hc
   obtain ⟨p,hp,rfl⟩:=Option.map_eq_some_iff.1 er
   exact (qOL (P:=P) hr t kt et ty hu va hp).next
  ·cases hc
 ·rename_i ts x y
  obtain ⟨a,ha,hc⟩:=oQ.1 hc
  obtain ⟨b,hb,rfl⟩:=Option.map_eq_some_iff.1 hc
  obtain ⟨v,hv,rfl⟩:=Option.map_eq_some_iff.1 er
  exact ((ZDv (P:=P) true ts.toArray ty (hev x a ha) (hev y b hb) hv).good hr).next
 ·rename_i ts x y
  obtain ⟨a,ha,hc⟩:=oQ.1 hc
  obtain ⟨b,hb,rfl⟩:=Option.map_eq_some_iff.1 hc
  obtain ⟨v,hv,rfl⟩:=Option.map_eq_some_iff.1 er
  exact ((ZDv (P:=P) false ts.toArray ty (hev x a ha) (hev y b hb) hv).good hr).next
 ·rename_i x y t tx
  obtain ⟨a,ha,hc⟩:=oQ.1 hc
  obtain ⟨b,hb,hc⟩:=oQ.1 hc
  have gen:∀ {e:TypeId} {d:TypeDesc} {str:Bool},P.underlying t=some (.slice e)->P.underlying tx=some d->((P.info? e).bind fun ie=>(KHY P e).bind fun zs=>if zs.length=ie.size then some (CO.app str (zs.all scal) ie.size ie.bytes a b) else none)=some co ->
    (if str then d=.string else ∃e,d=.slice e)->XkF K P ρ h w (builtin .append #[t,tx] ty consts #[f x,f y]) r:=fun {e d str} hu hd hc hk=>by
   obtain ⟨ie,hie,hc⟩:=oQ.1 hc
   obtain ⟨zs,hz,hc⟩:=oQ.1 hc
   split at hc
   ·rename_i hq
    cases hc
    simp only[CO.run]at er
    split at er
    ·rename_i hs
     obtain ⟨i,z,hi,hzz,hl⟩:=QPm hz
     rw[hie]at hi
     cases hi
     have hvz:=Q6q ρ hl
     refine (zty (P:=P) hr t tx ty e hu hie hzz (by rw[<-hvz.1];exact hq) _ hd (hev x a ha) (hev y b hb) ?_ er).next
     cases str with
     | true=>exact .inl ⟨q5y.1 hs,by simpa using hk⟩
     | false=>exact .inr ⟨qKv hs,by simpa using hk⟩
    ·cases er
   ·cases hc
  split at hc
  ·rename_i e e' hu hd
   exact gen hu hd hc (by simp)
  ·rename_i e hu hd
   exact gen hu hd hc (by simp)
  ·rename_i e k hu hd
   obtain ⟨ie,hie,hc⟩:=oQ.1 hc
   obtain ⟨zs,hz,hc⟩:=oQ.1 hc
   split at hc
   ·rename_i hq
    cases hc
    obtain ⟨i,z,hi,hzz,hl⟩:=QPm hz
    rw[hie]at hi
    cases hi
    have hvz:=Q6q ρ hl
    have v1:=hev x a ha
    have v2:=hev y b hb
    simp only[CO.run]at er
    split at er
    ·rename_i ik m hx hy
     rw[hx]at v1
     rw[hy]at v2
     show XkF K P ρ h w (builtin .append #[t,tx] ty consts #[f x,f y]) r
     generalize f x=vx at v1 ⊢
     generalize f y=vy at v2 ⊢
     cases v1
     cases v2
     split at er
     ·rename_i hm0
      subst hm0
      cases er
      have hw0:IntKind.i64.wrap 0=0:=by decide
      refine ((Ans.mk (P:=P) (v:=.slice none 0 0) (fun w=>?_) .ns).good hr).next
      simp [Builtin.append_,run_underlying hu,run_underlying hd,sizeOf,typeInfo,hie,asInt,asIntOf,hw0]
     ·split at er
      ·rename_i hm
       exact (Qa4 (P:=P) hr t tx ty e hu hd hie hzz (by rw[<-hvz.1];exact hq.1) hq.2 _ hvz hm.1 hm.2.1 hm.2.2 er).next
      ·cases er
    ·cases er
   ·cases hc
  ·cases hc
 ·rename_i x y t tx
  obtain ⟨a,ha,hc⟩:=oQ.1 hc
  obtain ⟨b,hb,hc⟩:=oQ.1 hc
  have gen:∀ {e:TypeId} {d:TypeDesc} {str:Bool},P.underlying t=some (.slice e)->P.underlying tx=some d->((szOf P e).map fun n=>CO.cpy str n a b)=some co ->
    (if str then d=.string else ∃e,d=.slice e)->XkF K P ρ h w (builtin .copy #[t,tx] ty consts #[f x,f y]) r:=fun {e d str} hu hd hc hk=>by
   obtain ⟨n,hn,rfl⟩:=Option.map_eq_some_iff.1 hc
   obtain ⟨ie,hie,rfl⟩:=YN0 hn
   simp only[CO.run]at er
   split at er
   ·rename_i hs
    refine (J1B (P:=P) hr t tx ty e hu hie hd (hev x a ha) (hev y b hb) ?_ er).next
    cases str with
    | true=>exact .inl ⟨q5y.1 hs,by simpa using hk⟩
    | false=>exact .inr ⟨qKv hs,by simpa using hk⟩
   ·cases er
  split at hc
  ·rename_i e e' hu hd
   exact gen hu hd hc (by simp)
  ·rename_i e hu hd
   exact gen hu hd hc (by simp)
  ·cases hc
 ·rename_i x t
  obtain ⟨a,ha,hc⟩:=oQ.1 hc
  have v1:=hev x a ha
  split at hc
  ·rename_i e hu
   cases hc
   simp only[CO.run]at er
   split at er
   ·rename_i hx
    cases er
    rw[hx]at v1
    generalize hfx:f x=vx at v1
    cases v1
    refine ((Ans.mk (P:=P) (v:=.int .i64 0) (fun w=>?_) (.i _ _)).good hr).next
    simp [Builtin.cap_,run_underlying hu,goInt,hfx]
   ·rename_i c hx
    cases er
    rw[hx]at v1
    generalize hfx:f x=vx at v1
    cases v1 with
    | sl _ _ _ _ _ b o n cap' hρ h1 h2 h3 h4 h5 =>
     have:=h4 rfl
     subst this
     refine ((Ans.mk (P:=P) (v:=.int .i64 cap') (fun w=>?_) (.i _ _)).good hr).next
     simp [Builtin.cap_,run_underlying hu,goInt,hfx]
   ·cases er
  ·cases hc
 ·rename_i x t
  obtain ⟨a,ha,hc⟩:=oQ.1 hc
  have v1:=hev x a ha
  split at hc
  ·rename_i e hu
   obtain ⟨ie,hie,hc⟩:=oQ.1 hc
   obtain ⟨zs,hzs,hc⟩:=oQ.1 hc
   split at hc
   ·rename_i hq
    cases hc
    obtain ⟨ie',z,hie',hzz,hl⟩:=QPm hzs
    rw[hie]at hie'
    cases hie'
    have hvz:=Q6q ρ hl
    exact (KH2 (P:=P) hr t ty e hu hie hzz (by rw[<-hvz.1];exact hq.1) hq.2 hvz er v1).next
   ·cases hc
  ·cases hc
 ·rename_i x y t t2
  obtain ⟨a,ha,hc⟩:=oQ.1 hc
  obtain ⟨b,hb,hc⟩:=oQ.1 hc
  split at hc
  ·rename_i kt et hu
   obtain ⟨q,hq,rfl⟩:=Option.map_eq_some_iff.1 hc
   obtain ⟨h',hv,rfl⟩:=Option.map_eq_some_iff.1 er
   exact (JAQ (P:=P) hr t kt et t2 ty hu (XmF hq) (hev x a ha) (hev y b hb) hv).next
  ·cases hc
 ·cases hc
theorem Kn4 {ρ:Mp} {h:List AB} {w:World} (hr:Rel K ρ h w) {f:Operand->Value} {fr:List AV} (hev:EV ρ f (Opd.ev fr)) {c:Call} {ty:TypeId} {co:CO} (hc:qA0 P (.call c)=some co) {r:AV×List AB} (er:co.run (Opd.ev fr) h=some r):XkF K P ρ h w (do let d<-resolve f c ty;invoke d.target d.args) r:=by
 obtain ⟨callee,args,ts⟩:=c
 simp only[qA0,YB5]at hc
 cases callee with
 | builtin b =>
  simp only at hc
  have hb:=fun consts=>JfO (P:=P) hr hev (ty:=ty) (consts:=consts) hc er
  have ea:(args.toList.map f).toArray=args.map f:=by rw[<-Array.toList_map,Array.toArray_toList]
  rw[ea]at hb
  simp only[Array.toArray_toList]at hb
  obtain ⟨cs,e⟩:∃cs,(do let d<-resolve f { callee:=.builtin b,args:=args,argTypes:=ts } ty;invoke d.target d.args)=builtin b ts ty cs (args.map f):=⟨_,rfl⟩
  rw[e]
  exact hb cs
 | value g =>
  simp only at hc
  split at hc
  ·rename_i x y hcmp hxy
   obtain ⟨a,ha,hc⟩:=oQ.1 hc
   obtain ⟨b,hb,rfl⟩:=Option.map_eq_some_iff.1 hc
   unfold JDv at hcmp
   split at hcmp
   ·rename_i gid
    split at hcmp
    ·rename_i fn hfn
     simp only[Bool.and_eq_true,Bool.or_eq_true,beq_iff_eq]at hcmp
     obtain ⟨v',e1,e2,e3⟩:=ZRO (P:=P) hr hfn hcmp.1.1 hcmp.1.2 hcmp.2 (hev x a ha) (hev y b hb) er
     have hargs:args = #[x,y]:=by
      apply Array.ext'
      simpa using hxy
     subst hargs
     have hg:f (.func gid)=.func (.func gid) #[] #[]:=by
      have h1:=hev (.func gid) _ rfl
      simp only[Opd.ev]at h1
      generalize f (.func gid)=u at h1
      cases h1 with
      | f _ _ _ fst' cap' q1 q2 =>
       rw[Array.eq_empty_of_size_eq_zero q1.symm,Array.eq_empty_of_size_eq_zero q2.symm]
     refine ⟨v',w,ρ,.inl ?_,Ext.refl _,e3▸hr,e2,e3▸Eff.refl _ _ _⟩
     rw[<-e1]
     simp [resolve,hg,Deferred.ofValue,invoke]
    ·cases hcmp
   ·cases hcmp
  ·rename_i ll hll
   split at hc
   ·rename_i hbix
    unfold QVF at hc
    split at hc
    ·rename_i x y hxy
     obtain ⟨a,ha,hc⟩:=oQ.1 hc
     obtain ⟨b,hb,rfl⟩:=Option.map_eq_some_iff.1 hc
     simp only[CO.run]at er
     split at er
     ·rename_i l n hla hnb
      cases er
      unfold Z5w at hbix
      split at hbix
      ·rename_i gid
       split at hbix
       ·rename_i fn hfn
        simp only[Bool.and_eq_true,beq_iff_eq]at hbix
        have va:=hev x a ha
        have vb:=hev y b hb
        rw[hla]at va
        rw[hnb]at vb
        have e1:=XeM (P:=P) (w:=w) hfn hbix.1.1 hbix.1.2 hbix.2 va vb
        have hargs:args = #[x,y]:=by
         apply Array.ext'
         simpa using hxy
        subst hargs
        have hg:f (.func gid)=.func (.func gid) #[] #[]:=by
         have h1:=hev (.func gid) _ rfl
         simp only[Opd.ev]at h1
         generalize f (.func gid)=u at h1
         cases h1 with
         | f _ _ _ fst' cap' q1 q2 =>
          rw[Array.eq_empty_of_size_eq_zero q1.symm,Array.eq_empty_of_size_eq_zero q2.symm]
        refine ⟨_,w,ρ,.inl ?_,Ext.refl _,hr,.i _ _,Eff.refl _ _ _⟩
        refine Eq.trans (b:=(callFunc gid #[f x,f y]).run P w) ?_ e1
        simp [resolve,hg,Deferred.ofValue,invoke]
       ·cases hbix
      ·cases hbix
     ·cases er
    ·cases hc
   ·obtain ⟨a,ha,hc⟩:=oQ.1 hc
    obtain ⟨l,hl,rfl⟩:=Option.map_eq_some_iff.1 hc
    cases er
 | invoke _ _=>cases hc
end
end
section
open Go.RowKit
section
variable {P:Program} {K:Code->CC->Prop}
theorem ZPq {ρ:Mp} {h h':List AB} {w:World} {s:Sem Unit} (g:∃w',s.run P w=.ok () w'/\Rel K ρ h' w'/\Eff ρ h w ρ h' w'):XkF K P ρ h w (do s;pure .skip) (.tu [],h'):=
 let ⟨w',e,h1,h2⟩:=g
 ⟨undef,w',ρ,.inr ⟨by simp [e],rfl⟩,Ext.refl _,h1,.tu [] #[] rfl (fun j a c h=>by simp at h),h2⟩
theorem Xcf {ρ:Mp} {h:List AB} {w:World} (hr:Rel K ρ h w) {a:AV} {v:Value} (hv:VR ρ a v):XkF K P ρ h w (pure (.value v)) (a,h):=
 ⟨v,w,ρ,.inl rfl,Ext.refl _,hr,hv,Eff.refl _ _ _⟩
set_option maxHeartbeats 4000000 in
theorem KWV {ρ:Mp} {h:List AB} {w:World} (hr:Rel K ρ h w) {f:Operand->Value} {fr:List AV} (hev:EV ρ f (Opd.ev fr)) {o:Oper} {co:CO} (hc:qA0 P o.op=some co) {r:AV×List AB} (er:co.run (Opd.ev fr) h=some r):XkF K P ρ h w (execOp f o) r:=by
 obtain ⟨dst,op,ty,pos,after,guard⟩:=o
 unfold execOp
 cases op with
 | move x =>
  obtain ⟨a,ha,rfl⟩:=Option.map_eq_some_iff.1 hc
  cases er
  exact Xcf hr (hev x a ha)
 | assign x =>
  obtain ⟨a,ha,rfl⟩:=Option.map_eq_some_iff.1 hc
  cases er
  exact Xcf hr (hev x a ha)
 | pick c a b =>
  simp only[qA0]at hc
  obtain ⟨c',h1,hc⟩:=oQ.1 hc
  obtain ⟨a',h2,hc⟩:=oQ.1 hc
  obtain ⟨b',h3,rfl⟩:=Option.map_eq_some_iff.1 hc
  simp only[CO.run]at er
  split at er
  ·rename_i t ht
   cases er
   have v1:=hev c c' h1
   rw[ht]at v1
   dsimp only
   generalize f c=vc at v1 ⊢
   cases v1
   cases t
   ·exact ⟨_,w,ρ,.inl (by simp [asBool]),Ext.refl _,hr,hev b b' h3,Eff.refl _ _ _⟩
   ·exact ⟨_,w,ρ,.inl (by simp [asBool]),Ext.refl _,hr,hev a a' h2,Eff.refl _ _ _⟩
  ·cases er
 | alloc e =>
  obtain ⟨zs,hz,rfl⟩:=Option.map_eq_some_iff.1 hc
  obtain ⟨i,z,hi,hzz,hl⟩:=QPm hz
  have g:=QSD (P:=P) hr e _ (Q6q ρ hl) er
  obtain ⟨v',w',ρ',e1,rest⟩:=g
  refine ⟨v',w',ρ',.inl ?_,rest⟩
  have e2:(Instr.alloc e true (.tuple #[])).run P w=.ok v' w':=by
   rw[<-e1]
   simp [Instr.alloc,zeroValue,typeInfo,hi,hzz]
  simp [e2]
 | box e x =>
  simp only[qA0]at hc
  obtain ⟨a,ha,hc⟩:=oQ.1 hc
  obtain ⟨zs,hz,rfl⟩:=Option.map_eq_some_iff.1 hc
  simp only[CO.run]at er
  split at er
  ·rename_i hl
   have hk:(Opd.ev fr a).known=true:=by
    have:=(Qws er).1
    cases hq:Opd.ev fr a <;> first|rfl|(rw[hq]at this;simp [AV.cells,wrOk,AV.flat,AV.one]at this)
   exact (QSD (P:=P) hr e _ ((hev x a ha).cellsVL hk) er).next
  ·cases er
 | build t ps =>
  simp only[qA0]at hc
  obtain ⟨zs,hz,hc⟩:=oQ.1 hc
  obtain ⟨i,z,hi,hzz,hl⟩:=QPm hz
  split at hc
  ·rename_i fs hu
   obtain ⟨pl,hpl,hc⟩:=oQ.1 hc
   obtain ⟨q,hq,rfl⟩:=Option.map_eq_some_iff.1 hc
   obtain ⟨cs,hcs,rfl⟩:=Option.map_eq_some_iff.1 er
   refine (ZHO t hu hi hzz (places:=pl.toArray) (fun w=>YDW fs _ pl w (KSH fs.toList pl hpl w)) (parts:=ps.map fun (i,x)=>(i,f x)) ?_ (Q6q ρ hl) hcs).next hr
   have:=hev.parts hq
   simpa using this
  ·rename_i n e hu
   obtain ⟨k,hk,hc⟩:=oQ.1 hc
   obtain ⟨q,hq,rfl⟩:=Option.map_eq_some_iff.1 hc
   obtain ⟨cs,hcs,rfl⟩:=Option.map_eq_some_iff.1 er
   obtain ⟨ie,hie,rfl⟩:=YN0 hk
   refine (zLg t e hu hi hzz hie (parts:=ps.map fun (i,x)=>(i,f x)) ?_ (Q6q ρ hl) hcs).next hr
   have:=hev.parts hq
   simpa using this
  ·cases hc
 | buildSlice t len ps =>
  simp only[qA0]at hc
  split at hc
  ·rename_i e hu
   obtain ⟨ie,hie,hc⟩:=oQ.1 hc
   obtain ⟨z,hz,hc⟩:=oQ.1 hc
   obtain ⟨zs,hzs,hc⟩:=oQ.1 hc
   obtain ⟨ze,hze,hc⟩:=oQ.1 hc
   split at hc
   ·rename_i hb
    obtain ⟨q,hq,rfl⟩:=Option.map_eq_some_iff.1 hc
    simp only[CO.run]at er
    obtain ⟨cs,hcs,er⟩:=oQ.1 er
    refine (QoQ (P:=P) hr t e hu hie hz len hb.1 _ (parts:=ps.map fun (i,x)=>(i,f x)) ?_ (Q6q ρ hzs) hcs hb.2 er).next
    have:=hev.parts hq
    simpa using this
   ·cases hc
  ·cases hc
 | load t x =>
  simp only[qA0]at hc
  obtain ⟨a,ha,hc⟩:=oQ.1 hc
  obtain ⟨n,hn,rfl⟩:=Option.map_eq_some_iff.1 hc
  obtain ⟨d,i,hd,hi,rfl⟩:=JVz hn
  obtain ⟨v,hv,rfl⟩:=Option.map_eq_some_iff.1 er
  exact (QsD hr t hd hi (hev x a ha) hv).next
 | store t x y =>
  simp only[qA0]at hc
  obtain ⟨a,ha,hc⟩:=oQ.1 hc
  obtain ⟨b,hb,hc⟩:=oQ.1 hc
  obtain ⟨n,hn,hc⟩:=oQ.1 hc
  split at hc
  ·rename_i h1
   cases hc
   obtain ⟨d,i,hd,hi,rfl⟩:=JVz hn
   obtain ⟨h',hv,rfl⟩:=Option.map_eq_some_iff.1 er
   refine ZPq (YGy hr t (ag:=isAg d) hi (fun hd=>?_) (hev x a ha) (hev y b hb) hv)
   have:=h1 (by rw[hd];rfl)
   unfold szOf at this
   rw[hi]at this
   simpa using this
  ·cases hc
 | nilCheck x =>
  obtain ⟨a,ha,rfl⟩:=Option.map_eq_some_iff.1 hc
  have va:=hev x a ha
  simp only[CO.run]at er
  dsimp only
  generalize f x=vx at va ⊢
  split at er
  ·rename_i hq
   rw[hq]at va
   cases er
   cases va with
   | p _ _ b o n hh=>exact Xcf hr (VR.p _ _ b o n hh)
  ·rename_i hq
   rw[hq]at va
   cases er
   cases va with
   | f _ _ _ fst' cap' h0 h1 h2 h3=>exact Xcf hr (VR.f _ _ _ fst' cap' h0 h1 h2 h3)
  ·rename_i hq
   rw[hq]at va
   cases er
   cases va with
   | f _ _ _ fst' cap' h0 h1 h2 h3=>exact Xcf hr (VR.f _ _ _ fst' cap' h0 h1 h2 h3)
  ·rename_i hq
   rw[hq]at va
   cases er
   cases va with
   | ifc _ _ v' h1=>exact Xcf hr (VR.ifc _ _ v' h1)
  ·cases er
 | binOp op t x y yt=>exact qeK hr hev hc er
 | unOp op t x =>
  obtain ⟨a,ha,rfl⟩:=Option.map_eq_some_iff.1 hc
  obtain ⟨v,hv,rfl⟩:=Option.map_eq_some_iff.1 er
  exact (Xaq op (hev x a ha) hv).next hr
 | convert src dst x =>
  simp only[qA0,JDk]at hc
  obtain ⟨a,ha,hc1⟩:=oQ.1 hc
  clear hc
  have hc:=hc1
  clear hc1
  have va:=hev x a ha
  split at hc
  ·rename_i k0 k hs hd
   cases hc
   obtain ⟨n,hn,rfl⟩:=Option.map_eq_some_iff.1 er
   exact (Xpj src dst k hs hd va hn).next hr
  ·rename_i hs hd
   cases hc
   simp only[CO.run]at er
   split at er
   ·rename_i l hl
    cases er
    rw[hl]at va
    exact (Jkx src dst hs hd va).next hr
   ·cases er
  ·rename_i k0 hs hd
   cases hc
   simp only[CO.run]at er
   split at er
   ·rename_i k n hl
    split at er
    ·rename_i hn
     cases er
     rw[hl]at va
     exact (KAo src dst hs hd va hn).next hr
    ·cases er
   ·cases er
  ·rename_i e hs hd
   split at hc
   ·rename_i he
    cases hc
    simp only[CO.run]at er
    split at er
    ·cases er
    ·rename_i hns
     obtain ⟨⟨m,cs⟩,hsrc,er⟩:=oQ.1 er
     obtain ⟨l,hl,rfl⟩:=Option.map_eq_some_iff.1 er
     exact (YvK (P:=P) hr src dst e hs he hd (qKv (by simpa using hns)) va hsrc hl).next
   ·cases hc
  ·rename_i e hs hd
   split at hc
   ·rename_i he
    cases hc
    simp only[CO.run]at er
    split at er
    ·rename_i l hl
     split at er
     ·rename_i hlm
      cases er
      rw[hl]at va
      exact (XPl (P:=P) hr src dst e hs hd he va hlm).next
     ·cases er
    ·cases er
   ·cases hc
  ·rename_i e0 e hs hd
   split at hc
   ·rename_i hsd
    subst hsd
    split at hc
    ·rename_i he
     cases hc
     simp only[CO.run]at er
     split at er
     ·rename_i id off n c k hl
      split at er
      ·cases er
      ·rename_i hn
       split at er
       ·rename_i fl xs hi
        cases er
        rw[hl]at va
        exact (Y23 (P:=P) hr src e hd he hn va hi).next
       ·cases er
     ·cases er
    ·cases hc
   ·cases hc
  ·cases hc
 | makeInterface t x =>
  simp only[qA0]at hc
  obtain ⟨a,ha,hc⟩:=oQ.1 hc
  split at hc
  ·cases hc
  ·cases hc
  ·rename_i d hn1 hn2
   cases hc
   cases er
   cases hu:P.underlying t with
   | none=>exact absurd hu hn1
   | some d=>exact (XPo t hu (fun ms e=>hn2 ms (by rw[hu,e])) (hev x a ha)).next hr
 | makeFunc fn first cap =>
  simp only[qA0]at hc
  obtain ⟨l0,hl0,hc⟩:=oQ.1 hc
  obtain ⟨l,hl,rfl⟩:=Option.map_eq_some_iff.1 hc
  cases er
  have hv0:=hev.vl hl0
  have hv:=hev.vl hl
  refine (Ans.mk (P:=P) (v:=.func fn (first.map f) (cap.map f)) (fun w=>by simp [Instr.makeFunc]) (.f fn _ _ _ _ ?_ ?_ ?_ ?_)).next hr
  ·have:=hv0.1;simpa using this
  ·have:=hv.1;simpa using this
  ·intro j a c h1 h2
   exact hv0.2 j a c h1 (by simpa using h2)
  ·intro j a c h1 h2
   exact hv.2 j a c h1 (by simpa using h2)
 | makeSlice t l c =>
  simp only[qA0]at hc
  obtain ⟨a,ha,hc⟩:=oQ.1 hc
  obtain ⟨b,hb,hc⟩:=oQ.1 hc
  split at hc
  ·rename_i e hu
   obtain ⟨ie,hie,hc⟩:=oQ.1 hc
   obtain ⟨zs,hz,hc⟩:=oQ.1 hc
   split at hc
   ·rename_i hq
    cases hc
    obtain ⟨i,z,hi,hzz,hl⟩:=QPm hz
    rw[hie]at hi
    cases hi
    simp only[CO.run]at er
    have va:=hev l a ha
    have vb:=hev c b hb
    split at er
    ·rename_i k1 n1 k2 n2 q1 q2
     split at er
     ·rename_i hcond
      rw[q1]at va
      rw[q2]at vb
      dsimp only
      generalize f l=vl at va ⊢
      generalize f c=vc at vb ⊢
      cases va
      cases vb
      have hvz:=Q6q ρ hl
      exact (KK7 (P:=P) hr t e hu hie hzz (by rw[<-hvz.1];exact hq.1) hq.2 _ hvz hcond.1 hcond.2.1 hcond.2.2.1 hcond.2.2.2 er).next
     ·cases er
    ·cases er
   ·cases hc
  ·cases hc
 | slice t x lo hi mx =>
  simp only[qA0]at hc
  obtain ⟨a,ha,hc⟩:=oQ.1 hc
  obtain ⟨lo',h1,hc⟩:=oQ.1 hc
  obtain ⟨hi',h2,hc⟩:=oQ.1 hc
  obtain ⟨mx',h3,hc⟩:=oQ.1 hc
  have va:=hev x a ha
  have v1:=hev.vo h1
  have v2:=hev.vo h2
  have v3:=hev.vo h3
  split at hc
  ·rename_i hu
   split at hc
   ·rename_i hm
    cases hc
    simp only[CO.run]at er
    split at er
    ·rename_i l hl
     obtain ⟨v,hv,rfl⟩:=Option.map_eq_some_iff.1 er
     rw[hl]at va
     cases mx with
     | none=>exact (X0I t hu va v1 v2 hv).next hr
     | some m =>
      obtain ⟨m',_,rfl⟩:=Option.map_eq_some_iff.1 h3
      simp at hm
    ·cases er
   ·cases hc
  ·rename_i e hu
   obtain ⟨n,hn,rfl⟩:=Option.map_eq_some_iff.1 hc
   obtain ⟨i,hi,rfl⟩:=YN0 hn
   obtain ⟨v,hv,rfl⟩:=Option.map_eq_some_iff.1 er
   exact (zMG t e hu hi va v1 v2 v3 hv).next hr
  ·rename_i k e hu
   split at hc
   ·rename_i hk
    obtain ⟨n,hn,rfl⟩:=Option.map_eq_some_iff.1 hc
    obtain ⟨i,hi,rfl⟩:=YN0 hn
    obtain ⟨v,hv,rfl⟩:=Option.map_eq_some_iff.1 er
    exact (qg9 t e hu hi hk va v1 v2 v3 hv).next hr
   ·cases hc
  ·cases hc
 | fieldAddr s x fi =>
  simp only[qA0,Kmw]at hc
  obtain ⟨a,ha,hc⟩:=oQ.1 hc
  obtain ⟨⟨off,n,k⟩,h1,hc⟩:=oQ.1 hc
  simp only at hc
  split at h1
  ·rename_i fs hu
   obtain ⟨fd,hfd,h1⟩:=oQ.1 h1
   obtain ⟨n',hn,h1⟩:=oQ.1 h1
   obtain ⟨k',hk,h1⟩:=Option.map_eq_some_iff.1 h1
   cases h1
   obtain ⟨i,hi,rfl⟩:=YN0 hk
   split at hc
   ·rename_i hz
    cases hc
    simp only[CO.run]at er
    have va:=hev x a ha
    split at er
    ·rename_i id o hq
     cases er
     rw[hq]at va
     exact (KjF s fi hu hfd hi hz va).next hr
    ·cases er
   ·cases hc
  ·cases h1
 | field s x fi =>
  simp only[qA0,Kmw]at hc
  obtain ⟨a,ha,hc⟩:=oQ.1 hc
  obtain ⟨⟨off,n,k⟩,h1,rfl⟩:=Option.map_eq_some_iff.1 hc
  split at h1
  ·rename_i fs hu
   obtain ⟨fd,hfd,h1⟩:=oQ.1 h1
   obtain ⟨n',hn,h1⟩:=oQ.1 h1
   obtain ⟨k',hk,h1⟩:=Option.map_eq_some_iff.1 h1
   cases h1
   obtain ⟨d,i,hd,hi,rfl⟩:=JVz hn
   simp only[CO.run]at er
   have va:=hev x a ha
   split at er
   ·rename_i l hl
    rw[hl]at va
    have key:∃v,qyF (isAg d) fd.offset i.size l=some v/\r=(v,h):=by
     unfold qyF
     cases hag:isAg d
     ·simp only[hag,Bool.false_eq_true,if_false]at er ⊢
      obtain ⟨v,hv,rfl⟩:=Option.map_eq_some_iff.1 er
      exact ⟨v,hv,rfl⟩
     ·simp only[hag,if_true]at er ⊢
      cases er
      exact ⟨_,rfl,rfl⟩
    obtain ⟨v,hv,rfl⟩:=key
    exact (JKt s fi hu hfd hi hd va hv).next hr
   ·cases er
  ·cases h1
 | indexAddr t x i =>
  simp only[qA0]at hc
  obtain ⟨a,ha,hc⟩:=oQ.1 hc
  obtain ⟨b,hb,hc⟩:=oQ.1 hc
  have va:=hev x a ha
  have vb:=hev i b hb
  split at hc
  ·rename_i e hu
   obtain ⟨n,hn,rfl⟩:=Option.map_eq_some_iff.1 hc
   obtain ⟨ie,hie,rfl⟩:=YN0 hn
   simp only[CO.run]at er
   split at er
   ·rename_i q1 q2
    split at er
    ·rename_i hcond
     cases er
     rw[q1]at va
     rw[q2]at vb
     dsimp only
     generalize f i=vi at vb ⊢
     cases vb
     exact (Xnp t e hu hie va hcond.1 hcond.2).next hr
    ·cases er
   ·cases er
  ·rename_i k e hu
   obtain ⟨n,hn,rfl⟩:=Option.map_eq_some_iff.1 hc
   obtain ⟨ie,hie,rfl⟩:=YN0 hn
   simp only[CO.run]at er
   split at er
   ·rename_i q1 q2
    split at er
    ·rename_i hcond
     cases er
     rw[q1]at va
     rw[q2]at vb
     dsimp only
     generalize f i=vi at vb ⊢
     cases vb
     exact (YL3 t e hu hie va hcond.1 hcond.2).next hr
    ·cases er
   ·cases er
  ·cases hc
 | index t x i =>
  simp only[qA0]at hc
  obtain ⟨a,ha,hc⟩:=oQ.1 hc
  obtain ⟨b,hb,hc⟩:=oQ.1 hc
  have va:=hev x a ha
  have vb:=hev i b hb
  split at hc
  ·rename_i hu
   cases hc
   simp only[CO.run]at er
   split at er
   ·rename_i q1 q2
    split at er
    ·rename_i h0
     obtain ⟨u,hu',rfl⟩:=Option.map_eq_some_iff.1 er
     rw[q1]at va
     rw[q2]at vb
     dsimp only
     generalize f i=vi at vb ⊢
     cases vb
     exact (Xla t hu va h0 hu').next hr
    ·cases er
   ·cases er
  ·rename_i k e hu
   obtain ⟨n,hn,hc⟩:=oQ.1 hc
   obtain ⟨g,hg,rfl⟩:=Option.map_eq_some_iff.1 hc
   obtain ⟨ie,hie,rfl⟩:=YN0 hn
   obtain ⟨d,i2,hd,hi2,rfl⟩:=JVz hg
   rw[hie]at hi2
   cases hi2
   simp only[CO.run]at er
   split at er
   ·rename_i l kk m q1 q2
    split at er
    ·rename_i hcond
     rw[q1]at va
     rw[q2]at vb
     dsimp only
     generalize f i=vi at vb ⊢
     cases vb
     have key:∃v,qyF (isAg d) (m.toNat*ie.size) ie.size l=some v/\r=(v,h):=by
      unfold qyF
      cases hag:isAg d
      ·simp only[hag,Bool.false_eq_true,if_false,Option.isSome_none]at er ⊢
       obtain ⟨v,hv,rfl⟩:=Option.map_eq_some_iff.1 er
       exact ⟨v,hv,rfl⟩
      ·simp only[hag,if_true,Option.isSome_some]at er ⊢
       cases er
       exact ⟨_,rfl,rfl⟩
     obtain ⟨v,hv,rfl⟩:=key
     exact (z8a t e hu hie hd va hcond.1 hcond.2 hv).next hr
    ·cases er
   ·cases er
  ·cases hc
 | typeAssert x tx t ok =>
  simp only[qA0]at hc
  obtain ⟨a,ha,hc⟩:=oQ.1 hc
  obtain ⟨z,hz,hc⟩:=oQ.1 hc
  obtain ⟨zv,hzv,hc⟩:=oQ.1 hc
  obtain ⟨i,hi,hz⟩:=oQ.1 hz
  split at hc
  ·cases hc
  ·cases hc
  ·rename_i hn1 hn2
   cases hc
   cases hu:P.underlying t with
   | none=>exact absurd hu hn1
   | some d =>
    have key:∃v,tasV t ok zv (Opd.ev fr a)=some v/\r=(v,h):=by
     unfold tasV
     simp only[CO.run]at er
     split at er
     ·rename_i hq
      try rw[hq]
      split at er
      ·rename_i he;cases er;exact ⟨_,by simp [he],rfl⟩
      ·rename_i he
       split at er
       ·rename_i ho;cases er;exact ⟨_,by simp [he,ho],rfl⟩
       ·cases er
     ·rename_i hq
      try rw[hq]
      split at er
      ·rename_i ho;cases er;exact ⟨_,by simp [ho],rfl⟩
      ·cases er
     ·cases er
    obtain ⟨v,hv,rfl⟩:=key
    exact (qLd tx t ok hu (fun ms e=>hn2 ms (by rw[hu,e])) hi hz (qKT ρ hzv) (hev x a ha) hv).next hr
 | extract x i =>
  obtain ⟨a,ha,rfl⟩:=Option.map_eq_some_iff.1 hc
  simp only[CO.run]at er
  have va:=hev x a ha
  split at er
  ·rename_i l hl
   obtain ⟨v,hv,rfl⟩:=Option.map_eq_some_iff.1 er
   rw[hl]at va
   exact (z8X va i hv).next hr
  ·cases er
 | call c=>exact Kn4 hr hev hc er
 | range t x =>
  simp only[qA0]at hc
  obtain ⟨a,ha,hc⟩:=oQ.1 hc
  have va:=hev x a ha
  split at hc
  ·rename_i ht
   cases hc
   simp only[CO.run]at er
   split at er
   ·rename_i l hl
    cases er
    rw[hl]at va
    exact (YfD (P:=P) hr t ht va).next
   ·cases er
  ·rename_i kt et ht
   cases hc
   exact (YOX (P:=P) hr t kt et ht va er).next
  ·cases hc
 | next x b =>
  simp only[qA0]at hc
  obtain ⟨a,ha,hc1⟩:=oQ.1 hc
  clear hc
  have hc:=hc1
  clear hc1
  have va:=hev x a ha
  cases hc
  cases b with
  | true =>
   simp only[if_true,CO.run]at er
   split at er
   ·rename_i id hl
    split at er
    ·rename_i s pos hi
     rw[hl]at va
     exact (ZIU (P:=P) hr _ va hi er).next
    ·cases er
   ·cases er
  | false =>
   simp only[Bool.false_eq_true,if_false,CO.run]at er
   split at er
   ·rename_i r' hm
    cases er
    obtain ⟨r'',hr'',g⟩:=Q9O (P:=P) hr ty va hm
    cases List.mem_singleton.1 hr''
    exact g.next
   ·cases er
 | makeMap t rs =>
  cases rs with
  | some _=>cases hc
  | none =>
   simp only[qA0]at hc
   split at hc
   ·cases hc
    cases er
    exact (q1f (P:=P) hr t).next
   ·cases hc
 | lookup t x k ok =>
  simp only[qA0]at hc
  obtain ⟨a,ha,hc⟩:=oQ.1 hc
  obtain ⟨b,hb,hc⟩:=oQ.1 hc
  split at hc
  ·rename_i kt et hu
   obtain ⟨q,hq,hc⟩:=oQ.1 hc
   obtain ⟨z,hz,hc⟩:=oQ.1 hc
   obtain ⟨zv,hzv,rfl⟩:=Option.map_eq_some_iff.1 hc
   obtain ⟨i,hi,hz⟩:=oQ.1 hz
   obtain ⟨v,hv,rfl⟩:=Option.map_eq_some_iff.1 er
   exact (J2N (P:=P) hr t kt et hu (XmF hq) hi hz (qKT ρ hzv) ok (hev x a ha) (hev k b hb) hv).next
  ·cases hc
 | mapUpdate t x k y =>
  simp only[qA0]at hc
  obtain ⟨a,ha,hc⟩:=oQ.1 hc
  obtain ⟨b,hb,hc⟩:=oQ.1 hc
  obtain ⟨c,hcc,hc⟩:=oQ.1 hc
  split at hc
  ·rename_i kt et hu
   obtain ⟨q,hq,rfl⟩:=Option.map_eq_some_iff.1 hc
   obtain ⟨h',hv,rfl⟩:=Option.map_eq_some_iff.1 er
   exact ZPq (Y1o (P:=P) hr t kt et hu (XmF hq) (hev x a ha) (hev k b hb) (hev y c hcc) hv)
  ·cases hc
 | insert t x k y =>
  simp only[qA0]at hc
  obtain ⟨a,ha,hc⟩:=oQ.1 hc
  obtain ⟨b,hb,hc⟩:=oQ.1 hc
  obtain ⟨c,hcc,hc⟩:=oQ.1 hc
  split at hc
  ·rename_i kt et hu
   obtain ⟨q,hq,rfl⟩:=Option.map_eq_some_iff.1 hc
   obtain ⟨h',hv,rfl⟩:=Option.map_eq_some_iff.1 er
   exact ZPq (Y1o (P:=P) hr t kt et hu (XmF hq) (hev x a ha) (hev k b hb) (hev y c hcc) hv)
  ·cases hc
 | entry x =>
  obtain ⟨a,ha,rfl⟩:=Option.map_eq_some_iff.1 hc
  obtain ⟨v,hv,rfl⟩:=Option.map_eq_some_iff.1 er
  exact (KuG (P:=P) hr (hev x a ha) hv).next
 | _=>cases hc
end
end
section
open Go.RowKit
def Opd.tmps:Opd->List Nat
 | .t n=>[n]
 | .c _=>[]
def optT:Option Opd->List Nat
 | some x=>x.tmps
 | none=>[]
def CO.tmps:CO->List Nat
 | .mv a0=>a0.tmps
 | .pick a0 a1 a2=>a0.tmps++a1.tmps++a2.tmps
 | .bin _ a1 a2=>a1.tmps++a2.tmps
 | .eqb _ a1 a2=>a1.tmps++a2.tmps
 | .eqc _ _ a2 a3=>a2.tmps++a3.tmps
 | .eqn _ a1 a2=>a1.tmps++a2.tmps
 | .un _ a1=>a1.tmps
 | .cvi _ a1=>a1.tmps
 | .cvs a0=>a0.tmps
 | .fad _ a1=>a1.tmps
 | .fld _ _ a2=>a2.tmps
 | .iad _ a1 a2=>a1.tmps++a2.tmps
 | .iaa _ _ a2 a3=>a2.tmps++a3.tmps
 | .ixs a0 a1=>a0.tmps++a1.tmps
 | .ixa _ _ _ a3 a4=>a3.tmps++a4.tmps
 | .sls a0 a1 a2=>a0.tmps++optT a1++optT a2
 | .sll _ a1 a2 a3 a4=>a1.tmps++optT a2++optT a3++optT a4
 | .sla _ _ a2 a3 a4 a5=>a2.tmps++optT a3++optT a4++optT a5
 | .ifc _ a1=>a1.tmps
 | .mkf _ a1 a2=>a1.flatMap Opd.tmps++a2.flatMap Opd.tmps
 | .ext a0 _=>a0.tmps
 | .len _ a1=>a1.tmps
 | .lnc _=>[]
 | .mm _ a1 a2=>a1.tmps++a2.tmps
 | .nck a0=>a0.tmps
 | .tas a0 _ _ _=>a0.tmps
 | .ld _ a1=>a1.tmps
 | .st _ a1 a2=>a1.tmps++a2.tmps
 | .new _ _=>[]
 | .box _ _ a2=>a2.tmps
 | .bld _ a1=>a1.flatMap (fun x=>x.2.2.tmps)
 | .bls _ _ _ a3=>a3.flatMap (fun x=>x.2.2.tmps)
 | .mks _ _ _ a3 a4=>a3.tmps++a4.tmps
 | .app _ _ _ _ a4 a5=>a4.tmps++a5.tmps
 | .cpy _ _ a2 a3=>a2.tmps++a3.tmps
 | .capo a0=>a0.tmps
 | .apz _ _ _ a3 a4=>a3.tmps++a4.tmps
 | .stop=>[]
 | .b2s a0=>a0.tmps
 | .clr _ a1=>a1.tmps
 | .bcmp a0 a1=>a0.tmps++a1.tmps
 | .s2b a0=>a0.tmps
 | .rng a0=>a0.tmps
 | .nxt a0=>a0.tmps
 | .s2s a0=>a0.tmps
 | .bix a0 a1=>a0.tmps++a1.tmps
 | .mkm=>[]
 | .mln a0=>a0.tmps
 | .lkp _ _ _ _ a4 a5=>a4.tmps++a5.tmps
 | .mup _ _ a2 a3 a4=>a2.tmps++a3.tmps++a4.tmps
 | .mdl _ _ a2 a3=>a2.tmps++a3.tmps
 | .mrg a0=>a0.tmps
 | .ent a0=>a0.tmps
 | .mnx a0=>a0.tmps
 | .r2s a0=>a0.tmps
 | .call a0 a1=>a0.tmps++a1.flatMap Opd.tmps
def COper.tmps (o:COper):List Nat:=(match o.guard with|some (t,_)=>[t] | none=>[])++o.op.tmps
def memN (n:Nat):List Nat->Bool
 | []=>false
 | m::l=>if Nat.beq m n then true else memN n l
def bit (k m:Nat):Bool:=Nat.beq (Nat.land (Nat.shiftRight m k) 1) 1
def K89 (l:List Nat):Nat:=l.foldl (fun m k=>Nat.lor m (Nat.shiftLeft 1 k)) 0
def clos:List Nat->List (COper×List Nat)->List DOp
 | _,[]=>[]
 | acc,(o,deps)::l =>
  let anc:=deps.foldl (fun m d=>Nat.lor m (Nat.lor (Nat.shiftLeft 1 d) (acc.getD d 0))) 0
  ⟨o,anc,K89 o.tmps⟩::clos (acc++[anc]) l
def ZlB (e d:DOp):Bool:=
  (match e.o.dst with
   | none=>true
   | some t=>!bit t d.us&&(match d.o.dst with|none=>true|some u=>!Nat.beq u t)) &&
  (match d.o.dst with
   | none=>true
   | some t=>!bit t e.us)
def zif (d:DOp):Nat->List DOp->Bool
 | _,[]=>true
 | j,e::es=>(if bit j d.anc then Nat.beq (Nat.land e.anc d.anc) e.anc else ZlB e d)&&zif d (j+1) es
def qXC:List DOp->List DOp->List (List Nat)->Bool
 | _,[],[]=>true
 | pre,d::ds,dp::dps=>(dp.all fun x=>bit x d.anc)&&Nat.blt d.anc (2 ^ pre.length)&&zif d 0 pre&&qXC (pre++[d]) ds dps
 | _,_,_=>false
inductive CI where
 | code (c:CC)
 | blk (id:Nat)
 | lp (c:CC)
 | sc
 | ops (l:List COper)
 | br
inductive RC where
 | t (n:Nat)
 | cell (n:Nat) (sz:Option Nat)
def cOps (P:Program) (ops:Array Oper):List Nat->Option (List COper)
 | []=>some []
 | i::is=>(ops[i]?).bind fun o=>(YXt P ops o).bind fun c=>(cOps P ops is).map (c :: ·)
def zqT (o:Oper):List Nat:=(o.after.toList.filter (Region.binds .any)).map (·.on)
def qmN (P:Program) (ops:Array Oper):List Nat->Option (List (COper×List Nat))
 | []=>some []
 | i::is=>(ops[i]?).bind fun o=>(YXt P ops o).bind fun c=>(qmN P ops is).map ((c,zqT o) :: ·)
def Qfa (P:Program):Code->Option CC
 | .skip | .label _=>some .skip
 | .region id ops d=>if d then (qmN P ops (List.range ops.size)).map (fun l=>if qXC [] (clos [] l) (l.map (·.2)) then .drw id (clos [] l) else .stop) else (cOps P ops (List.range ops.size)).map (.reg id)
 | .seq a b=>(Qfa P a).bind fun x=>(Qfa P b).map (.seq x)
 | .cond c a b=>match cOpd c with
  | none=>some .stop
  | some o=>(Qfa P a).bind fun x=>(Qfa P b).map (.cond o x)
 | .block id a=>(Qfa P a).map (.block id)
 | .loop a=>(Qfa P a).map .loop
 | .scope a=>(Qfa P a).map .scope
 | .exit id=>some (.exit id)
 | .ret=>some .ret
 | .rangeFunc g ps a b=>match cOpd g with
  | none=>some .stop
  | some o=>(Qfa P a).bind fun x=>(Qfa P b).map (.rf o ps.toList x)
 | _=>some .stop
def cRes (P:Program):List ResultVar->Option (List RC)
 | []=>some []
 | .tmp t::rs=>(cRes P rs).map (.t t :: ·)
 | .cell a t::rs=>(agN P t).bind fun n=>(cRes P rs).map (.cell a n :: ·)
structure CF where
 ntmps:Nat
 res:List RC
 body:CC
def J0o (P:Program) (f:Func):Option CF:=
 if f.name = "runtime.NumGoroutine" then none else f.body.bind fun c => (Qfa P c).bind fun b => (cRes P f.results.toList).map fun r => ⟨f.ntmps, r, b⟩
def KZN (fr:List AV) (h:List AB):RC->Option AV
 | .t n=>some (fr.getD n (.tu []))
 | .cell n sz=>ldV h sz (fr.getD n (.tu []))
def JRR (fr:List AV) (h:List AB):List RC->Option (List AV)
 | []=>some []
 | r::rs=>(KZN fr h r).bind fun a=>(JRR fr h rs).map (a :: ·)
def resV (fr:List AV) (h:List AB) (rs:List RC):Option AV:=
 (JRR fr h rs).map fun
  | [a]=>a
  | l=>.tu l
section
variable {P:Program}
def IR (P:Program):CI->Item->Prop
 | .code c,.code c'=>Qfa P c'=some c
 | .blk id,.inBlock id'=>id'=id
 | .lp c,.inLoop c'=>Qfa P c'=some c
 | .sc,.inScope _=>True
 | .ops l,.inRegion ops is=>cOps P ops is=some l
 | .br,.beginRound=>True
 | _,_=>False
def IRs (P:Program):List CI->List Item->Prop
 | [],[]=>True
 | c::cs,i::is=>IR P c i/\IRs P cs is
 | _,_=>False
structure EffP (p:Nat) (ρ:Mp) (h:List AB) (w:World) (ρ':Mp) (h':List AB) (w':World):Prop where
 os:w'.os=w.os
 tape:w'.tape=w.tape
 output:w'.output=w.output/\dr w<=dr w'
 size:w.heap.size<=w'.heap.size
 keep:∀b,b<w.heap.size->¬Own ρ h b->w'.heap[b]?=w.heap[b]?
 own:∀b,Own ρ' h' b->Own ρ h b\/w.heap.size<=b
 acc:∀(i b:Nat),At ρ' h' i b->(∃j,At ρ h j b/\(i<p->j=i)/\(p<=i->p<=j))\/Own ρ h b\/w.heap.size<=b
 fix:∀i,i<p->ρ'[i]?=ρ[i]?
theorem Rel.toP {K:Code->CC->Prop} {p:Nat} {ρ ρ':Mp} {h h':List AB} {w w':World} (r:Rel K ρ h w) (c:RelC K ρ' h' w') (e:EffP p ρ h w ρ' h' w'):Rel K ρ' h' w'/\EffP p ρ h w ρ' h' w':=
 ⟨⟨c.len,c.blk,c.sep,r.gl.keep e.size e.keep e.own⟩,e⟩
theorem EffP.trans {p:Nat} {ρ1 ρ2 ρ3:Mp} {h1 h2 h3:List AB} {w1 w2 w3:World} (a:EffP p ρ1 h1 w1 ρ2 h2 w2) (c:EffP p ρ2 h2 w2 ρ3 h3 w3):EffP p ρ1 h1 w1 ρ3 h3 w3:=
  ⟨c.os.trans a.os,c.tape.trans a.tape,⟨c.output.1.trans a.output.1,Nat.le_trans a.output.2 c.output.2⟩,Nat.le_trans a.size c.size,
   fun b hb hn=>(c.keep b (Nat.lt_of_lt_of_le hb a.size) (fun ho=>by
     rcases a.own b ho with h|h
     · exact hn h
     · omega)).trans (a.keep b hb hn),
   fun b hb=>by
     rcases c.own b hb with h|h
     · exact a.own b h
     · exact .inr (Nat.le_trans a.size h),
   fun i b hb=>by
     rcases c.acc i b hb with ⟨j,h,h1,h2⟩|h|h
     · rcases a.acc j b h with ⟨j',h',h3,h4⟩|h|h
       · exact .inl ⟨j',h',fun q=>by have:=h1 q;subst this;exact h3 q,fun q=>h4 (h2 q)⟩
       · exact .inr (.inl h)
       · exact .inr (.inr h)
     · exact .inr (a.own b h)
     · exact .inr (.inr (Nat.le_trans a.size h)),
   fun i hi=>(c.fix i hi).trans (a.fix i hi)⟩
theorem Ext.len {ρ ρ':Mp} (h:Ext ρ ρ'):ρ.length<=ρ'.length:=by
 rcases Nat.lt_or_ge ρ'.length ρ.length with q|q
 ·have:=h ρ'.length _ (List.getElem?_eq_getElem q)
  rw[List.getElem?_eq_none (Nat.le_refl _)]at this
  cases this
 ·exact q
theorem Eff.p {p:Nat} {ρ ρ':Mp} {h h':List AB} {w w':World} (e:Eff ρ h w ρ' h' w') (x:Ext ρ ρ') (hp:p<=ρ.length):EffP p ρ h w ρ' h' w':=
 ⟨e.os,e.tape,e.output,e.size,e.keep,e.own,fun i b ha=>by
  rcases e.liv i b ha with q|q
  ·exact .inl ⟨i,q,fun _=>rfl,fun hi=>hi⟩
  ·exact .inr q,fun i hi=>by
  have:=x i _ (List.getElem?_eq_getElem (Nat.lt_of_lt_of_le hi hp))
  rw[this]
  exact (List.getElem?_eq_getElem (Nat.lt_of_lt_of_le hi hp)).symm⟩
theorem EffP.refl (p:Nat) (ρ:Mp) (h:List AB) (w:World):EffP p ρ h w ρ h w:=
 ⟨rfl,rfl,⟨rfl,Nat.le_refl _⟩,Nat.le_refl _,fun _ _ _=>rfl,fun _ h=>.inl h,fun i _ h=>.inl ⟨i,h,fun _=>rfl,fun q=>q⟩,fun _ _=>rfl⟩
theorem EffP.weak {p q:Nat} {ρ ρ':Mp} {h h':List AB} {w w':World} (e:EffP q ρ h w ρ' h' w') (hp:p<=q):EffP p ρ h w ρ' h' w':=
 ⟨e.os,e.tape,e.output,e.size,e.keep,e.own,fun i b ha=>by
  rcases e.acc i b ha with ⟨j,h1,h2,h3⟩|k
  ·refine .inl ⟨j,h1,fun hi=>h2 (by omega),fun hi=>?_⟩
   by_cases hq:i<q
   ·have:=h2 hq;omega
   ·have:=h3 (by omega);omega
  ·exact .inr k,fun i hi=>e.fix i (by omega)⟩
def KC (P:Program):Code->CC->Prop:=fun c cc=>Qfa P c=some cc
structure EffX (X:List Nat) (p:Nat) (ρ:Mp) (h:List AB) (w:World) (ρ':Mp) (h':List AB) (w':World):Prop where
 os:w'.os=w.os
 tape:w'.tape=w.tape
 output:w'.output=w.output/\dr w<=dr w'
 size:w.heap.size<=w'.heap.size
 keep:∀b,b<w.heap.size->¬Own ρ h b->b∉X->w'.heap[b]?=w.heap[b]?
 own:∀b,Own ρ' h' b->Own ρ h b\/w.heap.size<=b
 acc:∀(i b:Nat),At ρ' h' i b->(∃j,At ρ h j b/\(i<p->j=i)/\(p<=i->p<=j))\/Own ρ h b\/w.heap.size<=b
 fix:∀i,i<p->ρ'[i]?=ρ[i]?
theorem EffP.x {p:Nat} {ρ ρ':Mp} {h h':List AB} {w w':World} (e:EffP p ρ h w ρ' h' w') (X:List Nat):EffX X p ρ h w ρ' h' w':=
 ⟨e.os,e.tape,e.output,e.size,fun b hb hn _=>e.keep b hb hn,e.own,e.acc,e.fix⟩
theorem EffX.p {p:Nat} {ρ ρ':Mp} {h h':List AB} {w w':World} (e:EffX [] p ρ h w ρ' h' w'):EffP p ρ h w ρ' h' w':=
 ⟨e.os,e.tape,e.output,e.size,fun b hb hn=>e.keep b hb hn (by simp),e.own,e.acc,e.fix⟩
theorem EffP.then {p:Nat} {X Y:List Nat} {ρ1 ρ2 ρ3:Mp} {h1 h2 h3:List AB} {w1 w2 w3:World} (a:EffP p ρ1 h1 w1 ρ2 h2 w2) (c:EffX Y p ρ2 h2 w2 ρ3 h3 w3) (hY:∀r∈Y,r∈X\/w1.heap.size<=r):EffX X p ρ1 h1 w1 ρ3 h3 w3:=
  ⟨c.os.trans a.os,c.tape.trans a.tape,⟨c.output.1.trans a.output.1,Nat.le_trans a.output.2 c.output.2⟩,Nat.le_trans a.size c.size,
   fun b hb hn hx=>(c.keep b (Nat.lt_of_lt_of_le hb a.size) (fun ho=>by
     rcases a.own b ho with h|h
     · exact hn h
     · omega) (fun hy=>by
     rcases hY b hy with h|h
     · exact hx h
     · omega)).trans (a.keep b hb hn),
   fun b hb=>by
     rcases c.own b hb with h|h
     · exact a.own b h
     · exact .inr (Nat.le_trans a.size h),
   fun i b hb=>by
     rcases c.acc i b hb with ⟨j,h,h1,h2⟩|h|h
     · rcases a.acc j b h with ⟨j',h',h3,h4⟩|h|h
       · exact .inl ⟨j',h',fun q=>by have:=h1 q;subst this;exact h3 q,fun q=>h4 (h2 q)⟩
       · exact .inr (.inl h)
       · exact .inr (.inr h)
     · exact .inr (a.own b h)
     · exact .inr (.inr (Nat.le_trans a.size h)),
   fun i hi=>(c.fix i hi).trans (a.fix i hi)⟩
def PostR (P:Program) (p:Nat) (X:List Nat) (ρ:Mp) (h:List AB) (w:World) (R:AV->List AB->Prop) (v:Value) (w':World):Prop:=
 ∃a h' ρ',R a h'/\VR ρ' a v/\Rel (KC P) ρ' h' w'/\EffX X p ρ h w ρ' h' w'
theorem PostR.from {p:Nat} {X Y:List Nat} {ρ ρ1:Mp} {h h1:List AB} {w w1:World} {R:AV->List AB->Prop} {v:Value} {w':World} (e:EffP p ρ h w ρ1 h1 w1) (q:PostR P p Y ρ1 h1 w1 R v w') (hY:∀r∈Y,r∈X\/w.heap.size<=r):PostR P p X ρ h w R v w':=
 let ⟨a,h',ρ',q1,q2,q3,q4⟩:=q
 ⟨a,h',ρ',q1,q2,q3,e.then q4 hY⟩
def Ret (P:Program) (rd:Option Nat) (b:Frame) (cs:List Frame) (Rv:Value->World->Prop) (m:Machine):Prop:=
 ∃v w',Rv v w'/\match rd with
  | none=>∃frm,Steps P m (lone frm cs w')/\frm.fn=b.fn/\frm.leaving P w' (.returned v)
  | some _=>∀c cs',cs=c::cs'->Steps P m (lone (c.finish v) cs' w')
theorem Ret.steps {rd:Option Nat} {b:Frame} {cs:List Frame} {Rv:Value->World->Prop} {m m1:Machine} (s:Steps P m m1) (h:Ret P rd b cs Rv m1):Ret P rd b cs Rv m:=by
 obtain ⟨v,w',q1,q2⟩:=h
 refine ⟨v,w',q1,?_⟩
 cases rd with
 | none =>
  obtain ⟨frm,q3,q4⟩:=q2
  exact ⟨frm,s.trans q3,q4⟩
 | some l=>exact fun c cs' e=>s.trans (q2 c cs' e)
theorem Ret.mono {rd:Option Nat} {b:Frame} {cs:List Frame} {Rv Rv':Value->World->Prop} {m:Machine} (h:Ret P rd b cs Rv m) (hr:∀v w,Rv v w->Rv' v w):Ret P rd b cs Rv' m:=
 let ⟨v,w',q1,q2⟩:=h
 ⟨v,w',hr _ _ q1,q2⟩
def mkD (r:Nat):Deferred:={ target:=.collected r,args:=#[] }
def Marks (ρ:Mp) (h:List AB) (w:World) (rs:List Nat):Prop:=rs.Nodup/\∀r∈rs,w.heap[r]?=some (.deferred (some []))/\∀i,¬At ρ h i r
theorem Own.at {ρ:Mp} {h:List AB} {b:Nat} (o:Own ρ h b):∃i,At ρ h i b:=by
 obtain ⟨i,B,x,h1,h2,h3⟩:=o
 exact ⟨i,B,x,h1,AB.live_of_mut h2,h3⟩
theorem Marks.eff {p:Nat} {ρ ρ':Mp} {h h':List AB} {w w':World} {rs:List Nat} (m:Marks ρ h w rs) (e:EffP p ρ h w ρ' h' w'):Marks ρ' h' w' rs:=
 ⟨m.1,fun r hr=>by
  obtain ⟨h1,h2⟩:=m.2 r hr
  have hlt:r<w.heap.size:=(Array.getElem?_eq_some_iff.1 h1).1
  have hno:¬Own ρ h r:=fun o=>by
   obtain ⟨i,hi⟩:=o.at
   exact h2 i hi
  refine ⟨(e.keep r hlt hno).trans h1,fun i ha=>?_⟩
  rcases e.acc i r ha with ⟨j,hj,_⟩|h|h
  ·exact h2 j hj
  ·exact hno h
  ·omega⟩
def RdOk (ρ:Mp) (b:Frame):Option Nat->Prop
 | none=>b.roundOf=none
 | some id=>∃l on,ρ[id]?=some (l,on)/\b.roundOf=some l
theorem RdOk.ext {ρ ρ':Mp} {b:Frame} {rd:Option Nat} (h:RdOk ρ b rd) (e:Ext ρ ρ'):RdOk ρ' b rd:=by
 cases rd with
 | none=>exact h
 | some id =>
  obtain ⟨l,on,h1,h2⟩:=h
  exact ⟨l,on,e _ _ h1,h2⟩
def AM (P:Program) (p:Nat) (rd:Option Nat) (fn:FuncId) (todo:List CI) (fr:List AV) (h:List AB) (R:AV->List AB->Prop):Prop:=
 ∀(ρ:Mp) (w:World) (tmps:Array Value) (items:List Item) (b:Frame) (cs:List Frame) (rs:List Nat),b.fn=fn->b.kind=.normal->RdOk ρ b rd->p<=h.length->IRs P todo items->VL ρ fr tmps->Rel (KC P) ρ h w->Marks ρ h w rs ->
  Ret P rd b cs (PostR P p rs ρ h w R) (lone (b.atR { tmps,defers:=rs.map mkD } items) cs w)
end
end
end Go.Proofs.YtekeoichmdiiiaaGreat
