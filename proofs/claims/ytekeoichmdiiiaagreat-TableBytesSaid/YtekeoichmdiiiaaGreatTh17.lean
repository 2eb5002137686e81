/- Part 17 of what the laws' proofs rest on. No condition. -/
import Derived.Test.YtekeoichmdiiiaaGreatTh16
set_option linter.all false
namespace Go.Proofs.YtekeoichmdiiiaaGreat
section
open Go.RowKit
section
variable {T:Env} {fr:List AV} {h:List AB} {α:Type} {r:Row α}
def rsl (r:Row α) (id:Nat) (l:List α):AV:=if l.length=0 then .sl id 0 0 0 (some 0) else .sl id 0 l.length l.length (some r.sz)
def resB (r:Row α) (m:Bool) (l:List α):AB:=if l.length=0 then .dead else .blk true m (r.cells l)
theorem zBA (id:Nat) (l:List α):(rsl r id l).isSl=true:=by unfold rsl;split <;> rfl
theorem qpz (id:Nat) (l:List α):(rsl r id l).isStr=false:=QP8 (zBA id l)
theorem X4E (id:Nat) (l:List α):(rsl r id l).one=true:=Zcq (zBA id l)
theorem qAq (id:Nat) (l:List α):(rsl r id l).known=true:=Jrd (zBA id l)
theorem Zl5 (id:Nat) (l:List α):(rsl r id l).cells=[rsl r id l]:=qmc (zBA id l)
theorem ZMo (id:Nat) (l:List α):lenV (rsl r id l)=some (l.length:Int):=by
 unfold rsl
 split
 ·rename_i e;rw[e];rfl
 ·rfl
theorem YhM (q:Nat->Bool) (id:Nat) (l:List α) (hq:q id=true):(rsl r id l).ok q=true:=by unfold rsl;split <;> simp [AV.ok,hq]
theorem QSL (f:Nat->Nat) (id:Nat) (l:List α):(rsl r id l).ren f=rsl r (f id) l:=by unfold rsl;split <;> simp [AV.ren]
theorem QNS (id:Nat) (l:List α):idOf (rsl r id l)=[id]:=by unfold rsl;split <;> rfl
theorem Jai:lenV .ns=some 0:=oI rfl
theorem QO7 (m:Bool) (l:List α):(resB r m l).freeze=resB r false l:=by unfold resB;split <;> rfl
theorem KjL (q:Nat->Bool) (m:Bool) (l:List α):(resB r m l).ok q=true:=by unfold resB;split <;> rfl
def ownR (r:Row α) (l:List α):List AB->Nat->Prop
 | [],_=>False
 | B::_,0=>∃m,B=resB r m l
 | _::L,k+1=>ownR r l L k
theorem KuV (m:Bool) (l:List α) (L:List AB):ownR r l (resB r m l::L) 0=True:=eq_true ⟨m,rfl⟩
theorem q11 (l:List α) (B:AB) (L:List AB) (k:Nat):ownR r l (B::L) (k+1)=ownR r l L k:=oI rfl
theorem zWV (l:List α):∀(L:List AB) (k:Nat),ownR r l L k->∃m,L[k]?=some (resB r m l)
 | [],_,e=>e.elim
 | B::_,0,⟨m,e⟩=>⟨m,by rw[e];rfl⟩
 | _::L,k+1,e=>by simpa using zWV l L k e
theorem KGJ {H:List AB} {id:Nat} {m:Bool} {l:List α} (e:H[id]?=some (resB r m l)):rdS H r.sz (rsl r id l)=some (l.length,r.cells l):=by
 unfold rsl
 by_cases h0:l.length=0
 ·rw[if_pos h0]
  have:l=[]:=List.eq_nil_of_length_eq_zero h0
  subst this
  simp [rdS,Row.cells]
 ·rw[if_neg h0]
  simp only[rdS]
  rw[if_neg h0]
  unfold resB at e
  rw[if_neg h0]at e
  simp only[zZU,e,Option.bind_some,Nat.zero_add,List.drop_zero,r.cells_len]
  rw[if_pos (Nat.le_refl _),List.take_of_length_le (by rw[r.cells_len];exact Nat.le_refl _)]
theorem qIg {H:List AB} {id:Nat} {m:Bool} {l:List α} (e:H[id]?=some (resB r m l)) (hl:l.length<=maxLen):Rd r H (rsl r id l) l:=⟨KGJ e,hl⟩
theorem JNS (L:List AB) (k:Nat):(h++L)[h.length+k]?=L[k]?:=by rw[List.getElem?_append_right (by omega),Nat.add_sub_cancel_left]
theorem Xjq (L:List AB) (k:Nat) (l:List α) (e:ownR r l L k) (hl:l.length<=maxLen):getS r (h++L) (rsl r (h.length+k) l)=some l:=by
 obtain ⟨m,hm⟩:=zWV l L k e
 exact (qIg (by rw[JNS];exact hm) hl).get
theorem X9D (o sz n j:Nat) (id:Nat) (l:List α):fadV o (elP sz (rsl r id l) n j)=some (elP sz (rsl r id l) n (j+o)):=by
 unfold rsl
 split <;> simp [elP,fadV,Nat.add_assoc]
theorem zbT (q:Nat->Bool) (id sz n j:Nat) (l:List α) (hq:q id=true):(elP sz (rsl r id l) n j).ok q=true:=by unfold rsl;split <;> simp [elP,AV.ok,hq]
theorem QaS {H:List AB} {sz:Nat} {s:AV} {x:Nat×List AV} (e:rdS H sz s=some x):srcV H sz s=some x:=by
 cases s <;> first|exact e|cases e
theorem J8W {sz:Nat} (hz:r.sz=sz) (L:List AB) (k:Nat) (l:List α) (e:ownR r l L k):srcV (h++L) sz (rsl r (h.length+k) l)=some (l.length,r.cells l):=by
 subst hz
 obtain ⟨m,hm⟩:=zWV l L k e
 exact QaS (KGJ (by rw[JNS];exact hm))
theorem Rd.src {s:AV} {l:List α} (e:Rd r h s l) {sz:Nat} (hz:r.sz=sz) (x:List AB):srcV (h++x) sz s=some (l.length,r.cells l):=by
 subst hz
 exact QaS (e.app x).1
theorem Wk.empty (id off id' off' c:Nat) (k:Option Nat):Wk (.sl id off 0 0 (some 0)) (.sl id' off' 0 c k):=fun ρ v h=>by
 cases h with
 | sl _ _ _ _ _ b o n cap' h h1 h2 h3=>exact .sz id off _ cap' h3 (fun e=>nomatch e)
 | sz _ _ a c h hn=>exact .sz id off a c h hn
theorem Xjf (id:Nat) {l:List α} (h0:l.length=0) {v:AV} (hv:Wk (.sl id 0 0 0 (some 0)) v):Wk (rsl r id l) v:=by
 unfold rsl
 rw[if_pos h0]
 exact hv
theorem Kcb (id:Nat) {l:List α} (h0:l.length≠0):rsl r id l=.sl id 0 l.length l.length (some r.sz):=by
 unfold rsl
 rw[if_neg h0]
theorem XKx (m:Bool) {l:List α} (h0:l.length≠0):resB r m l=.blk true m (r.cells l):=by
 unfold resB
 rw[if_neg h0]
theorem JCp (m:Bool) {l:List α} (h0:l.length=0):resB r m l=.dead:=by
 unfold resB
 rw[if_pos h0]
theorem Bt.one {P:Program} {h L:List AB} {v:AV} {l:List α} (k:Nat) (hh:HOk h) (h0:l.length=0->Wk (.sl h.length 0 0 0 (some 0)) v) (hk:k<L.length) (h1:l.length≠0->v=.sl (h.length+k) 0 l.length l.length (some r.sz)/\L[k]?=some (.blk true true (r.cells l))):Bt P h.length [v] (h++L) [rsl r h.length l] (h++[resB r true l]):=by
 by_cases e:l.length=0
 ·refine Bt.trans (Bt.wk1 (Xjf (r:=r) h.length e (h0 e))) (Bt.sel [k] hh (by simp) ?_ ?_)
  ·refine ⟨⟨L[k],List.getElem?_eq_getElem hk,?_⟩,trivial⟩
   rw[JCp true e]
   trivial
  ·refine ⟨.inr ⟨YhM _ _ _ (by simp),?_⟩,trivial⟩
   unfold rsl
   rw[if_pos e]
   exact Wk.empty _ _ _ _ _ _
 ·obtain ⟨rfl,hb⟩:=h1 e
  refine Bt.sel [k] hh (by simp) ⟨⟨_,hb,?_⟩,trivial⟩ ⟨.inr ⟨YhM _ _ _ (by simp),?_⟩,trivial⟩
  ·rw[XKx true e]
   exact ⟨fun _=>rfl,rfl⟩
  ·rw[QSL,Kcb _ e]
   have:selN h.length [k] h.length=h.length+k:=by simp [selN]
   rw[this]
   all_goals exact Wk.refl _
theorem Bt.one0 {P:Program} {h:List AB} {v:AV} {l:List α} (h0:l.length=0) (hv:Wk (.sl h.length 0 0 0 (some 0)) v):Bt P h.length [v] (h++[]) [rsl r h.length l] (h++[resB r true l]):=by
 rw[List.append_nil,JCp true h0]
 exact Bt.trans (Bt.wk1 (Xjf (r:=r) h.length h0 hv)) (Bt.pad _ h 1)
theorem FnC.empty1 {P:Program} {g id off cap:Nat} {a:AV} {h':List AB} (h1:FnC P g [.ns] h a h') (h2:FnC P g [.se] h a h'):FnC P g [.sl id off 0 cap (some 0)] h a h':=by
 refine ⟨h1.1,fun ρ w vals hr hv=>?_⟩
 obtain ⟨c,hc,h0⟩:=hv.get (j:=0) rfl
 have mk:∀x:AV,VR ρ x c->VL ρ [x] vals:=fun x hx=>⟨hv.1,fun j b d hb hd=>by
  cases j with
  | zero =>
   cases hb
   rw[hc]at hd
   cases hd
   exact hx
  | succ j=>simp at hb⟩
 cases h0 with
 | sl _ _ _ _ _ b o n cap' _ _ _ h3=>exact h2.2 ρ w vals hr (mk .se (.se _ _ h3))
 | sz _ _ ad c hcap hn =>
  cases ad with
  | none =>
   obtain rfl:=hn rfl
   exact h1.2 ρ w vals hr (mk .ns .ns)
  | some ad=>exact h2.2 ρ w vals hr (mk .se (.se _ _ hcap))
theorem Yca (n:Bool) (x y:Opd):opR T (.eqn n x y) fr h=(ZAx (x.ev fr) (y.ev fr)).map fun r=>(.b (r ^^ n),h):=oI rfl
theorem zXD:ZAx .ns .ns=some true:=oI rfl
theorem KcL:ZAx .se .ns=some false:=oI rfl
theorem Xhz (id off n c:Nat) (k:Option Nat):ZAx (.sl id off n c k) .ns=if n=0/\k=some 0 then none else some false:=oI rfl
theorem YKf:AV.ns.isStr=false:=oI rfl
theorem JbZ:AV.se.isStr=false:=oI rfl
theorem QfB (a b c d:Nat) (k:Option Nat):(AV.sl a b c d k).isStr=false:=oI rfl
theorem ZHy (q:Nat->Bool) (f:Nat->Nat) (m:Bool) (l:List α):BWk q f (resB r m l) (resB r m l)=True:=by
 unfold resB
 split
 ·exact eq_true trivial
 ·exact eq_true ⟨fun z=>z,rfl⟩
theorem Ytc (q:Nat->Bool) (f:Nat->Nat) (m' m:Bool) (xs' xs:List AV):BWk q f (.blk true m' xs') (.blk true m xs)=((m'=true->m=true)/\xs'=xs):=oI rfl
theorem Ket (q:Nat->Bool) (f:Nat->Nat) (m' m:Bool) (xs' xs:List AV):BWk q f (.blk false m' xs') (.blk false m xs)=((m'=true->m=true)/\okL q xs'=true/\WkL (renL f xs') xs):=oI rfl
theorem qTF (q:Nat->Bool) (f:Nat->Nat) (s' s:ByteArray) (p' p:Nat):BWk q f (.iter s' p') (.iter s p)=(s'=s/\p'=p):=oI rfl
theorem q6Q (q:Nat->Bool) (f:Nat->Nat) (B:AB):BWk q f .dead B=True:=by cases B <;> rfl
theorem J4F (q:Nat->Bool) (f:Nat->Nat) (st' st:LoopState) (pd' pd:XE) (fr' fr:List AV) (ps' ps:List Nat) (a' a b' b:CC):BWk q f (.lp st' pd' fr' ps' a' b') (.lp st pd fr ps a b)=((st'=st/\pd'=pd/\ps'=ps/\a'=a/\b'=b)/\okL q fr'=true/\WkL (renL f fr') fr):=oI rfl
theorem zS6 (q:Nat->Bool) (id:Nat) (l:List α) (hq:q id=true):(rsl r id l).ok q=True:=eq_true (YhM q id l hq)
theorem qco (p k:Nat) (sel:List Nat):selN p sel (p+k)=p+sel.getD k 0:=qtm k
theorem QEI (p:Nat) (sel:List Nat):selN p sel p=p+sel.getD 0 0:=qtm (p:=p) 0
theorem nd_0 (a:Nat) (l:List Nat):(a::l).getD 0 0=a:=oI rfl
theorem nd_s (a:Nat) (l:List Nat) (k:Nat):(a::l).getD (k+1) 0=l.getD k 0:=by simp
theorem KOt:intR.sz=1:=oI rfl
theorem JAP:dotR.sz=2:=oI rfl
theorem Q33:r.cells []=[]:=oI rfl
theorem QhU (k:IntKind) (n:Int):(AV.i k n).known=true:=oI rfl
theorem Zn0 (x:Bool):(AV.b x).known=true:=oI rfl
theorem XPr (x:List UInt8):(AV.s x).known=true:=oI rfl
theorem YwM (a b:Nat):(AV.p a b).known=true:=oI rfl
theorem Jt0:AV.ns.known=true:=oI rfl
theorem Qzo (a b c d:Nat) (k:Option Nat):(AV.sl a b c d k).known=true:=oI rfl
theorem Zx1 (f:Fn) (a b:List AV):(AV.f f a b).known=true:=oI rfl
theorem YZs (l:List AV):(AV.ag l).known=true:=oI rfl
def chkI:Nat->Option (List AV)->Bool
 | 0,some []=>true
 | n+1,some (.i .i64 _::l)=>chkI n (some l)
 | _,_=>false
def valI:Option (List AV)->List Int
 | some (.i _ a::l)=>a::valI (some l)
 | _=>[]
theorem QeD:chkI 0 (some [])=true:=by simp [chkI]
theorem JSw (n:Nat) (a:Int) (l:List AV):chkI (n+1) (some (.i .i64 a::l))=chkI n (some l):=by simp [chkI]
theorem JKh:valI (some [])=[]:=by simp [valI]
theorem Ktg (k:IntKind) (a:Int) (l:List AV):valI (some (.i k a::l))=a::valI (some l):=by simp [valI]
theorem zvU:∀(n:Nat) (l:List AV),chkI n (some l)=true->l=intR.cells (valI (some l))/\(valI (some l)).length=n
 | 0,[],_=>by simp [valI,Q33]
 | 0,_::_,e=>by simp [chkI]at e
 | n+1,[],e=>by simp [chkI]at e
 | n+1,.i .i64 a::l,e=>by
  rw[JSw]at e
  obtain ⟨h1,h2⟩:=zvU n l e
  rw[Ktg]
  refine ⟨?_,by simp [h2]⟩
  simp only[Row.cells,List.flatMap_cons,KpI,List.cons_append,List.nil_append]
  congr 1
 | n+1,.i .u8 _::_,e|n+1,.i .u16 _::_,e|n+1,.i .u32 _::_,e|n+1,.i .u64 _::_,e|n+1,.i .i8 _::_,e|n+1,.i .i16 _::_,e|n+1,.i .i32 _::_,e=>by simp [chkI]at e
 | n+1,.b _::_,e|n+1,.s _::_,e|n+1,.p _ _::_,e|n+1,.np::_,e|n+1,.sl _ _ _ _ _::_,e|n+1,.se::_,e|n+1,.ns::_,e|n+1,.f _ _ _::_,e|n+1,.nf::_,e|n+1,.ifc _ _::_,e|n+1,.ni::_,e|n+1,.ag _::_,e|n+1,.tu _::_,e|n+1,.top::_,e|n+1,.y _::_,e=>by simp [chkI]at e
theorem JBI (L:List AB) (k n c:Nat) (kk:Option Nat) (e:chkI n (ownC L k)=true) (hn:n<=1000):getS intR (h++L) (.sl (h.length+k) 0 n c kk)=some (valI (ownC L k)):=by
 refine Rd.get ⟨?_,?_⟩
 ·cases hc:ownC L k with
  | none=>rw[hc]at e;cases n <;> simp [chkI]at e
  | some l =>
   rw[hc]at e
   obtain ⟨h1,h2⟩:=zvU n l e
   have hb:zZU (h++L) (h.length+k)=some l:=by rw[Ynl,hc]
   have hl:l.length=n:=by rw[h1,Row.cells_len,h2];exact Nat.mul_one n
   simp only[rdS,hb,Option.bind_some,Nat.zero_add,List.drop_zero,show intR.sz=1 from rfl,Nat.mul_one,hl]
   split
   ·rename_i h0
    subst h0
    have:l=[]:=List.eq_nil_of_length_eq_zero hl
    subst this
    simp [valI,Q33]
   ·rw[if_pos (Nat.le_refl _),List.take_of_length_le (by omega),<-h1,h2]
 ·cases hc:ownC L k with
  | none=>simp [valI]
  | some l =>
   rw[hc]at e
   obtain ⟨h1,h2⟩:=zvU n l e
   rw[h2]
   unfold maxLen
   omega
theorem Bt.drop {P:Program} {h:List AB} {v a:AV} (L:List AB) (hh:HOk h) (e:v=a) (hok:v.ok (fun i=>decide (i<h.length))=true):Bt P h.length [v] (h++L) [a] h:=by
 subst e
 have:=Bt.sel (P:=P) (h:=h) (l:=L) (l':=[]) (fr:=[v]) (fr':=[v]) [] hh (by simp) trivial ⟨.inr ⟨hok,Wk.ren (fun i hi=>qMB hi) hok⟩,trivial⟩
 rw[List.append_nil]at this
 exact this
theorem Bt.dropB {P:Program} {h:List AB} {x y:Bool} (L:List AB) (hh:HOk h) (e:x=y):Bt P h.length [.b x] (h++L) [.b y] h:=Bt.drop L hh (by rw[e]) (by simp [AV.ok])
theorem Bt.dropI {P:Program} {h:List AB} {x y:Int} {k:IntKind} (L:List AB) (hh:HOk h) (e:x=y):Bt P h.length [.i k x] (h++L) [.i k y] h:=Bt.drop L hh (by rw[e]) (by simp [AV.ok])
def FinO (P:Program) (p:Nat) (o:Option AV) (h:List AB) (a:AV) (h':List AB):Prop:=∃v,o=some v/\Bt P p [v] h [a] h'
theorem qvg {P:Program} {p:Nat} {v a:AV} {h':List AB}:FinO P p (some v) h a h'=Bt P p [v] h [a] h':=by simp [FinO]
theorem zK9 {P:Program} {p n:Nat} {sz:Option Nat} {a:AV} {h':List AB}:(∃v,resV fr h [RC.cell n sz]=some v/\Bt P p [v] h [a] h')=FinO P p (ldV h sz (pl fr n)) h a h':=by
 have e:resV fr h [RC.cell n sz]=ldV h sz (pl fr n):=by
  simp only[resV,JRR,KZN,ZRE]
  cases ldV h sz (pl fr n) <;> rfl
 rw[e]
 rfl
theorem ZA9 {P:Program} {p n m:Nat} {sz:Option Nat} {a:AV} {h':List AB}:(∃v,resV fr h [RC.cell n sz,RC.t m]=some v/\Bt P p [v] h [a] h')=FinO P p ((ldV h sz (pl fr n)).map fun x=>.tu [x,pl fr m]) h a h':=by
 have e:resV fr h [RC.cell n sz,RC.t m]=(ldV h sz (pl fr n)).map fun x=>.tu [x,pl fr m]:=by
  simp only[resV,JRR,KZN,ZRE,Option.bind_some]
  cases ldV h sz (pl fr n) <;> rfl
 rw[e]
 rfl
def appW (H:List AB) (fl:Bool) (sz by_:Nat) (s:AV) (m:Nat) (ys:List AV):Option (AV×List AB):=
 match s with
 | .ns=>if m=0 then some (.ns,H) else if m*by_<=140737488355328/\m<=maxLen then some (.sl H.length 0 m m (some sz),H++[.blk fl true ys]) else none
 | .sl id off len cap k =>
  if m=0 then some (.sl id off len cap k,H)
  else if len+m<=cap then (stB H id (off+len*sz) ys).map fun h'=>(.sl id off (len+m) cap k,h')
  else match H[id]? with
   | some (.blk fl' mu xs) =>
    if fl'=fl/\off+len*sz<=xs.length/\(len+m)*by_<=140737488355328/\len+m<=maxLen then
     if k=none then some (.sl H.length 0 (len+m) (len+m) (some sz),H++[.blk fl true ((xs.drop off).take (len*sz)++ys)])
     else if k=some sz/\sz≠0/\mu=true/\off+len*sz=xs.length then some (.sl H.length 0 (len+m) (len+m) (some sz),H.set id .dead++[.blk fl true (xs.drop off++ys)])
     else if k=some sz/\sz≠0/\mu=true then some (.sl H.length 0 (len+m) (len+m) (some sz),H.set id .dead++[.blk fl true ((xs.drop off).take (len*sz)++ys)])
     else none
    else none
   | _=>none
 | _=>none
theorem QMT (H:List AB) (fl:Bool) (sz by_:Nat) (s x:AV):appV H fl sz by_ s x=(srcV H sz x).bind fun my=>if my.2.all (wrOk fl)=true then appW H fl sz by_ s my.1 my.2 else none:=oI rfl
def flB (fl:Bool):List AB->Nat->Prop
 | [],_=>False
 | B::_,0=>∃m xs,B=.blk fl m xs
 | _::L,k+1=>flB fl L k
theorem KKg (fl m:Bool) (xs:List AV) (L:List AB):flB fl (.blk fl m xs::L) 0=True:=eq_true ⟨m,xs,rfl⟩
theorem KY5 (fl:Bool) (B:AB) (L:List AB) (k:Nat):flB fl (B::L) (k+1)=flB fl L k:=oI rfl
theorem JQ8 (fl:Bool):∀(L:List AB) (k:Nat),flB fl L k->∃m xs,L[k]?=some (.blk fl m xs)
 | [],_,e=>e.elim
 | B::_,0,⟨m,xs,e⟩=>⟨m,xs,by rw[e];rfl⟩
 | _::L,k+1,e=>by simpa using JQ8 fl L k e
theorem JA2 (L:List AB) (k:Nat) (fl:Bool) (sz by_ m:Nat) (ys:List AV) (hb:flB fl L k):appW (h++L) fl sz by_ (.sl (h.length+k) 0 0 0 none) m ys=if m=0 then some (.sl (h.length+k) 0 0 0 none,h++L) else if m*by_<=140737488355328/\m<=maxLen then some (.sl (h.length+L.length) 0 m m (some sz),h++(L++[.blk fl true ys])) else none:=by
 obtain ⟨mu,xs,hx⟩:=JQ8 fl L k hb
 unfold appW
 dsimp only
 split
 ·rfl
 ·rename_i hm
  rw[if_neg (by omega),JNS,hx]
  simp only[true_and,Nat.zero_add,Nat.zero_mul,Nat.zero_le,List.take_zero,List.nil_append,if_true,List.length_append,List.append_assoc]
theorem zp5 (L:List AB) (fl:Bool) (sz by_ m:Nat) (ys:List AV):appW (h++L) fl sz by_ .ns m ys=if m=0 then some (.ns,h++L) else if m*by_<=140737488355328/\m<=maxLen then some (.sl (h.length+L.length) 0 m m (some sz),h++(L++[.blk fl true ys])) else none:=by
 unfold appW
 simp only[List.length_append,List.append_assoc]
theorem JYB (l:List Int):(intR.cells l).all (wrOk true)=true:=by
 induction l with
 | nil=>rfl
 | cons a l ih =>
  simp only[Row.cells,List.flatMap_cons,List.all_append]at ih ⊢
  rw[ih]
  rfl
theorem XC4 (l:List (Int×Int)):(dotR.cells l).all (wrOk true)=true:=by
 induction l with
 | nil=>rfl
 | cons a l ih =>
  simp only[Row.cells,List.flatMap_cons,List.all_append]at ih ⊢
  rw[ih]
  rfl
def apS (r:Row α) (id:Nat) (l:List α):AV:=if l.length=0 then .ns else .sl id 0 l.length l.length (some r.sz)
theorem JRX (q:Nat->Bool) (id:Nat) (l:List α) (hq:q id=true):(apS r id l).ok q=true:=by unfold apS;split <;> simp [AV.ok,hq]
theorem Xxp (f:Nat->Nat) (id:Nat) (l:List α):(apS r id l).ren f=apS r (f id) l:=by unfold apS;split <;> simp [AV.ren]
theorem zMR (id:Nat) (l:List α):(apS r id l).isSl=true:=by unfold apS;split <;> rfl
theorem Qsh (id:Nat) (l:List α):lenV (apS r id l)=some (l.length:Int):=by
 unfold apS
 split
 ·rename_i e;rw[e];rfl
 ·rfl
theorem KsI (id:Nat):apS r id []=.ns:=oI rfl
theorem JgW (id:Nat) {l:List α} (h0:l.length≠0):apS r id l=rsl r id l:=by
 unfold apS rsl
 rw[if_neg h0,if_neg h0]
theorem YGm (id:Nat) (l:List α):(apS r id l).isStr=false:=QP8 (zMR id l)
theorem KiU (id:Nat) (l:List α):(apS r id l).one=true:=Zcq (zMR id l)
theorem Yz5 (id:Nat) (l:List α):(apS r id l).known=true:=Jrd (zMR id l)
theorem q08 (id:Nat) (l:List α):(apS r id l).cells=[apS r id l]:=qmc (zMR id l)
theorem K2H (id:Nat) (l:List α) (x:α):apS r id (l++[x])=.sl id 0 (l.length+1) (l.length+1) (some r.sz):=by
 unfold apS
 rw[if_neg (by simp),List.length_append]
 rfl
theorem zKv (m:Bool) (l:List α) (x:α):resB r m (l++[x])=.blk true m (r.cells l++r.f x):=by
 unfold resB
 rw[if_neg (by simp)]
 simp [Row.cells]
theorem YyJ (d:Int×Int):(d.1,d.2)=d:=oI rfl
theorem Jkk (id:Nat) (x:α):apS r id [x]=.sl id 0 1 1 (some r.sz):=oI rfl
theorem Qmm (m:Bool) (x:α):resB r m [x]=.blk true m (r.f x):=by
 unfold resB
 rw[if_neg (by simp)]
 simp [Row.cells]
theorem QXv {id:Nat} {l l':List α} {m m':Bool} (h1:apS r id l=apS r id l') (h2:resB r m l=resB r m' l'):l=l':=by
 have hl:l.length=l'.length:=by
  have:=congrArg lenV h1
  have g:∀l:List α,lenV (apS r id l)=some (l.length:Int):=fun l=>by
   unfold apS
   split
   ·rename_i e;rw[e];rfl
   ·rfl
  rw[g,g]at this
  exact Int.ofNat_inj.1 (Option.some.inj this)
 by_cases h0:l.length=0
 ·have a1:l=[]:=List.length_eq_zero_iff.1 h0
  have a2:l'=[]:=List.length_eq_zero_iff.1 (by omega)
  rw[a1,a2]
 ·rw[XKx m h0,XKx m' (hl▸h0)]at h2
  simp only[AB.blk.injEq,true_and]at h2
  exact r.cells_inj l l' hl h2.2
def YzR:List AB->Nat->List AB
 | [],_=>[]
 | _::L,0=>.dead::L
 | B::L,k+1=>B::YzR L k
theorem Xyg:∀(L:List AB) (k:Nat),YzR L k=L.set k .dead
 | [],k=>by simp [YzR]
 | _::L,0=>rfl
 | B::L,k+1=>by simp [YzR,Xyg L k]
theorem QEe (B:AB) (L:List AB):YzR (B::L) 0=.dead::L:=oI rfl
theorem z7V (B:AB) (L:List AB) (k:Nat):YzR (B::L) (k+1)=B::YzR L k:=oI rfl
def ownM (r:Row α) (l:List α):List AB->Nat->Prop
 | [],_=>False
 | B::_,0=>B=resB r true l
 | _::L,k+1=>ownM r l L k
theorem Ytr (l:List α) (L:List AB):ownM r l (resB r true l::L) 0=True:=eq_true rfl
theorem Q84 (l:List α) (B:AB) (L:List AB) (k:Nat):ownM r l (B::L) (k+1)=ownM r l L k:=oI rfl
theorem Xxu (l:List α):∀(L:List AB) (k:Nat),ownM r l L k->L[k]?=some (resB r true l)
 | [],_,e=>e.elim
 | B::_,0,e=>by rw[show B=resB r true l from e];rfl
 | _::L,k+1,e=>by simpa using Xxu l L k e
theorem X7B {sz:Nat} (hz:r.sz=sz) (L:List AB) (k:Nat) (l:List α) (by_ m:Nat) (ys:List AV) (hb:ownM r l L k) (hm:m≠0) (h1:(l.length+m)*by_<=140737488355328) (h2:l.length+m<=maxLen) :
  appW (h++L) true sz by_ (apS r (h.length+k) l) m ys=some (.sl (h.length+L.length) 0 (l.length+m) (l.length+m) (some sz),h++(YzR L k++[.blk true true (r.cells l++ys)])):=by
 subst hz
 have hx:=Xxu l L k hb
 have hk:k<L.length:=(List.getElem?_eq_some_iff.1 hx).1
 unfold apS
 by_cases h0:l.length=0
 ·rw[if_pos h0]
  have:l=[]:=List.eq_nil_of_length_eq_zero h0
  subst this
  simp only[List.length_nil,Nat.zero_add]at h1 h2
  rw[zp5,if_neg hm,if_pos ⟨h1,h2⟩]
  rw[JCp true rfl]at hx
  have hs:L.set k .dead=L:=List.ext_getElem? fun i=>by
   rw[List.getElem?_set]
   by_cases e:k=i
   ·subst e
    rw[if_pos rfl,if_pos hk,hx]
   ·rw[if_neg e]
  simp only[List.length_nil,Nat.zero_add,Q33,List.nil_append,Xyg,hs]
 ·rw[if_neg h0]
  rw[XKx true h0]at hx
  unfold appW
  dsimp only
  rw[if_neg hm,if_neg (by omega),JNS,hx]
  simp only[true_and,Nat.zero_add,r.cells_len,Nat.le_refl,h1,h2,if_true,reduceCtorEq,if_false,List.drop_zero,List.length_append]
  rw[if_pos (by have:=r.pos;exact ⟨by omega,trivial⟩),Xyg,List.set_append_right _ _ (by omega),Nat.add_sub_cancel_left,List.append_assoc]
end
end
section
open Go.RowKit
def mksV (h:List AB) (fl:Bool) (z:List AV) (by_:Nat) (le ca:AV):Option (AV×List AB):=
 match le,ca with
 | .i _ l,.i _ c=>if 0<=l/\l<=c/\(by_:Int)*c<=2 ^ 47/\c<=maxLen then newB h fl ((List.replicate c.toNat z).flatten) (fun n=>.sl n 0 l.toNat c.toNat none) else none
 | _,_=>none
theorem YBM {h:List AB} (L:List AB) (k off n cap sz:Nat) (kk:Option Nat):srcV (h++L) sz (.sl (h.length+k) off n cap kk)=if n=0 then some (0,[]) else (ownC L k).bind fun xs=>if off+n*sz<=xs.length then some (n,(xs.drop off).take (n*sz)) else none:=by
 simp only[srcV,Ynl]
theorem KSf {h:List AB} (L:List AB) (k:Nat) (B:AB):(h++L).set (h.length+k) B=h++L.set k B:=by
 rw[List.set_append_right _ _ (by omega),Nat.add_sub_cancel_left]
theorem zRg {α:Type} (a b:α) (l:List α):(a::l).set 0 b=b::l:=oI rfl
theorem QHl {α:Type} (a b:α) (l:List α) (n:Nat):(a::l).set (n+1) b=a::l.set n b:=oI rfl
theorem zZK {h:List AB} {i:Nat} {xs:List AV} (e:zZU h i=some xs) (L:List AB):zZU (h++L) i=some xs:=by
 unfold zZU at e ⊢
 split at e
 ·rename_i h2
  rw[List.getElem?_append_left (List.getElem?_eq_some_iff.1 h2).1,h2]
  exact e
 ·cases e
theorem ZT4 {h:List AB} {i:Nat} {xs:List AV} (e:zZU h i=some xs):i<h.length:=by
 unfold zZU at e
 split at e
 ·rename_i h2
  exact (List.getElem?_eq_some_iff.1 h2).1
 ·cases e
theorem X5u {h:List AB} {i:Nat} {xs:List AV} (e:zZU h i=some xs):(∀L,zZU (h++L) i=some xs)/\(∀L o,ldV (h++L) none (.p i o)=xs[o]?)/\(∀L o n,ldV (h++L) (some n) (.p i o)=if o+n<=xs.length then some (.ag ((xs.drop o).take n)) else none)/\(∀c lo hi anc past,qOk (h.length+c) lo hi anc past i=true)/\(∀c,(i<h.length+c)=True)/\(i<h.length)=True:=by
 have hl:=ZT4 e
 refine ⟨zZK e,fun L o=>?_,fun L o n=>?_,fun c lo hi anc past=>ZX5 (by omega),fun c=>eq_true (by omega),eq_true hl⟩
 ·simp only[ldV,zZK e,Option.bind_some]
 ·simp only[ldV,zZK e,Option.bind_some]
theorem X9R {α:Type} (r:Row α) (h:List AB):Rd r h .ns []:=⟨rfl,Nat.zero_le _⟩
theorem QXw {α:Type} (r:Row α) (h:List AB):getS r h .ns=some []:=(X9R r h).get
theorem JSh (sz id off n c:Nat) (k:Option Nat) (kk:IntKind) (m:Int):iadV sz (.sl id off n c k) (.i kk m)=if 0<=m/\m<(n:Int) then some (.p id (off+m.toNat*sz)) else none:=oI rfl
theorem qS8 {T:Env} {fr:List AV} {h:List AB} (fl:Bool) (z:List AV) (by_:Nat) (le ca:Opd):opR T (.mks fl z by_ le ca) fr h=mksV h fl z by_ (le.ev fr) (ca.ev fr):=by
 show (match le.ev fr,ca.ev fr with
  | .i _ l,.i _ c=>if 0<=l/\l<=c/\(by_:Int)*c<=2 ^ 47/\c<=maxLen then newB h fl ((List.replicate c.toNat z).flatten) (fun n=>.sl n 0 l.toNat c.toNat none) else none
  | _,_=>none)=_
 rfl
theorem zc7 (h:List AB) (fl:Bool) (z:List AV) (by_:Nat) (k k':IntKind) (l c:Int):mksV h fl z by_ (.i k l) (.i k' c)=if 0<=l/\l<=c/\(by_:Int)*c<=2 ^ 47/\c<=maxLen then newB h fl ((List.replicate c.toNat z).flatten) (fun n=>.sl n 0 l.toNat c.toNat none) else none:=oI rfl
def bxS (h:List AB) (i:Nat):Option AV:=
 match h[i]? with
 | some (.blk false _ [v])=>some v
 | _=>none
def bxL:List AB->Nat->Option AV
 | [],_=>none
 | .blk false _ [v]::_,0=>some v
 | _::_,0=>none
 | _::L,k+1=>bxL L k
theorem XAd:∀(L:List AB) (k:Nat),bxS L k=bxL L k
 | [],k=>by simp [bxS,bxL]
 | B::L,0=>by
  cases B with
  | blk fl m xs=>cases fl <;> (cases xs with|nil=>simp [bxS,bxL] | cons a l=>cases l <;> simp [bxS,bxL])
  | _=>simp [bxS,bxL]
 | B::L,k+1=>by
  have:=XAd L k
  have e:bxL (B::L) (k+1)=bxL L k:=by
   cases B with
   | blk fl m xs=>cases fl <;> (cases xs with|nil=>rfl|cons a l=>cases l <;> rfl)
   | _=>rfl
  rw[e,<-this]
  unfold bxS
  rw[List.getElem?_cons_succ]
theorem zOK {h:List AB} (L:List AB) (k:Nat):bxS (h++L) (h.length+k)=bxL L k:=by
 rw[<-XAd]
 unfold bxS
 rw[JNS]
theorem XYx (m:Bool) (v:AV) (L:List AB):bxL (.blk false m [v]::L) 0=some v:=oI rfl
theorem YJU (B:AB) (L:List AB) (k:Nat):bxL (B::L) (k+1)=bxL L k:=by
 cases B with
 | blk fl m xs=>cases fl <;> (cases xs with|nil=>rfl|cons a l=>cases l <;> rfl)
 | _=>rfl
theorem KEX (q:Nat->Bool) (st:LoopState) (pd:XE) (fr:List AV) (ps:List Nat) (a b:CC):(AB.lp st pd fr ps a b).ok q=okL q fr:=oI rfl
section
variable {c:Ctx} {k:List IT} {fr:List AV} {h:List AB}
end
def ZLX:List Pt->List Pt
 | []=>[]
 | p::l=>⟨p.k,p.lo,p.hi,[],[]⟩::ZLX l
theorem KsX:ZLX []=[]:=oI rfl
theorem Z02 (k lo hi:Nat) (rs ws:List Nat) (l:List Pt):ZLX (⟨k,lo,hi,rs,ws⟩::l)=⟨k,lo,hi,[],[]⟩::ZLX l:=oI rfl
theorem KOL (len0 lo hi anc:Nat) (past:List Pt) (id:Nat):qOk len0 lo hi anc (ZLX past) id=qOk len0 lo hi anc past id:=by
 unfold qOk
 congr 1
 induction past with
 | nil=>rfl
 | cons p l ih=>simp only[ZLX,List.any_cons,ih]
theorem YFs (len0 anc n:Nat) (past:List Pt):seen len0 anc (ZLX past) n=seen len0 anc past n:=by
 unfold seen
 congr 1
 funext id
 exact KOL len0 0 0 anc past id
theorem QPK {c : Ctx} {k : List IT} {fr : List AV} {h : List AB} {len0 n anc : Nat} {past : List Pt} {d : Option Nat} {l : List DOp} (ws : List Nat) (vs : List AV) (v : AV) (G : List AB) : W c (.dmk ws vs (some (v, G)) len0 n anc past d l :: k) fr h = (okL (fun i => decide (i < h.length)) vs = true ∧ HOk h ∧ past.all (ZYm len0 anc past ws) = true ∧ (ws.all fun id => decide (id < h.length)) = true ∧ h.length ≤ G.length ∧ v.ok (qOk len0 h.length G.length anc past) = true ∧
      (ws.all fun id=>(G.getD id .dead).ok (qOk len0 h.length G.length anc past))=true/\((G.drop h.length).all fun B=>B.ok (qOk len0 h.length G.length anc past))=true /\
      W c (.drw len0 (n+1) (⟨n,h.length,G.length,seen len0 anc (ZLX past) h.length,ws⟩::past) l::k) (put fr d v) (JkA ws G 0 h)):=by
  rw[YFs]
  exact zLD ws vs v G
end
section
def XtK:=(And.intro (And.intro (And.intro (And.intro (And.intro (And.intro (And.intro @Ydp (And.intro @Yea @zsm)) (And.intro (And.intro @qVI @KU1) (And.intro @ze4 @Y1u))) (And.intro (And.intro @QBL (And.intro @q4n @ZgW)) (And.intro (And.intro @K5z @Q05) (And.intro @zB4 @Xda)))) (And.intro (And.intro (And.intro @znl (And.intro @XsY @zSq)) (And.intro (And.intro @z7M @Jmm) (And.intro @Q73 @Q7Y))) (And.intro (And.intro (And.intro @YAm @W_op) (And.intro @JCe @ZDD)) (And.intro (And.intro @XJb @Qsc) (And.intro @qM5 @z6O))))) (And.intro (And.intro (And.intro (And.intro @Qpn (And.intro @ZfO @QTq)) (And.intro (And.intro @JAI @ZJt) (And.intro @pl_0 @pl_s))) (And.intro (And.intro @qEX (And.intro @YON @XEw)) (And.intro (And.intro @Jhq @ev_t) (And.intro @ev_c @Z93)))) (And.intro (And.intro (And.intro @YOu (And.intro @q6y @qqr)) (And.intro (And.intro @Klf @JNZ) (And.intro @XhS @KmS))) (And.intro (And.intro (And.intro @JiP @ZQJ) (And.intro @ZNw @ZyG)) (And.intro (And.intro @QMz @Kuv) (And.intro @J8q @Yvh)))))) (And.intro (And.intro (And.intro (And.intro (And.intro @YTV (And.intro @KPR @YCa)) (And.intro (And.intro @q3A @qAr) (And.intro @Jeo @Zy4))) (And.intro (And.intro @Qk2 (And.intro @qrD @JTf)) (And.intro (And.intro @qSN @Yck) (And.intro @XQV @Zwn)))) (And.intro (And.intro (And.intro @QNl (And.intro @QXx @YA7)) (And.intro (And.intro @JW2 @YZY) (And.intro @KKK @JXs))) (And.intro (And.intro (And.intro @J3N @Q3g) (And.intro @qUF @YEp)) (And.intro (And.intro @Qnv @XHI) (And.intro @QpH @Q49))))) (And.intro (And.intro (And.intro (And.intro @Qri (And.intro @Tab.at_nil @Tab.at_cons)) (And.intro (And.intro @qp6 @Qos) (And.intro @J5y @Q2P))) (And.intro (And.intro (And.intro @qA1 @zuC) (And.intro @KbJ @Q8L)) (And.intro (And.intro @Jcs @J5b) (And.intro @YP5 @JmN)))) (And.intro (And.intro (And.intro @XuC (And.intro @qXz @Zs0)) (And.intro (And.intro @all_nil @all_cons) (And.intro @KVN @XGI))) (And.intro (And.intro (And.intro @Z98 @Xqk) (And.intro @Jls @JKV)) (And.intro (And.intro @K62 @YDx) (And.intro @Jau @Q7E))))))) (And.intro (And.intro (And.intro (And.intro (And.intro (And.intro @Y0X (And.intro @YVy @ZuF)) (And.intro (And.intro @q8D @Zjy) (And.intro @YHg @qkF))) (And.intro (And.intro @ZqG (And.intro @KfA @ZKz)) (And.intro (And.intro @QUA @z57) (And.intro @KFg @J0E)))) (And.intro (And.intro (And.intro @Kis (And.intro @Ky8 @Y0L)) (And.intro (And.intro @QZx @YOK) (And.intro @q5w @KpB))) (And.intro (And.intro (And.intro @Qnm @XD6) (And.intro @ZCx @Qpj)) (And.intro (And.intro @KNw @ZTm) (And.intro @XJt @z4a))))) (And.intro (And.intro (And.intro (And.intro @true_and (And.intro @and_true @true_implies)) (And.intro (And.intro @Bool.true_and @Bool.and_true) (And.intro @Bool.false_and @Bool.and_false))) (And.intro (And.intro (And.intro @Nat.lt_add_one @tp_0) (And.intro @tp_s @Xof)) (And.intro (And.intro @Yhh @zBr) (And.intro @J8z @Int.cast_ofNat_Int)))) (And.intro (And.intro (And.intro @Int.natCast_inj (And.intro @Int.ofNat_lt @Int.ofNat_le)) (And.intro (And.intro @Int.toNat_natCast @Int.natCast_nonneg) (And.intro @not_false_eq_true @not_true_eq_false))) (And.intro (And.intro (And.intro @Bool.false_eq_true @qpz) (And.intro @X4E @qAq)) (And.intro (And.intro @Zl5 @ZMo) (And.intro @X9D @QO7)))))) (And.intro (And.intro (And.intro (And.intro (And.intro @KuV (And.intro @q11 @QMT)) (And.intro (And.intro @KKg @KY5) (And.intro @JA2 @zp5))) (And.intro (And.intro @JYB (And.intro @XC4 @QEe)) (And.intro (And.intro @z7V @Ytr) (And.intro @Q84 @Qsh)))) (And.intro (And.intro (And.intro @Yca (And.intro @zXD @KcL)) (And.intro (And.intro @YKf @JbZ) (And.intro @QfB @Za2))) (And.intro (And.intro (And.intro @Xyf @J3u) (And.intro @Y7B @q3p)) (And.intro (And.intro @JPa @qvg) (And.intro @zK9 @ZA9))))) (And.intro (And.intro (And.intro (And.intro @QhU (And.intro @Zn0 @XPr)) (And.intro (And.intro @YwM @Jt0) (And.intro @Qzo @Zx1))) (And.intro (And.intro (And.intro @YZs @JBI) (And.intro @QeD @JSw)) (And.intro (And.intro @JKh @Ktg) (And.intro @KSf @zRg)))) (And.intro (And.intro (And.intro @QHl (And.intro @Nat.add_assoc @zOK)) (And.intro (And.intro @XYx @YJU) (And.intro @Ynl @QXw))) (And.intro (And.intro (And.intro @JSh @qS8) (And.intro @zc7 @YGm)) (And.intro (And.intro @KiU @Yz5) (And.intro @q08 @Jai))))))))
def ZGK:=(And.intro (And.intro (And.intro (And.intro (And.intro (And.intro (And.intro @QKv @ZDm) (And.intro @KIr @KFY)) (And.intro (And.intro @Zmf @Qvw) (And.intro @QO6 @JfW))) (And.intro (And.intro (And.intro @QcM @YdV) (And.intro @Jm1 @YEo)) (And.intro (And.intro @XIy @zFT) (And.intro @ZUD @JxL)))) (And.intro (And.intro (And.intro (And.intro @zhg @XvL) (And.intro @ZMh @QPK)) (And.intro (And.intro @KsX @Z02) (And.intro @zuM @Z7H))) (And.intro (And.intro (And.intro @KDB @zHJ) (And.intro @X5b @J4q)) (And.intro (And.intro @ZyQ @Kct) (And.intro @ZCW (And.intro @KoE @JrK)))))) (And.intro (And.intro (And.intro (And.intro (And.intro @qrO @zNi) (And.intro @ZWG @JLV)) (And.intro (And.intro @JlY @XYK) (And.intro @X66 @Juu))) (And.intro (And.intro (And.intro @Yp9 @QdM) (And.intro @ZXI @JGt)) (And.intro (And.intro @KfV @qel) (And.intro @J3X @Jlk)))) (And.intro (And.intro (And.intro (And.intro @Y3i @JcZ) (And.intro @K71 @zTm)) (And.intro (And.intro @JLn @Q7a) (And.intro @Zzz @KmZ))) (And.intro (And.intro (And.intro @Yfa @zt9) (And.intro @Zeq @XMW)) (And.intro (And.intro @X7C @Kx1) (And.intro @J8G (And.intro @YDk @qrT))))))) (And.intro (And.intro (And.intro (And.intro (And.intro (And.intro @Yae @zWd) (And.intro @Kt2 @zPi)) (And.intro (And.intro @KFW @YH7) (And.intro @QtU @Yh4))) (And.intro (And.intro (And.intro @ZFd @XV2) (And.intro @JTZ @qtA)) (And.intro (And.intro @JEZ @zZV) (And.intro @ok_i @ok_b)))) (And.intro (And.intro (And.intro (And.intro @ok_s @KE7) (And.intro @YXH @qlx)) (And.intro (And.intro @ok_p @ok_y) (And.intro @YJG @ok_f))) (And.intro (And.intro (And.intro @JL2 @Zlu) (And.intro @q0E @ZiP)) (And.intro (And.intro @ztr @XQn) (And.intro @JWu (And.intro @J6L @qpA)))))) (And.intro (And.intro (And.intro (And.intro (And.intro @ZVf @KJU) (And.intro @Z7g @any_cons)) (And.intro (And.intro @YBg @JmK) (And.intro @KrO @qIm))) (And.intro (And.intro (And.intro @qHh @Jqm) (And.intro @Kf1 @YbB)) (And.intro (And.intro @K7s @ZRZ) (And.intro @Tab.ws_nil (And.intro @Tab.ws_cons @decide_true))))) (And.intro (And.intro (And.intro (And.intro @decide_false @Bool.or_true) (And.intro @Bool.or_false @Bool.true_or)) (And.intro (And.intro @Bool.false_or @Bool.not_true) (And.intro @Bool.not_false @KjL))) (And.intro (And.intro (And.intro @YhM @zbT) (And.intro @Zgz @YaO)) (And.intro (And.intro @Ys6 @KJW) (And.intro @KEX (And.intro @JRX @QNS))))))))
def Ztz:=(And.intro (And.intro (And.intro (And.intro (And.intro @ZHy @QSL) (And.intro @Xxp (And.intro @qco @QEI))) (And.intro (And.intro @nd_0 (And.intro @nd_s @zS6)) (And.intro @J8z (And.intro @zBr @Ky8)))) (And.intro (And.intro (And.intro @Y0L (And.intro @decide_eq_true_eq @Bool.and_eq_true)) (And.intro @Bool.and_true (And.intro @Bool.true_and @Nat.lt_add_right_iff_pos))) (And.intro (And.intro @Nat.lt_add_one (And.intro @Nat.add_lt_add_iff_left @Nat.zero_lt_succ)) (And.intro @or_true (And.intro @true_or @and_true))))) (And.intro (And.intro (And.intro (And.intro @true_and @and_self) (And.intro @Nat.zero_add (And.intro @Nat.add_zero @false_or))) (And.intro (And.intro @Ytc (And.intro @Ket @q6Q)) (And.intro @J4F (And.intro @Yhh @Xof)))) (And.intro (And.intro (And.intro @imp_self (And.intro @KOt @JAP)) (And.intro @KpI (And.intro @QKG @decide_true))) (And.intro (And.intro @Bool.or_true (And.intro @YyJ @KsI)) (And.intro @Jkk (And.intro @Qmm @Nat.lt_irrefl))))))
def JS3:=(And.intro (And.intro (And.intro @qxt @zJn) (And.intro @qK4 (And.intro @Yp4 @YBM))) (And.intro (And.intro @Xjq @QuC) (And.intro @Y5e (And.intro @ZCL @qdg))))
end
section
open Go.RowKit
section
variable {T:Env} {fr:List AV} {h:List AB} {p:Nat}
theorem qRn (hp:h.length=p) (l:List AB) (k o:Nat):ldV (h++l) none (.p (p+k) o)=(ownC l k).bind fun xs=>xs[o]?:=by subst hp;exact qxt l k o
theorem qSM (hp:h.length=p) (l:List AB) (k o n:Nat):ldV (h++l) (some n) (.p (p+k) o)=(ownC l k).bind fun xs=>if o+n<=xs.length then some (.ag ((xs.drop o).take n)) else none:=by subst hp;exact zJn l k o n
theorem YNH (hp:h.length=p) (l:List AB) (k o:Nat) (v:AV):stV (h++l) none (.p (p+k) o) v=if v.one=true then (ownW l k o [v]).map (h ++ ·) else none:=by subst hp;exact qK4 l k o v
theorem KMT (hp:h.length=p) (l:List AB) (k o n:Nat) (vs:List AV):stV (h++l) (some n) (.p (p+k) o) (.ag vs)=if vs.length=n then (ownW l k o vs).map (h ++ ·) else none:=by subst hp;exact Yp4 l k o n vs
theorem zrQ (hp:h.length=p) (L:List AB) (k off n cap sz:Nat) (kk:Option Nat):srcV (h++L) sz (.sl (p+k) off n cap kk)=if n=0 then some (0,[]) else (ownC L k).bind fun xs=>if off+n*sz<=xs.length then some (n,(xs.drop off).take (n*sz)) else none:=by subst hp;exact YBM L k off n cap sz kk
theorem YCc {α:Type} {r:Row α} (hp:h.length=p) {sz:Nat} (hz:r.sz=sz) (L:List AB) (k:Nat) (l:List α) (by_ m:Nat) (ys:List AV) (hb:ownM r l L k) (hm:m≠0) (h1:(l.length+m)*by_<=140737488355328) (h2:l.length+m<=maxLen) :
  appW (h++L) true sz by_ (apS r (p+k) l) m ys=some (.sl (p+L.length) 0 (l.length+m) (l.length+m) (some sz),h++(YzR L k++[.blk true true (r.cells l++ys)])):=by subst hp;exact X7B hz L k l by_ m ys hb hm h1 h2
theorem K0E {α:Type} {r:Row α} (hp:h.length=p) {sz:Nat} (hz:r.sz=sz) (L:List AB) (k:Nat) (l:List α) (by_ m:Nat) (ys:List AV) (h0:l.length≠0) (hb:ownM r l L k) (hm:m≠0) (h1:(l.length+m)*by_<=140737488355328) (h2:l.length+m<=maxLen) :
  appW (h++L) true sz by_ (rsl r (p+k) l) m ys=some (.sl (p+L.length) 0 (l.length+m) (l.length+m) (some sz),h++(YzR L k++[.blk true true (r.cells l++ys)])):=by rw[<-JgW _ h0];exact YCc hp hz L k l by_ m ys hb hm h1 h2
theorem KB6 {α:Type} {r:Row α} (hp:h.length=p) (L:List AB) (k:Nat) (l:List α) (e:ownR r l L k) (hl:l.length<=maxLen):getS r (h++L) (rsl r (p+k) l)=some l:=by subst hp;exact Xjq L k l e hl
theorem zGW (hp:h.length=p) (l:List AB):(h++l).length=p+l.length:=by rw[<-hp];exact List.length_append
theorem QXy:(h.map AB.freeze).length=h.length:=List.length_map _
theorem XrP (hp:h.length=p) (l:List AB) (n:Nat):(h++l).drop (p+n)=l.drop n:=by subst hp;exact Y5e l n
theorem zEY (hp:h.length=p) (l:List AB) (n:Nat):(h++l).getD (p+n) .dead=l.getD n .dead:=by subst hp;exact ZCL l n
theorem ZDq (hp:h.length=p) (c anc n:Nat) (past:List Pt) (ws:List Nat) (l:List AB) (hn:n=p+l.length) (hw:(ws.all fun id=>decide (p<=id))=true):qRB (seen (p+c) anc past n) ws 0 (h++l)=h.map AB.freeze++mskL p c anc past ws 0 l:=by
 subst hp
 have h1:∀j,j<h.length->j∉ws:=fun j hj hm=>by
  have:=List.all_eq_true.1 hw j hm
  simp only[decide_eq_true_eq]at this
  omega
 refine List.ext_getElem? fun i=>?_
 rw[z8h,Nat.zero_add]
 by_cases hi:i<h.length
 ·rw[List.getElem?_append_left hi,List.getElem?_append_left (by rw[List.length_map];exact hi),List.getElem?_map,List.getElem?_eq_getElem hi,Option.map_some,Option.map_some,if_neg (h1 i hi),if_pos]
  exact List.mem_filter.2 ⟨List.mem_range.2 (by omega),ZX5 (by omega)⟩
 ·rw[List.getElem?_append_right (by omega),List.getElem?_append_right (by rw[List.length_map];omega),List.length_map,JqO]
  cases hB:l[i-h.length]? with
  | none=>rfl
  | some B =>
   have hlt:=(List.getElem?_eq_some_iff.1 hB).1
   simp only[Option.map_some,Option.some.injEq,show h.length+(0+(i-h.length))=i by omega]
   by_cases hm:i∈ws
   ·rw[if_pos hm,if_pos (qS5.2 hm)]
   ·rw[if_neg hm,if_neg (fun q=>hm (qS5.1 q))]
    by_cases hq:qOk (h.length+c) 0 0 anc past i=true
    ·rw[if_pos hq,if_pos]
     exact List.mem_filter.2 ⟨List.mem_range.2 (by omega),hq⟩
    ·rw[if_neg hq,if_neg]
     exact fun q=>hq (List.mem_filter.1 q).2
theorem X9V (ws:List Nat) (G l:List AB) (hw:(ws.all fun id=>decide (h.length<=id))=true):JkA ws (h.map AB.freeze++G) 0 (h++l)=h++mrgL h.length ws 0 G l:=by
 have h1:∀j,j<h.length->j∉ws:=fun j hj hm=>by
  have:=List.all_eq_true.1 hw j hm
  simp only[decide_eq_true_eq]at this
  omega
 refine List.ext_getElem? fun i=>?_
 rw[Xwm,Nat.zero_add]
 by_cases hi:i<h.length
 ·rw[if_pos (by rw[List.length_append];omega),if_neg (h1 i hi),List.getElem?_append_left hi,List.getElem?_append_left hi]
 ·have g1:(h.map AB.freeze++G)[i]?=G[i-h.length]?:=by rw[List.getElem?_append_right (by rw[List.length_map];omega),List.length_map]
  rw[g1,List.getElem?_append_right (by omega),List.getElem?_append_right (by omega),Q5v,List.length_append,show h.length+(0+(i-h.length))=i by omega]
  by_cases hl:i-h.length<l.length
  ·rw[if_pos hl,if_pos (by omega)]
  ·rw[if_neg hl,if_neg (by omega)]
end
end
end Go.Proofs.YtekeoichmdiiiaaGreat
