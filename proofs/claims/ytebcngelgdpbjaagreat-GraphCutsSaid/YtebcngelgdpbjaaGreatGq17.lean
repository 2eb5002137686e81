/- Part 17 of what the laws' proofs rest on. No condition. -/
import Derived.Test.YtebcngelgdpbjaaGreatGq16
set_option linter.all false
namespace Go.Proofs.YtebcngelgdpbjaaGreat
section
open Go.RowKit
section
variable {T:Env} {fr:List AV} {h:List AB} {α:Type} {r:Row α}
def rsl (r:Row α) (id:Nat) (l:List α):AV:=if l.length=0 then .sl id 0 0 0 (some 0) else .sl id 0 l.length l.length (some r.sz)
def resB (r:Row α) (m:Bool) (l:List α):AB:=if l.length=0 then .dead else .blk true m (r.cells l)
theorem JZE (id:Nat) (l:List α):(rsl r id l).isSl=true:=by unfold rsl;split <;> rfl
theorem Q6a (id:Nat) (l:List α):(rsl r id l).isStr=false:=q5E (JZE id l)
theorem XGK (id:Nat) (l:List α):(rsl r id l).one=true:=Xm6 (JZE id l)
theorem zGH (id:Nat) (l:List α):(rsl r id l).known=true:=Z4Z (JZE id l)
theorem Kpl (id:Nat) (l:List α):(rsl r id l).cells=[rsl r id l]:=Zl7 (JZE id l)
theorem Jul (id:Nat) (l:List α):lenV (rsl r id l)=some (l.length:Int):=by
 unfold rsl
 split
 ·rename_i e;rw[e];rfl
 ·rfl
theorem YrQ (q:Nat->Bool) (id:Nat) (l:List α) (hq:q id=true):(rsl r id l).ok q=true:=by unfold rsl;split <;> simp [AV.ok,hq]
theorem JHl (f:Nat->Nat) (id:Nat) (l:List α):(rsl r id l).ren f=rsl r (f id) l:=by unfold rsl;split <;> simp [AV.ren]
theorem Qqp (id:Nat) (l:List α):idOf (rsl r id l)=[id]:=by unfold rsl;split <;> rfl
theorem znp:lenV .ns=some 0:=oI rfl
theorem K96 (m:Bool) (l:List α):(resB r m l).freeze=resB r false l:=by unfold resB;split <;> rfl
theorem JsZ (q:Nat->Bool) (m:Bool) (l:List α):(resB r m l).ok q=true:=by unfold resB;split <;> rfl
def ownR (r:Row α) (l:List α):List AB->Nat->Prop
 | [],_=>False
 | B::_,0=>∃m,B=resB r m l
 | _::L,k+1=>ownR r l L k
theorem zuI (m:Bool) (l:List α) (L:List AB):ownR r l (resB r m l::L) 0=True:=eq_true ⟨m,rfl⟩
theorem z1i (l:List α) (B:AB) (L:List AB) (k:Nat):ownR r l (B::L) (k+1)=ownR r l L k:=oI rfl
theorem zuO (l:List α):∀(L:List AB) (k:Nat),ownR r l L k->∃m,L[k]?=some (resB r m l)
 | [],_,e=>e.elim
 | B::_,0,⟨m,e⟩=>⟨m,by rw[e];rfl⟩
 | _::L,k+1,e=>by simpa using zuO l L k e
theorem qdQ {H:List AB} {id:Nat} {m:Bool} {l:List α} (e:H[id]?=some (resB r m l)):rdS H r.sz (rsl r id l)=some (l.length,r.cells l):=by
 unfold rsl
 by_cases h0:l.length=0
 ·rw[if_pos h0]
  have:l=[]:=List.eq_nil_of_length_eq_zero h0
  subst this
  simp [rdS,Row.cells]
 ·rw[if_neg h0]
  simp only[rdS]
  rw[if_neg h0]
  unfold resB at e
  rw[if_neg h0]at e
  simp only[ZMh,e,Option.bind_some,Nat.zero_add,List.drop_zero,r.cells_len]
  rw[if_pos (Nat.le_refl _),List.take_of_length_le (by rw[r.cells_len];exact Nat.le_refl _)]
theorem K0d {H:List AB} {id:Nat} {m:Bool} {l:List α} (e:H[id]?=some (resB r m l)) (hl:l.length<=maxLen):Rd r H (rsl r id l) l:=⟨qdQ e,hl⟩
theorem qu4 (L:List AB) (k:Nat):(h++L)[h.length+k]?=L[k]?:=by rw[List.getElem?_append_right (by omega),Nat.add_sub_cancel_left]
theorem YJi (L:List AB) (k:Nat) (l:List α) (e:ownR r l L k) (hl:l.length<=maxLen):getS r (h++L) (rsl r (h.length+k) l)=some l:=by
 obtain ⟨m,hm⟩:=zuO l L k e
 exact (K0d (by rw[qu4];exact hm) hl).get
theorem qCC (o sz n j:Nat) (id:Nat) (l:List α):fadV o (elP sz (rsl r id l) n j)=some (elP sz (rsl r id l) n (j+o)):=by
 unfold rsl
 split <;> simp [elP,fadV,Nat.add_assoc]
theorem zMA (q:Nat->Bool) (id sz n j:Nat) (l:List α) (hq:q id=true):(elP sz (rsl r id l) n j).ok q=true:=by unfold rsl;split <;> simp [elP,AV.ok,hq]
theorem YQs {H:List AB} {sz:Nat} {s:AV} {x:Nat×List AV} (e:rdS H sz s=some x):srcV H sz s=some x:=by
 cases s <;> first|exact e|cases e
theorem Rd.src {s:AV} {l:List α} (e:Rd r h s l) {sz:Nat} (hz:r.sz=sz) (x:List AB):srcV (h++x) sz s=some (l.length,r.cells l):=by
 subst hz
 exact YQs (e.app x).1
theorem Wk.empty (id off id' off' c:Nat) (k:Option Nat):Wk (.sl id off 0 0 (some 0)) (.sl id' off' 0 c k):=fun ρ v h=>by
 cases h with
 | sl _ _ _ _ _ b o n cap' h h1 h2 h3=>exact .sz id off _ cap' h3 (fun e=>nomatch e)
 | sz _ _ a c h hn=>exact .sz id off a c h hn
theorem KYS (id:Nat) {l:List α} (h0:l.length≠0):rsl r id l=.sl id 0 l.length l.length (some r.sz):=by
 unfold rsl
 rw[if_neg h0]
theorem QTh (m:Bool) {l:List α} (h0:l.length≠0):resB r m l=.blk true m (r.cells l):=by
 unfold resB
 rw[if_neg h0]
theorem KZ6 (m:Bool) {l:List α} (h0:l.length=0):resB r m l=.dead:=by
 unfold resB
 rw[if_pos h0]
theorem JCD (n:Bool) (x y:Opd):opR T (.eqn n x y) fr h=(q70 (x.ev fr) (y.ev fr)).map fun r=>(.b (r ^^ n),h):=oI rfl
theorem zv8:q70 .ns .ns=some true:=oI rfl
theorem KK1:q70 .se .ns=some false:=oI rfl
theorem K7a (id off n c:Nat) (k:Option Nat):q70 (.sl id off n c k) .ns=if n=0/\k=some 0 then none else some false:=oI rfl
theorem JNR:AV.ns.isStr=false:=oI rfl
theorem Q6R:AV.se.isStr=false:=oI rfl
theorem ZeQ (a b c d:Nat) (k:Option Nat):(AV.sl a b c d k).isStr=false:=oI rfl
theorem ZIe (q:Nat->Bool) (f:Nat->Nat) (m:Bool) (l:List α):BWk q f (resB r m l) (resB r m l)=True:=by
 unfold resB
 split
 ·exact eq_true trivial
 ·exact eq_true ⟨fun z=>z,rfl⟩
theorem Qo4 (q:Nat->Bool) (f:Nat->Nat) (m' m:Bool) (xs' xs:List AV):BWk q f (.blk true m' xs') (.blk true m xs)=((m'=true->m=true)/\xs'=xs):=oI rfl
theorem K4p (q:Nat->Bool) (f:Nat->Nat) (m' m:Bool) (xs' xs:List AV):BWk q f (.blk false m' xs') (.blk false m xs)=((m'=true->m=true)/\okL q xs'=true/\WkL (renL f xs') xs):=oI rfl
theorem YmR (q:Nat->Bool) (f:Nat->Nat) (s' s:ByteArray) (p' p:Nat):BWk q f (.iter s' p') (.iter s p)=(s'=s/\p'=p):=oI rfl
theorem KKP (q:Nat->Bool) (f:Nat->Nat) (B:AB):BWk q f .dead B=True:=by cases B <;> rfl
theorem zmY (q:Nat->Bool) (f:Nat->Nat) (st' st:LoopState) (pd' pd:XE) (fr' fr:List AV) (ps' ps:List Nat) (a' a b' b:CC):BWk q f (.lp st' pd' fr' ps' a' b') (.lp st pd fr ps a b)=((st'=st/\pd'=pd/\ps'=ps/\a'=a/\b'=b)/\okL q fr'=true/\WkL (renL f fr') fr):=oI rfl
theorem Bt.selL {P:Program} {h l l':List AB} {fr fr':List AV} (n:Nat) (sel:List Nat) (hh:HOk h) (hc:sel.take n=List.range n) (hup:((sel.drop n).all fun k=>decide (n<=k))=true) (hn:n<=sel.length) (hnd:sel.Nodup) (hb:BlkSel h.length sel sel.length l sel l') (hfr:FrSel h.length sel sel.length fr fr'):Bt P (h.length+n) fr (h++l) fr' (h++l'):=by
 refine Bt.selc n sel hh (fun i hi=>?_) (fun i k hi hk=>?_) hn hnd hb hfr
 ·have:=congrArg (fun x=>x[i]?) hc
  simp only[List.getElem?_take,List.getElem?_range hi,if_pos hi]at this
  exact this
 ·refine of_decide_eq_true (List.all_eq_true.1 hup k ?_)
  refine List.mem_of_getElem? (i:=i-n) ?_
  rw[List.getElem?_drop,show n+(i-n)=i by omega]
  exact hk
theorem q3K (q:Nat->Bool) (id:Nat) (l:List α) (hq:q id=true):(rsl r id l).ok q=True:=eq_true (YrQ q id l hq)
theorem Y6m (p k:Nat) (sel:List Nat):selN p sel (p+k)=p+sel.getD k 0:=JRu k
theorem QRE (p:Nat) (sel:List Nat):selN p sel p=p+sel.getD 0 0:=JRu (p:=p) 0
theorem nd_0 (a:Nat) (l:List Nat):(a::l).getD 0 0=a:=oI rfl
theorem nd_s (a:Nat) (l:List Nat) (k:Nat):(a::l).getD (k+1) 0=l.getD k 0:=by simp
theorem K39:intR.sz=1:=oI rfl
theorem zKP:dotR.sz=2:=oI rfl
theorem XBP:r.cells []=[]:=oI rfl
theorem Xs4 (k:IntKind) (n:Int):(AV.i k n).known=true:=oI rfl
theorem Qm3 (x:Bool):(AV.b x).known=true:=oI rfl
theorem Q2R (x:List UInt8):(AV.s x).known=true:=oI rfl
theorem qn3 (a b:Nat):(AV.p a b).known=true:=oI rfl
theorem Ky5:AV.ns.known=true:=oI rfl
theorem qjl (a b c d:Nat) (k:Option Nat):(AV.sl a b c d k).known=true:=oI rfl
theorem YQ0 (f:Fn) (a b:List AV):(AV.f f a b).known=true:=oI rfl
theorem YUi (l:List AV):(AV.ag l).known=true:=oI rfl
def chkI:Nat->Option (List AV)->Bool
 | 0,some []=>true
 | n+1,some (.i .i64 _::l)=>chkI n (some l)
 | _,_=>false
def valI:Option (List AV)->List Int
 | some (.i _ a::l)=>a::valI (some l)
 | _=>[]
theorem zWH:chkI 0 (some [])=true:=by simp [chkI]
theorem z17 (n:Nat) (a:Int) (l:List AV):chkI (n+1) (some (.i .i64 a::l))=chkI n (some l):=by simp [chkI]
theorem qhN:valI (some [])=[]:=by simp [valI]
theorem YIc (k:IntKind) (a:Int) (l:List AV):valI (some (.i k a::l))=a::valI (some l):=by simp [valI]
theorem zde:∀(n:Nat) (l:List AV),chkI n (some l)=true->l=intR.cells (valI (some l))/\(valI (some l)).length=n
 | 0,[],_=>by simp [valI,XBP]
 | 0,_::_,e=>by simp [chkI]at e
 | n+1,[],e=>by simp [chkI]at e
 | n+1,.i .i64 a::l,e=>by
  rw[z17]at e
  obtain ⟨h1,h2⟩:=zde n l e
  rw[YIc]
  refine ⟨?_,by simp [h2]⟩
  simp only[Row.cells,List.flatMap_cons,Zr0,List.cons_append,List.nil_append]
  congr 1
 | n+1,.i .u8 _::_,e|n+1,.i .u16 _::_,e|n+1,.i .u32 _::_,e|n+1,.i .u64 _::_,e|n+1,.i .i8 _::_,e|n+1,.i .i16 _::_,e|n+1,.i .i32 _::_,e=>by simp [chkI]at e
 | n+1,.b _::_,e|n+1,.s _::_,e|n+1,.p _ _::_,e|n+1,.np::_,e|n+1,.sl _ _ _ _ _::_,e|n+1,.se::_,e|n+1,.ns::_,e|n+1,.f _ _ _::_,e|n+1,.nf::_,e|n+1,.ifc _ _::_,e|n+1,.ni::_,e|n+1,.ag _::_,e|n+1,.tu _::_,e|n+1,.top::_,e|n+1,.y _::_,e=>by simp [chkI]at e
theorem z7t (L:List AB) (k n c:Nat) (kk:Option Nat) (e:chkI n (ownC L k)=true) (hn:n<=1000):getS intR (h++L) (.sl (h.length+k) 0 n c kk)=some (valI (ownC L k)):=by
 refine Rd.get ⟨?_,?_⟩
 ·cases hc:ownC L k with
  | none=>rw[hc]at e;cases n <;> simp [chkI]at e
  | some l =>
   rw[hc]at e
   obtain ⟨h1,h2⟩:=zde n l e
   have hb:ZMh (h++L) (h.length+k)=some l:=by rw[QP2,hc]
   have hl:l.length=n:=by rw[h1,Row.cells_len,h2];exact Nat.mul_one n
   simp only[rdS,hb,Option.bind_some,Nat.zero_add,List.drop_zero,show intR.sz=1 from rfl,Nat.mul_one,hl]
   split
   ·rename_i h0
    subst h0
    have:l=[]:=List.eq_nil_of_length_eq_zero hl
    subst this
    simp [valI,XBP]
   ·rw[if_pos (Nat.le_refl _),List.take_of_length_le (by omega),<-h1,h2]
 ·cases hc:ownC L k with
  | none=>simp [valI]
  | some l =>
   rw[hc]at e
   obtain ⟨h1,h2⟩:=zde n l e
   rw[h2]
   unfold maxLen
   omega
theorem Bt.drop {P:Program} {h:List AB} {v a:AV} (L:List AB) (hh:HOk h) (e:v=a) (hok:v.ok (fun i=>decide (i<h.length))=true):Bt P h.length [v] (h++L) [a] h:=by
 subst e
 have:=Bt.sel (P:=P) (h:=h) (l:=L) (l':=[]) (fr:=[v]) (fr':=[v]) [] hh (by simp) trivial ⟨.inr ⟨hok,Wk.ren (fun i hi=>ZiE hi) hok⟩,trivial⟩
 rw[List.append_nil]at this
 exact this
theorem Bt.dropB {P:Program} {h:List AB} {x y:Bool} (L:List AB) (hh:HOk h) (e:x=y):Bt P h.length [.b x] (h++L) [.b y] h:=Bt.drop L hh (by rw[e]) (by simp [AV.ok])
theorem Bt.dropI {P:Program} {h:List AB} {x y:Int} {k:IntKind} (L:List AB) (hh:HOk h) (e:x=y):Bt P h.length [.i k x] (h++L) [.i k y] h:=Bt.drop L hh (by rw[e]) (by simp [AV.ok])
def FinO (P:Program) (p:Nat) (o:Option AV) (h:List AB) (a:AV) (h':List AB):Prop:=∃v,o=some v/\Bt P p [v] h [a] h'
theorem XKk {P:Program} {p:Nat} {v a:AV} {h':List AB}:FinO P p (some v) h a h'=Bt P p [v] h [a] h':=by simp [FinO]
theorem KJk {P:Program} {p n:Nat} {sz:Option Nat} {a:AV} {h':List AB}:(∃v,resV fr h [RC.cell n sz]=some v/\Bt P p [v] h [a] h')=FinO P p (ldV h sz (pl fr n)) h a h':=by
 have e:resV fr h [RC.cell n sz]=ldV h sz (pl fr n):=by
  simp only[resV,qxx,qLi,qaP]
  cases ldV h sz (pl fr n) <;> rfl
 rw[e]
 rfl
theorem Z7q {P:Program} {p n m:Nat} {sz:Option Nat} {a:AV} {h':List AB}:(∃v,resV fr h [RC.cell n sz,RC.t m]=some v/\Bt P p [v] h [a] h')=FinO P p ((ldV h sz (pl fr n)).map fun x=>.tu [x,pl fr m]) h a h':=by
 have e:resV fr h [RC.cell n sz,RC.t m]=(ldV h sz (pl fr n)).map fun x=>.tu [x,pl fr m]:=by
  simp only[resV,qxx,qLi,qaP,Option.bind_some]
  cases ldV h sz (pl fr n) <;> rfl
 rw[e]
 rfl
def appW (H:List AB) (fl:Bool) (sz by_:Nat) (s:AV) (m:Nat) (ys:List AV):Option (AV×List AB):=
 match s with
 | .ns=>if m=0 then some (.ns,H) else if m*by_<=140737488355328/\m<=maxLen then some (.sl H.length 0 m m (some sz),H++[.blk fl true ys]) else none
 | .sl id off len cap k =>
  if m=0 then some (.sl id off len cap k,H)
  else if len+m<=cap then (stB H id (off+len*sz) ys).map fun h'=>(.sl id off (len+m) cap k,h')
  else match H[id]? with
   | some (.blk fl' mu xs) =>
    if fl'=fl/\off+len*sz<=xs.length/\(len+m)*by_<=140737488355328/\len+m<=maxLen then
     if k=none then some (.sl H.length 0 (len+m) (len+m) (some sz),H++[.blk fl true ((xs.drop off).take (len*sz)++ys)])
     else if k=some sz/\sz≠0/\mu=true/\off+len*sz=xs.length then some (.sl H.length 0 (len+m) (len+m) (some sz),H.set id .dead++[.blk fl true (xs.drop off++ys)])
     else if k=some sz/\sz≠0/\mu=true then some (.sl H.length 0 (len+m) (len+m) (some sz),H.set id .dead++[.blk fl true ((xs.drop off).take (len*sz)++ys)])
     else none
    else none
   | _=>none
 | _=>none
theorem zsN (H:List AB) (fl:Bool) (sz by_:Nat) (s x:AV):appV H fl sz by_ s x=(srcV H sz x).bind fun my=>if my.2.all (wrOk fl)=true then appW H fl sz by_ s my.1 my.2 else none:=oI rfl
def flB (fl:Bool):List AB->Nat->Prop
 | [],_=>False
 | B::_,0=>∃m xs,B=.blk fl m xs
 | _::L,k+1=>flB fl L k
theorem Jv5 (fl m:Bool) (xs:List AV) (L:List AB):flB fl (.blk fl m xs::L) 0=True:=eq_true ⟨m,xs,rfl⟩
theorem ZOB (fl:Bool) (B:AB) (L:List AB) (k:Nat):flB fl (B::L) (k+1)=flB fl L k:=oI rfl
theorem Ktg (fl:Bool):∀(L:List AB) (k:Nat),flB fl L k->∃m xs,L[k]?=some (.blk fl m xs)
 | [],_,e=>e.elim
 | B::_,0,⟨m,xs,e⟩=>⟨m,xs,by rw[e];rfl⟩
 | _::L,k+1,e=>by simpa using Ktg fl L k e
theorem Y4a (L:List AB) (k:Nat) (fl:Bool) (sz by_ m:Nat) (ys:List AV) (hb:flB fl L k):appW (h++L) fl sz by_ (.sl (h.length+k) 0 0 0 none) m ys=if m=0 then some (.sl (h.length+k) 0 0 0 none,h++L) else if m*by_<=140737488355328/\m<=maxLen then some (.sl (h.length+L.length) 0 m m (some sz),h++(L++[.blk fl true ys])) else none:=by
 obtain ⟨mu,xs,hx⟩:=Ktg fl L k hb
 unfold appW
 dsimp only
 split
 ·rfl
 ·rename_i hm
  rw[if_neg (by omega),qu4,hx]
  simp only[true_and,Nat.zero_add,Nat.zero_mul,Nat.zero_le,List.take_zero,List.nil_append,if_true,List.length_append,List.append_assoc]
theorem ZP2 (L:List AB) (fl:Bool) (sz by_ m:Nat) (ys:List AV):appW (h++L) fl sz by_ .ns m ys=if m=0 then some (.ns,h++L) else if m*by_<=140737488355328/\m<=maxLen then some (.sl (h.length+L.length) 0 m m (some sz),h++(L++[.blk fl true ys])) else none:=by
 unfold appW
 simp only[List.length_append,List.append_assoc]
theorem YB5 (l:List Int):(intR.cells l).all (wrOk true)=true:=by
 induction l with
 | nil=>rfl
 | cons a l ih =>
  simp only[Row.cells,List.flatMap_cons,List.all_append]at ih ⊢
  rw[ih]
  rfl
theorem qU5 (l:List (Int×Int)):(dotR.cells l).all (wrOk true)=true:=by
 induction l with
 | nil=>rfl
 | cons a l ih =>
  simp only[Row.cells,List.flatMap_cons,List.all_append]at ih ⊢
  rw[ih]
  rfl
def apS (r:Row α) (id:Nat) (l:List α):AV:=if l.length=0 then .ns else .sl id 0 l.length l.length (some r.sz)
theorem XId (id:Nat) (l:List α):Wk (rsl r id l) (apS r id l):=by
 unfold rsl apS
 split
 ·exact Wk.nil _ _
 ·exact Wk.refl _
theorem Yv9 (q:Nat->Bool) (id:Nat) (l:List α) (hq:q id=true):(apS r id l).ok q=true:=by unfold apS;split <;> simp [AV.ok,hq]
theorem Z2B (f:Nat->Nat) (id:Nat) (l:List α):(apS r id l).ren f=apS r (f id) l:=by unfold apS;split <;> simp [AV.ren]
theorem Kjc (id:Nat) (l:List α):(apS r id l).isSl=true:=by unfold apS;split <;> rfl
theorem Yuq (id:Nat) (l:List α):lenV (apS r id l)=some (l.length:Int):=by
 unfold apS
 split
 ·rename_i e;rw[e];rfl
 ·rfl
theorem q8J (id:Nat):apS r id []=.ns:=oI rfl
theorem YM0 (id:Nat) {l:List α} (h0:l.length≠0):apS r id l=rsl r id l:=by
 unfold apS rsl
 rw[if_neg h0,if_neg h0]
theorem zWC (id:Nat) (l:List α):(apS r id l).isStr=false:=q5E (Kjc id l)
theorem X71 (id:Nat) (l:List α):(apS r id l).one=true:=Xm6 (Kjc id l)
theorem XSQ (id:Nat) (l:List α):(apS r id l).known=true:=Z4Z (Kjc id l)
theorem QJX (id:Nat) (l:List α):(apS r id l).cells=[apS r id l]:=Zl7 (Kjc id l)
theorem ZTK (id:Nat) (l:List α) (x:α):apS r id (l++[x])=.sl id 0 (l.length+1) (l.length+1) (some r.sz):=by
 unfold apS
 rw[if_neg (by simp),List.length_append]
 rfl
theorem YEl (m:Bool) (l:List α) (x:α):resB r m (l++[x])=.blk true m (r.cells l++r.f x):=by
 unfold resB
 rw[if_neg (by simp)]
 simp [Row.cells]
theorem Ke7 (d:Int×Int):(d.1,d.2)=d:=oI rfl
theorem ZNQ (id:Nat) (x:α):apS r id [x]=.sl id 0 1 1 (some r.sz):=oI rfl
theorem QE7 (m:Bool) (x:α):resB r m [x]=.blk true m (r.f x):=by
 unfold resB
 rw[if_neg (by simp)]
 simp [Row.cells]
theorem Q7A {id:Nat} {l l':List α} {m m':Bool} (h1:apS r id l=apS r id l') (h2:resB r m l=resB r m' l'):l=l':=by
 have hl:l.length=l'.length:=by
  have:=congrArg lenV h1
  have g:∀l:List α,lenV (apS r id l)=some (l.length:Int):=fun l=>by
   unfold apS
   split
   ·rename_i e;rw[e];rfl
   ·rfl
  rw[g,g]at this
  exact Int.ofNat_inj.1 (Option.some.inj this)
 by_cases h0:l.length=0
 ·have a1:l=[]:=List.length_eq_zero_iff.1 h0
  have a2:l'=[]:=List.length_eq_zero_iff.1 (by omega)
  rw[a1,a2]
 ·rw[QTh m h0,QTh m' (hl▸h0)]at h2
  simp only[AB.blk.injEq,true_and]at h2
  exact r.cells_inj l l' hl h2.2
def q3W:List AB->Nat->List AB
 | [],_=>[]
 | _::L,0=>.dead::L
 | B::L,k+1=>B::q3W L k
theorem Zsh:∀(L:List AB) (k:Nat),q3W L k=L.set k .dead
 | [],k=>by simp [q3W]
 | _::L,0=>rfl
 | B::L,k+1=>by simp [q3W,Zsh L k]
theorem ZkX (B:AB) (L:List AB):q3W (B::L) 0=.dead::L:=oI rfl
theorem zWj (B:AB) (L:List AB) (k:Nat):q3W (B::L) (k+1)=B::q3W L k:=oI rfl
def ownM (r:Row α) (l:List α):List AB->Nat->Prop
 | [],_=>False
 | B::_,0=>B=resB r true l
 | _::L,k+1=>ownM r l L k
theorem JQI (l:List α) (L:List AB):ownM r l (resB r true l::L) 0=True:=eq_true rfl
theorem KwN (l:List α) (B:AB) (L:List AB) (k:Nat):ownM r l (B::L) (k+1)=ownM r l L k:=oI rfl
theorem KAQ (l:List α):∀(L:List AB) (k:Nat),ownM r l L k->L[k]?=some (resB r true l)
 | [],_,e=>e.elim
 | B::_,0,e=>by rw[show B=resB r true l from e];rfl
 | _::L,k+1,e=>by simpa using KAQ l L k e
theorem YEF {sz:Nat} (hz:r.sz=sz) (L:List AB) (k:Nat) (l:List α) (by_ m:Nat) (ys:List AV) (hb:ownM r l L k) (hm:m≠0) (h1:(l.length+m)*by_<=140737488355328) (h2:l.length+m<=maxLen) :
  appW (h++L) true sz by_ (apS r (h.length+k) l) m ys=some (.sl (h.length+L.length) 0 (l.length+m) (l.length+m) (some sz),h++(q3W L k++[.blk true true (r.cells l++ys)])):=by
 subst hz
 have hx:=KAQ l L k hb
 have hk:k<L.length:=(List.getElem?_eq_some_iff.1 hx).1
 unfold apS
 by_cases h0:l.length=0
 ·rw[if_pos h0]
  have:l=[]:=List.eq_nil_of_length_eq_zero h0
  subst this
  simp only[List.length_nil,Nat.zero_add]at h1 h2
  rw[ZP2,if_neg hm,if_pos ⟨h1,h2⟩]
  rw[KZ6 true rfl]at hx
  have hs:L.set k .dead=L:=List.ext_getElem? fun i=>by
   rw[List.getElem?_set]
   by_cases e:k=i
   ·subst e
    rw[if_pos rfl,if_pos hk,hx]
   ·rw[if_neg e]
  simp only[List.length_nil,Nat.zero_add,XBP,List.nil_append,Zsh,hs]
 ·rw[if_neg h0]
  rw[QTh true h0]at hx
  unfold appW
  dsimp only
  rw[if_neg hm,if_neg (by omega),qu4,hx]
  simp only[true_and,Nat.zero_add,r.cells_len,Nat.le_refl,h1,h2,if_true,reduceCtorEq,if_false,List.drop_zero,List.length_append]
  rw[if_pos (by have:=r.pos;exact ⟨by omega,trivial⟩),Zsh,List.set_append_right _ _ (by omega),Nat.add_sub_cancel_left,List.append_assoc]
end
end
section
open Go.RowKit
def mksV (h:List AB) (fl:Bool) (z:List AV) (by_:Nat) (le ca:AV):Option (AV×List AB):=
 match le,ca with
 | .i _ l,.i _ c=>if 0<=l/\l<=c/\(by_:Int)*c<=2 ^ 47/\c<=maxLen then newB h fl ((List.replicate c.toNat z).flatten) (fun n=>.sl n 0 l.toNat c.toNat none) else none
 | _,_=>none
theorem YyZ {h:List AB} (L:List AB) (k off n cap sz:Nat) (kk:Option Nat):srcV (h++L) sz (.sl (h.length+k) off n cap kk)=if n=0 then some (0,[]) else (ownC L k).bind fun xs=>if off+n*sz<=xs.length then some (n,(xs.drop off).take (n*sz)) else none:=by
 simp only[srcV,QP2]
theorem Yie {h:List AB} (L:List AB) (k:Nat) (B:AB):(h++L).set (h.length+k) B=h++L.set k B:=by
 rw[List.set_append_right _ _ (by omega),Nat.add_sub_cancel_left]
theorem Qmk {α:Type} (a b:α) (l:List α):(a::l).set 0 b=b::l:=oI rfl
theorem Y65 {α:Type} (a b:α) (l:List α) (n:Nat):(a::l).set (n+1) b=a::l.set n b:=oI rfl
theorem QOD {h:List AB} {i:Nat} {xs:List AV} (e:ZMh h i=some xs) (L:List AB):ZMh (h++L) i=some xs:=by
 unfold ZMh at e ⊢
 split at e
 ·rename_i h2
  rw[List.getElem?_append_left (List.getElem?_eq_some_iff.1 h2).1,h2]
  exact e
 ·cases e
theorem Kvu {h:List AB} {i:Nat} {xs:List AV} (e:ZMh h i=some xs):i<h.length:=by
 unfold ZMh at e
 split at e
 ·rename_i h2
  exact (List.getElem?_eq_some_iff.1 h2).1
 ·cases e
theorem qbm {h:List AB} {i:Nat} {xs:List AV} (e:ZMh h i=some xs):(∀L,ZMh (h++L) i=some xs)/\(∀L o,ldV (h++L) none (.p i o)=xs[o]?)/\(∀L o n,ldV (h++L) (some n) (.p i o)=if o+n<=xs.length then some (.ag ((xs.drop o).take n)) else none)/\(∀c lo hi anc past,qOk (h.length+c) lo hi anc past i=true)/\(∀c,(i<h.length+c)=True)/\(i<h.length)=True:=by
 have hl:=Kvu e
 refine ⟨QOD e,fun L o=>?_,fun L o n=>?_,fun c lo hi anc past=>YO3 (by omega),fun c=>eq_true (by omega),eq_true hl⟩
 ·simp only[ldV,QOD e,Option.bind_some]
 ·simp only[ldV,QOD e,Option.bind_some]
theorem KD1 {α:Type} (r:Row α) (h:List AB):Rd r h .ns []:=⟨rfl,Nat.zero_le _⟩
theorem Yor {α:Type} (r:Row α) (h:List AB):getS r h .ns=some []:=(KD1 r h).get
theorem XCX (sz id off n c:Nat) (k:Option Nat) (kk:IntKind) (m:Int):iadV sz (.sl id off n c k) (.i kk m)=if 0<=m/\m<(n:Int) then some (.p id (off+m.toNat*sz)) else none:=oI rfl
theorem qBu {T:Env} {fr:List AV} {h:List AB} (fl:Bool) (z:List AV) (by_:Nat) (le ca:Opd):opR T (.mks fl z by_ le ca) fr h=mksV h fl z by_ (le.ev fr) (ca.ev fr):=by
 show (match le.ev fr,ca.ev fr with
  | .i _ l,.i _ c=>if 0<=l/\l<=c/\(by_:Int)*c<=2 ^ 47/\c<=maxLen then newB h fl ((List.replicate c.toNat z).flatten) (fun n=>.sl n 0 l.toNat c.toNat none) else none
  | _,_=>none)=_
 rfl
theorem zzr (h:List AB) (fl:Bool) (z:List AV) (by_:Nat) (k k':IntKind) (l c:Int):mksV h fl z by_ (.i k l) (.i k' c)=if 0<=l/\l<=c/\(by_:Int)*c<=2 ^ 47/\c<=maxLen then newB h fl ((List.replicate c.toNat z).flatten) (fun n=>.sl n 0 l.toNat c.toNat none) else none:=oI rfl
theorem XvR {α:Type} (r:Row α) (n:Nat) (x:α):(List.replicate n (r.f x)).flatten=r.cells (List.replicate n x):=by
 induction n with
 | zero=>rfl
 | succ n ih=>simp [List.replicate_succ,Row.cells,ih]
def bxS (h:List AB) (i:Nat):Option AV:=
 match h[i]? with
 | some (.blk false _ [v])=>some v
 | _=>none
theorem Q97 {h:List AB} {i:Nat} {v:AV} (e:bxS h i=some v):∃m,h[i]?=some (.blk false m [v]):=by
 unfold bxS at e
 split at e
 ·rename_i m w hb
  cases e
  exact ⟨m,hb⟩
 ·cases e
theorem Xeg {h:List AB} {i:Nat} {v:AV} (e:bxS h i=some v):ZMh h i=some [v]:=by
 obtain ⟨m,hb⟩:=Q97 e
 unfold ZMh
 rw[hb]
theorem YeK {h:List AB} {i:Nat} {v:AV} (e:bxS h i=some v) (hh:HOk h):v.ok (fun i=>decide (i<h.length))=true:=by
 obtain ⟨m,hb⟩:=Q97 e
 have:=hh i _ hb
 simpa [AB.ok,okL] using this
theorem Y6Y {h:List AB} {i:Nat}:bxS (h.map AB.freeze) i=bxS h i:=by
 unfold bxS
 rw[List.getElem?_map]
 cases hx:h[i]? with
 | none=>rfl
 | some B =>
  cases B with
  | blk fl m xs=>cases fl <;> (cases xs with|nil=>rfl|cons a l=>cases l <;> rfl)
  | _=>rfl
def bxL:List AB->Nat->Option AV
 | [],_=>none
 | .blk false _ [v]::_,0=>some v
 | _::_,0=>none
 | _::L,k+1=>bxL L k
theorem z8s:∀(L:List AB) (k:Nat),bxS L k=bxL L k
 | [],k=>by simp [bxS,bxL]
 | B::L,0=>by
  cases B with
  | blk fl m xs=>cases fl <;> (cases xs with|nil=>simp [bxS,bxL] | cons a l=>cases l <;> simp [bxS,bxL])
  | _=>simp [bxS,bxL]
 | B::L,k+1=>by
  have:=z8s L k
  have e:bxL (B::L) (k+1)=bxL L k:=by
   cases B with
   | blk fl m xs=>cases fl <;> (cases xs with|nil=>rfl|cons a l=>cases l <;> rfl)
   | _=>rfl
  rw[e,<-this]
  unfold bxS
  rw[List.getElem?_cons_succ]
theorem ZnG {h:List AB} (L:List AB) (k:Nat):bxS (h++L) (h.length+k)=bxL L k:=by
 rw[<-z8s]
 unfold bxS
 rw[qu4]
theorem XDb (m:Bool) (v:AV) (L:List AB):bxL (.blk false m [v]::L) 0=some v:=oI rfl
theorem q8w (B:AB) (L:List AB) (k:Nat):bxL (B::L) (k+1)=bxL L k:=by
 cases B with
 | blk fl m xs=>cases fl <;> (cases xs with|nil=>rfl|cons a l=>cases l <;> rfl)
 | _=>rfl
theorem Xrp (q:Nat->Bool) (st:LoopState) (pd:XE) (fr:List AV) (ps:List Nat) (a b:CC):(AB.lp st pd fr ps a b).ok q=okL q fr:=oI rfl
section
variable {c:Ctx} {k:List IT} {fr:List AV} {h:List AB}
theorem W_rf {n:Nat} {q:Opd} {ps:List Nat} {a b:CC} {g:Nat} {fst cap:List AV} {v:AV} {h1 h2:List AB} {st:LoopState} {fr1:List AV} {ps1:List Nat} {a1 b1:CC} (hr:c.rb=false) (hn:h.length=n) (hq:q.ev fr=.f (.func g) fst cap) (hh:h++[AB.lp .ready .n fr ps a b]=h1)
  (hf:FnAt c.P g (fst++[AV.y n]++cap) h1 v h2) (hl:h2[n]?=some (.lp st .n fr1 ps1 a1 b1)) (hst:st≠.busy) (hw:W c k fr (h2.set n .dead)):W c (.code (.rf q ps a b)::k) fr h:=by
 subst hn
 subst hh
 simp only[W,Lv_n,IT.wp,wpC]
 exact ⟨hr,g,fst,cap,_,hq,hf.toS,fun v' h2' ⟨_,e⟩=>by subst e;exact ⟨st,.n,fr1,ps1,a1,b1,hl,hst,hw⟩⟩
theorem qGR {n:Nat} {q:Opd} {ps:List Nat} {a b:CC} {g:Nat} {fst cap:List AV} {h1:List AB} {X:AV->List AB->Prop} (hr:c.rb=false) (hn:h.length=n) (hq:q.ev fr=.f (.func g) fst cap) (hh:h++[AB.lp .ready .n fr ps a b]=h1)
  (hf:FnAtS c.P g (fst++[AV.y n]++cap) h1 X) (hX:∀v h2,X v h2->∃st fr1 ps1 a1 b1,h2[n]?=some (.lp st .n fr1 ps1 a1 b1)/\st≠.busy/\W c k fr (h2.set n .dead)):W c (.code (.rf q ps a b)::k) fr h:=by
 subst hn
 subst hh
 simp only[W,Lv_n,IT.wp,wpC]
 refine ⟨hr,g,fst,cap,X,hq,hf,fun v h2 e=>?_⟩
 obtain ⟨st,fr1,ps1,a1,b1,hl,hst,hw⟩:=hX v h2 e
 exact ⟨st,.n,fr1,ps1,a1,b1,hl,hst,hw⟩
theorem RdAt'.run {P:Program} (hm:P.follows .mixedOrders=true) {T:Env} (hT:T.Ok P) {id:Nat} {args:List AV} {H:List AB} {st:LoopState} {pd:XE} {fr0:List AV} {ps:List Nat} {asg bd:CC} {a:AV} {H':List AB} (hlp:H[id]?=some (.lp st pd fr0 ps asg bd)) (hl:ps.length=args.length)
  (w:W ⟨P,T,true,H.length,fun x fr h1=>x=.n/\∃pd1 fr01 ps1 a1 b1,h1[id]?=some (.lp .ready pd1 fr01 ps1 a1 b1) /\
   W ⟨P,T,true,H.length,fun x _ h2=>∃st2 pd2 fr02 ps2 a2 b2,h2[id]?=some (.lp st2 pd2 fr02 ps2 a2 b2)/\(qZF id x fr02 ps2 a2 b2 h2).1=a/\(qZF id x fr02 ps2 a2 b2 h2).2=H'⟩ [.code bd] fr (h1.set id (.lp .busy pd1 fr01 ps1 a1 b1))⟩ [.code asg] (ZuR ps args fr0) H):RdAt' P id args H a H':=by
 have conv:∀ {K:XE->List AV->List AB->Prop} {cd:CC} {fr:List AV} {h:List AB},W ⟨P,T,true,H.length,K⟩ [.code cd] fr h->wpC P (smT T) true H.length cd K fr h:=fun {K cd fr h} e=>by
  exact e
 exact RdAt'.of (YZU hm hT) hlp hl (ZQO (fun hk e=>ZJa _ hk e) _ (fun x fr h1 ⟨e,pd1,fr01,ps1,a1,b1,h2,h3⟩=>⟨e,pd1,fr01,ps1,a1,b1,h2,conv h3⟩) (conv w))
end
def JFV:List Pt->List Pt
 | []=>[]
 | p::l=>⟨p.k,p.lo,p.hi,[],[]⟩::JFV l
theorem YRc:JFV []=[]:=oI rfl
theorem XKY (k lo hi:Nat) (rs ws:List Nat) (l:List Pt):JFV (⟨k,lo,hi,rs,ws⟩::l)=⟨k,lo,hi,[],[]⟩::JFV l:=oI rfl
theorem Zax (len0 lo hi anc:Nat) (past:List Pt) (id:Nat):qOk len0 lo hi anc (JFV past) id=qOk len0 lo hi anc past id:=by
 unfold qOk
 congr 1
 induction past with
 | nil=>rfl
 | cons p l ih=>simp only[JFV,List.any_cons,ih]
theorem XvO (len0 anc n:Nat) (past:List Pt):seen len0 anc (JFV past) n=seen len0 anc past n:=by
 unfold seen
 congr 1
 funext id
 exact Zax len0 0 0 anc past id
theorem Zbm {c : Ctx} {k : List IT} {fr : List AV} {h : List AB} {len0 n anc : Nat} {past : List Pt} {d : Option Nat} {l : List DOp} (ws : List Nat) (vs : List AV) (v : AV) (G : List AB) : W c (.dmk ws vs (some (v, G)) len0 n anc past d l :: k) fr h = (okL (fun i => decide (i < h.length)) vs = true ∧ HOk h ∧ past.all (z5d len0 anc past ws) = true ∧ (ws.all fun id => decide (id < h.length)) = true ∧ h.length ≤ G.length ∧ v.ok (qOk len0 h.length G.length anc past) = true ∧
      (ws.all fun id=>(G.getD id .dead).ok (qOk len0 h.length G.length anc past))=true/\((G.drop h.length).all fun B=>B.ok (qOk len0 h.length G.length anc past))=true /\
      W c (.drw len0 (n+1) (⟨n,h.length,G.length,seen len0 anc (JFV past) h.length,ws⟩::past) l::k) (put fr d v) (ZWL ws G 0 h)):=by
  rw[XvO]
  exact JOi ws vs v G
end
section
open Go.RowKit
section
variable {T:Env} {fr:List AV} {h:List AB} {p:Nat}
theorem YBY (hp:h.length=p) (l:List AB) (k o:Nat):ldV (h++l) none (.p (p+k) o)=(ownC l k).bind fun xs=>xs[o]?:=by subst hp;exact JdV l k o
theorem qsv (hp:h.length=p) (l:List AB) (k o n:Nat):ldV (h++l) (some n) (.p (p+k) o)=(ownC l k).bind fun xs=>if o+n<=xs.length then some (.ag ((xs.drop o).take n)) else none:=by subst hp;exact J5O l k o n
theorem ZJ9 (hp:h.length=p) (l:List AB) (k o:Nat) (v:AV):stV (h++l) none (.p (p+k) o) v=if v.one=true then (ownW l k o [v]).map (h ++ ·) else none:=by subst hp;exact JOK l k o v
theorem JXo (hp:h.length=p) (l:List AB) (k o n:Nat) (vs:List AV):stV (h++l) (some n) (.p (p+k) o) (.ag vs)=if vs.length=n then (ownW l k o vs).map (h ++ ·) else none:=by subst hp;exact J4H l k o n vs
theorem qLl (hp:h.length=p) (L:List AB) (k off n cap sz:Nat) (kk:Option Nat):srcV (h++L) sz (.sl (p+k) off n cap kk)=if n=0 then some (0,[]) else (ownC L k).bind fun xs=>if off+n*sz<=xs.length then some (n,(xs.drop off).take (n*sz)) else none:=by subst hp;exact YyZ L k off n cap sz kk
theorem Xan {α:Type} {r:Row α} (hp:h.length=p) {sz:Nat} (hz:r.sz=sz) (L:List AB) (k:Nat) (l:List α) (by_ m:Nat) (ys:List AV) (hb:ownM r l L k) (hm:m≠0) (h1:(l.length+m)*by_<=140737488355328) (h2:l.length+m<=maxLen) :
  appW (h++L) true sz by_ (apS r (p+k) l) m ys=some (.sl (p+L.length) 0 (l.length+m) (l.length+m) (some sz),h++(q3W L k++[.blk true true (r.cells l++ys)])):=by subst hp;exact YEF hz L k l by_ m ys hb hm h1 h2
theorem q9y {α:Type} {r:Row α} (hp:h.length=p) {sz:Nat} (hz:r.sz=sz) (L:List AB) (k:Nat) (l:List α) (by_ m:Nat) (ys:List AV) (h0:l.length≠0) (hb:ownM r l L k) (hm:m≠0) (h1:(l.length+m)*by_<=140737488355328) (h2:l.length+m<=maxLen) :
  appW (h++L) true sz by_ (rsl r (p+k) l) m ys=some (.sl (p+L.length) 0 (l.length+m) (l.length+m) (some sz),h++(q3W L k++[.blk true true (r.cells l++ys)])):=by rw[<-YM0 _ h0];exact Xan hp hz L k l by_ m ys hb hm h1 h2
theorem zCZ {α:Type} {r:Row α} (hp:h.length=p) (L:List AB) (k:Nat) (l:List α) (e:ownR r l L k) (hl:l.length<=maxLen):getS r (h++L) (rsl r (p+k) l)=some l:=by subst hp;exact YJi L k l e hl
theorem XAP (hp:h.length=p) (l:List AB):(h++l).length=p+l.length:=by rw[<-hp];exact List.length_append
theorem JFz:(h.map AB.freeze).length=h.length:=List.length_map _
theorem JYq (hp:h.length=p) (l:List AB) (n:Nat):(h++l).drop (p+n)=l.drop n:=by subst hp;exact YFs l n
theorem q21 (hp:h.length=p) (l:List AB) (n:Nat):(h++l).getD (p+n) .dead=l.getD n .dead:=by subst hp;exact Znw l n
theorem X1A (hp:h.length=p) (c anc n:Nat) (past:List Pt) (ws:List Nat) (l:List AB) (hn:n=p+l.length) (hw:(ws.all fun id=>decide (p<=id))=true):XWo (seen (p+c) anc past n) ws 0 (h++l)=h.map AB.freeze++mskL p c anc past ws 0 l:=by
 subst hp
 have h1:∀j,j<h.length->j∉ws:=fun j hj hm=>by
  have:=List.all_eq_true.1 hw j hm
  simp only[decide_eq_true_eq]at this
  omega
 refine List.ext_getElem? fun i=>?_
 rw[Qbl,Nat.zero_add]
 by_cases hi:i<h.length
 ·rw[List.getElem?_append_left hi,List.getElem?_append_left (by rw[List.length_map];exact hi),List.getElem?_map,List.getElem?_eq_getElem hi,Option.map_some,Option.map_some,if_neg (h1 i hi),if_pos]
  exact List.mem_filter.2 ⟨List.mem_range.2 (by omega),YO3 (by omega)⟩
 ·rw[List.getElem?_append_right (by omega),List.getElem?_append_right (by rw[List.length_map];omega),List.length_map,Q69]
  cases hB:l[i-h.length]? with
  | none=>rfl
  | some B =>
   have hlt:=(List.getElem?_eq_some_iff.1 hB).1
   simp only[Option.map_some,Option.some.injEq,show h.length+(0+(i-h.length))=i by omega]
   by_cases hm:i∈ws
   ·rw[if_pos hm,if_pos (Zsq.2 hm)]
   ·rw[if_neg hm,if_neg (fun q=>hm (Zsq.1 q))]
    by_cases hq:qOk (h.length+c) 0 0 anc past i=true
    ·rw[if_pos hq,if_pos]
     exact List.mem_filter.2 ⟨List.mem_range.2 (by omega),hq⟩
    ·rw[if_neg hq,if_neg]
     exact fun q=>hq (List.mem_filter.1 q).2
theorem X01 (ws:List Nat) (G l:List AB) (hw:(ws.all fun id=>decide (h.length<=id))=true):ZWL ws (h.map AB.freeze++G) 0 (h++l)=h++mrgL h.length ws 0 G l:=by
 have h1:∀j,j<h.length->j∉ws:=fun j hj hm=>by
  have:=List.all_eq_true.1 hw j hm
  simp only[decide_eq_true_eq]at this
  omega
 refine List.ext_getElem? fun i=>?_
 rw[JEo,Nat.zero_add]
 by_cases hi:i<h.length
 ·rw[if_pos (by rw[List.length_append];omega),if_neg (h1 i hi),List.getElem?_append_left hi,List.getElem?_append_left hi]
 ·have g1:(h.map AB.freeze++G)[i]?=G[i-h.length]?:=by rw[List.getElem?_append_right (by rw[List.length_map];omega),List.length_map]
  rw[g1,List.getElem?_append_right (by omega),List.getElem?_append_right (by omega),qEn,List.length_append,show h.length+(0+(i-h.length))=i by omega]
  by_cases hl:i-h.length<l.length
  ·rw[if_pos hl,if_pos (by omega)]
  ·rw[if_neg hl,if_neg (by omega)]
end
end
section
open Go.RowKit
section
variable {P:Program} {α:Type} {r:Row α}
theorem Bt.less {p:Nat} {fr:List AV} {h:List AB} {i:Nat} {B B':AB} (hi:h[i]?=some B) (hbr:∀ρ w b o n,BR (KC P) ρ w b o n B->BR (KC P) ρ w b o n B') (hm:B'.mut=true->B.mut=true) (hl:B'.live=true->B.live=true):Bt P p fr h fr (h.set i B'):=by
 intro ρ w cs hp rr v
 have hlt:=(List.getElem?_eq_some_iff.1 hi).1
 have cls:∀(j:Nat) C,(h.set i B')[j]?=some C->∃C0,h[j]?=some C0/\(C.mut=true->C0.mut=true)/\(C.live=true->C0.live=true)/\∀ρ w b o n,BR (KC P) ρ w b o n C0->BR (KC P) ρ w b o n C:=fun j C hC=>by
  rw[List.getElem?_set]at hC
  split at hC
  ·rename_i hij
   subst hij
   cases hC
   exact ⟨B,hi,hm,hl,hbr⟩
  ·exact ⟨C,hC,fun z=>z,fun z=>z,fun _ _ _ _ _ z=>z⟩
 refine ⟨by rw[List.length_set];exact hp,ρ,v,⟨by rw[List.length_set];exact rr.len,fun j C b o n h1 h2=>?_,fun j k bj oj bk ok Bj Bk hne h1 h2 h3 h4 g1 g2=>?_,rr.gl.sub fun b ⟨j,C,o,h1,h2,h3⟩=>by
  obtain ⟨C0,q1,q2,_,_⟩:=cls j C h1
  exact ⟨j,C0,o,q1,q2 h2,h3⟩⟩,fun b ⟨j,C,o,h1,h2,h3⟩=>?_,fun j b ⟨C,o,h1,h2,h3⟩=>?_,fun _ _=>rfl⟩
 ·obtain ⟨C0,q1,_,_,q4⟩:=cls j C h1
  exact q4 _ _ _ _ _ (rr.blk j C0 b o n q1 h2)
 ·obtain ⟨C0,q1,q2,_,_⟩:=cls j Bj h1
  obtain ⟨C1,z1,_,z3,_⟩:=cls k Bk h2
  exact rr.sep j k bj oj bk ok C0 C1 hne q1 z1 h3 h4 (q2 g1) (z3 g2)
 ·obtain ⟨C0,q1,q2,_,_⟩:=cls j C h1
  exact ⟨j,C0,o,q1,q2 h2,h3⟩
 ·obtain ⟨C0,q1,_,q3,_⟩:=cls j C h1
  exact ⟨j,⟨C0,o,q1,q3 h2,h3⟩,fun _=>rfl,fun z=>z⟩
def cutS (s:AV) (n:Nat):AV:=
 match s with
 | .sl id off _ cap k=>.sl id off n cap k
 | s=>s
theorem KTd (id:Nat) {l:List α} {n:Nat} (hn:n<=l.length):Wk (rsl r id (l.take n)) (cutS (rsl r id l) n):=by
 have hl:(l.take n).length=n:=by rw[List.length_take];omega
 by_cases h0:n=0
 ·subst h0
  unfold rsl
  rw[if_pos hl]
  split <;> exact Wk.empty _ _ _ _ _ _
 ·unfold rsl
  rw[hl,if_neg h0,if_neg (by omega)]
  intro ρ c hv
  simp only[cutS]at hv
  generalize hk:(some r.sz:Option Nat)=k at hv ⊢
  generalize l.length=m at hv hn
  cases hv with
  | sl _ _ _ _ _ b o nn cap' g1 g2 g3 g4 g5 g6=>exact .sl id 0 n n k b o nn cap' g1 (Nat.le_refl _) (by omega) g4 (fun q=>by rw[q]at hk;cases hk) g6
  | sz=>exact absurd rfl h0
end
end
section
set_option maxRecDepth 100000
section
variable {T:Env} {fr:List AV} {h:List AB}
def itr (l:List UInt8) (pos:Nat):AB:=.iter ⟨l.toArray⟩ pos
theorem z79 (x:Opd):opR T (.rng x) fr h=(match x.ev fr with
  | .s l=>some (.p h.length 0,h++[itr l 0])
  | _=>none):=oI rfl
noncomputable def nxV (h:List AB) (v:AV):Option (AV×List AB):=match v with
 | .p id 0=>match h[id]? with
  | some (.iter s pos)=>if pos<s.size then some (.tu [.b true,.i .i64 (pos:Int),.i .i32 ((Utf8.decode s pos).1:Int)],h.set id (.iter s (pos+(Utf8.decode s pos).2))) else some (.tu [.b false],h)
  | _=>none
 | _=>none
theorem X6H (x:Opd):opR T (.nxt x) fr h=nxV h (x.ev fr):=by
 show nxV h (x.ev fr)=_
 rfl
theorem J23 (L:List AB) (k:Nat) (l:List UInt8) (pos:Nat) (hb:L[k]?=some (itr l pos)):nxV (h++L) (.p (h.length+k) 0)=if pos<l.length then some (.tu [.b true,.i .i64 (pos:Int),.i .i32 ((Utf8.decode ⟨l.toArray⟩ pos).1:Int)],h++L.set k (itr l (pos+(Utf8.decode ⟨l.toArray⟩ pos).2))) else some (.tu [.b false],h++L):=by
 have hg:(h++L)[h.length+k]?=some (.iter ⟨l.toArray⟩ pos):=by
  rw[List.getElem?_append_right (by omega),Nat.add_sub_cancel_left]
  exact hb
 have hs:(⟨l.toArray⟩:ByteArray).size=l.length:=by simp [ByteArray.size]
 simp only[nxV,hg,hs]
 rw[List.set_append_right _ _ (by omega),Nat.add_sub_cancel_left]
 rfl
def bixV (l:List UInt8) (n:Int):Int:=match (List.range l.length).find? fun i=>(⟨l.toArray⟩:ByteArray)[i]! == UInt8.ofNat n.toNat with
 | some i=>(i:Int)
 | none=>-1
theorem QVl (x y:Opd):opR T (.bix x y) fr h=(match x.ev fr,y.ev fr with
  | .s l,.i .u8 n=>some (.i .i64 (bixV l n),h)
  | _,_=>none):=oI rfl
end
theorem ZmB {l:List UInt8} {pos:Nat} (h:pos<l.length) (ha:(l[pos]).toNat<128):Utf8.decode ⟨l.toArray⟩ pos=((l[pos]).toNat,1):=by
 have hs:pos<(⟨l.toArray⟩:ByteArray).size:=by simpa [ByteArray.size] using h
 exact decode_ascii ⟨l.toArray⟩ pos hs ha
def ixsV (x i:AV):Option AV:=match x,i with
 | .s l,.i _ n=>if 0<=n then (l[n.toNat]?).map fun b:UInt8=>.i .u8 (b.toNat:Int) else none
 | _,_=>none
theorem zFg {T:Env} {fr:List AV} {h:List AB} (x i:Opd):opR T (.ixs x i) fr h=(ixsV (x.ev fr) (i.ev fr)).map (·,h):=by
 show (match x.ev fr,i.ev fr with
  | .s l,.i _ n=>if 0<=n then (l[n.toNat]?).map fun b:UInt8=>(AV.i .u8 (b.toNat:Int),h) else none
  | _,_=>none)=_
 unfold ixsV
 split
 ·split
  ·rw[Option.map_map];rfl
  ·rfl
 ·rfl
theorem QDA {l:List UInt8} {n:Nat} (k:IntKind) (h:n<l.length):ixsV (.s l) (.i k (n:Int))=some (.i .u8 ((l.getD n 0).toNat:Int)):=by
 unfold ixsV
 dsimp only
 rw[if_pos (by omega),Int.toNat_natCast,List.getElem?_eq_getElem h,List.getD_eq_getElem?_getD,List.getElem?_eq_getElem h]
 rfl
theorem XEc {l:List UInt8} {n:Nat} (k:IntKind) (h:n<=l.length):slS l none (some (.i k (n:Int)))=some (.s (l.take n)):=by
 simp only[slS,bnd]
 rw[if_pos (by omega)]
 simp
theorem Z2c {T:Env} {fr:List AV} {h:List AB} (x:Opd) (lo hi:Option Opd):opR T (.sls x lo hi) fr h=(match x.ev fr with
  | .s l=>(slS l (lo.map (Opd.ev fr)) (hi.map (Opd.ev fr))).map (·,h)
  | _=>none):=oI rfl
end
section
def z16:=(And.intro (And.intro (And.intro (And.intro (And.intro (And.intro (And.intro @Qq5 (And.intro @zUN @qqz)) (And.intro (And.intro @Kbx @QQZ) (And.intro @qZw @Qha))) (And.intro (And.intro @J2b (And.intro @qow @Xdi)) (And.intro (And.intro @QFp @KW8) (And.intro @ZQk @ZHU)))) (And.intro (And.intro (And.intro @Jup (And.intro @QSa @KSh)) (And.intro (And.intro @zvE @Xlr) (And.intro @ZlL @JR2))) (And.intro (And.intro (And.intro @z4w @W_op) (And.intro @ZhU @qhm)) (And.intro (And.intro @qKa @Kw4) (And.intro @Qjy @KpL))))) (And.intro (And.intro (And.intro (And.intro @ZGl (And.intro @Qus @JuD)) (And.intro (And.intro @Je6 @ZWU) (And.intro @pl_0 @pl_s))) (And.intro (And.intro @KPJ (And.intro @JDM @XkP)) (And.intro (And.intro @QRJ @ev_t) (And.intro @ev_c @QUU)))) (And.intro (And.intro (And.intro @zeO (And.intro @JUD @Q2Z)) (And.intro (And.intro @YeQ @YsC) (And.intro @Zrm @Q1F))) (And.intro (And.intro (And.intro @ZHY @XsL) (And.intro @Qur @JiT)) (And.intro (And.intro @qP9 @Q7F) (And.intro @QXn @Xkh)))))) (And.intro (And.intro (And.intro (And.intro (And.intro @JZi (And.intro @YcB @KNu)) (And.intro (And.intro @JzJ @JLf) (And.intro @XlP @Jms))) (And.intro (And.intro @KmD (And.intro @qQT @Zkv)) (And.intro (And.intro @Z0B @QQ5) (And.intro @qxc @JNB)))) (And.intro (And.intro (And.intro @ZPl (And.intro @Z5s @QT9)) (And.intro (And.intro @QSS @zds) (And.intro @Jbv @zKT))) (And.intro (And.intro (And.intro @qqR @Q9B) (And.intro @qpa @qbZ)) (And.intro (And.intro @zRk @KLv) (And.intro @XJx @J4I))))) (And.intro (And.intro (And.intro (And.intro @ZHo (And.intro @Tab.at_nil @Tab.at_cons)) (And.intro (And.intro @J9z @Yy3) (And.intro @qyh @JrI))) (And.intro (And.intro (And.intro @KHF @Z58) (And.intro @Y4l @QuL)) (And.intro (And.intro @Jla @Zgm) (And.intro @Zgn @ZFc)))) (And.intro (And.intro (And.intro @XZv (And.intro @KAq @Y8J)) (And.intro (And.intro @all_nil @all_cons) (And.intro @zr0 @JNi))) (And.intro (And.intro (And.intro @z0R @JpK) (And.intro @Kzs @XLS)) (And.intro (And.intro @XaZ @KIq) (And.intro @zFM @JwH))))))) (And.intro (And.intro (And.intro (And.intro (And.intro (And.intro @Zsm (And.intro @KdB @ZMQ)) (And.intro (And.intro @XPA @QfW) (And.intro @zAw @Xzw))) (And.intro (And.intro @Jfe (And.intro @ZwH @Q6Q)) (And.intro (And.intro @YTm @X7t) (And.intro @J3C @Ytw)))) (And.intro (And.intro (And.intro @JHo (And.intro @Kqa @XIR)) (And.intro (And.intro @YlY @QNW) (And.intro @qix @Xm5))) (And.intro (And.intro (And.intro @qbE @Jd5) (And.intro @Jgi @z7M)) (And.intro (And.intro @JAI @XNy) (And.intro @qXm @z93))))) (And.intro (And.intro (And.intro (And.intro @true_and (And.intro @and_true @true_implies)) (And.intro (And.intro @Bool.true_and @Bool.and_true) (And.intro @Bool.false_and @Bool.and_false))) (And.intro (And.intro (And.intro @Nat.lt_add_one @tp_0) (And.intro @tp_s @JRI)) (And.intro (And.intro @K2n @QoW) (And.intro @Jje @Int.cast_ofNat_Int)))) (And.intro (And.intro (And.intro @Int.natCast_inj (And.intro @Int.ofNat_lt @Int.ofNat_le)) (And.intro (And.intro @Int.toNat_natCast @Int.natCast_nonneg) (And.intro @not_false_eq_true @not_true_eq_false))) (And.intro (And.intro (And.intro @Bool.false_eq_true @Q6a) (And.intro @XGK @zGH)) (And.intro (And.intro @Kpl @Jul) (And.intro @qCC @K96)))))) (And.intro (And.intro (And.intro (And.intro (And.intro @zuI (And.intro @z1i @zsN)) (And.intro (And.intro @Jv5 @ZOB) (And.intro @Y4a @ZP2))) (And.intro (And.intro @YB5 (And.intro @qU5 @ZkX)) (And.intro (And.intro @zWj @JQI) (And.intro @KwN @Yuq)))) (And.intro (And.intro (And.intro @JCD (And.intro @zv8 @KK1)) (And.intro (And.intro @JNR @Q6R) (And.intro @ZeQ @QQN))) (And.intro (And.intro (And.intro @q9x @qF7) (And.intro @KKe @Kef)) (And.intro (And.intro @ztT @XKk) (And.intro @KJk @Z7q))))) (And.intro (And.intro (And.intro (And.intro @Xs4 (And.intro @Qm3 @Q2R)) (And.intro (And.intro @qn3 @Ky5) (And.intro @qjl @YQ0))) (And.intro (And.intro (And.intro @YUi @z7t) (And.intro @zWH @z17)) (And.intro (And.intro @qhN @YIc) (And.intro @Yie @Qmk)))) (And.intro (And.intro (And.intro @Y65 (And.intro @Nat.add_assoc @ZnG)) (And.intro (And.intro @XDb @q8w) (And.intro @QP2 @Yor))) (And.intro (And.intro (And.intro @XCX @qBu) (And.intro @zzr @zWC)) (And.intro (And.intro @X71 @XSQ) (And.intro @QJX @znp))))))))
def qdd:=(And.intro (And.intro (And.intro (And.intro (And.intro (And.intro (And.intro @JnW @XGf) (And.intro @Qja @XfC)) (And.intro (And.intro @Q3L @zBQ) (And.intro @Kgs @YYi))) (And.intro (And.intro (And.intro @YHN @JWl) (And.intro @XvW @zAb)) (And.intro (And.intro @XUU @KS9) (And.intro @XL3 @X2y)))) (And.intro (And.intro (And.intro (And.intro @QOM @KYl) (And.intro @QAt @Zbm)) (And.intro (And.intro @YRc @XKY) (And.intro @J7f @qp6))) (And.intro (And.intro (And.intro @YqO @zUe) (And.intro @ZjU @J64)) (And.intro (And.intro @KHC @qCY) (And.intro @KrI (And.intro @JNA @zFj)))))) (And.intro (And.intro (And.intro (And.intro (And.intro @zqu @Jpj) (And.intro @KEM @ZJX)) (And.intro (And.intro @qnu @z0m) (And.intro @KwM @X9A))) (And.intro (And.intro (And.intro @K6y @zCb) (And.intro @Zte @JyU)) (And.intro (And.intro @KAg @Jtl) (And.intro @QaK @XLN)))) (And.intro (And.intro (And.intro (And.intro @QP9 @ZwL) (And.intro @Jzc @K9z)) (And.intro (And.intro @XDy @zEI) (And.intro @zJy @KTU))) (And.intro (And.intro (And.intro @Z9l @Zmm) (And.intro @Z3D @zKD)) (And.intro (And.intro @ZCV @XEq) (And.intro @z8e (And.intro @Q4L @YV0))))))) (And.intro (And.intro (And.intro (And.intro (And.intro (And.intro @Zdn @q00) (And.intro @Qm6 @Z3E)) (And.intro (And.intro @QGF @q9f) (And.intro @KfQ @qJM))) (And.intro (And.intro (And.intro @qOD @zRj) (And.intro @XBe @Jvy)) (And.intro (And.intro @zPK @X6y) (And.intro @ok_i @ok_b)))) (And.intro (And.intro (And.intro (And.intro @ok_s @qn9) (And.intro @Xlp @ZZY)) (And.intro (And.intro @ok_p @ok_y) (And.intro @ZM3 @ok_f))) (And.intro (And.intro (And.intro @Y8y @Ztn) (And.intro @Xrv @XDA)) (And.intro (And.intro @zNr @KbL) (And.intro @QlK (And.intro @zwZ @zCn)))))) (And.intro (And.intro (And.intro (And.intro (And.intro @zGb @JbL) (And.intro @QG4 @any_cons)) (And.intro (And.intro @z1E @zAC) (And.intro @zWD @qaT))) (And.intro (And.intro (And.intro @KbN @Qpq) (And.intro @ZNP @QZP)) (And.intro (And.intro @Z8s @JiY) (And.intro @Tab.ws_nil (And.intro @Tab.ws_cons @decide_true))))) (And.intro (And.intro (And.intro (And.intro @decide_false @Bool.or_true) (And.intro @Bool.or_false @Bool.true_or)) (And.intro (And.intro @Bool.false_or @Bool.not_true) (And.intro @Bool.not_false @JsZ))) (And.intro (And.intro (And.intro @YrQ @zMA) (And.intro @Z1h @zfn)) (And.intro (And.intro @JE2 @KKy) (And.intro @Xrp (And.intro @Yv9 @Qqp))))))))
def KlC:=(And.intro (And.intro (And.intro (And.intro (And.intro @ZIe @JHl) (And.intro @Z2B (And.intro @Y6m @QRE))) (And.intro (And.intro @nd_0 (And.intro @nd_s @q3K)) (And.intro @Jje (And.intro @QoW @Kqa)))) (And.intro (And.intro (And.intro @XIR (And.intro @decide_eq_true_eq @Bool.and_eq_true)) (And.intro @Bool.and_true (And.intro @Bool.true_and @Nat.lt_add_right_iff_pos))) (And.intro (And.intro @Nat.lt_add_one (And.intro @Nat.add_lt_add_iff_left @Nat.zero_lt_succ)) (And.intro @or_true (And.intro @true_or @and_true))))) (And.intro (And.intro (And.intro (And.intro @true_and @and_self) (And.intro @Nat.zero_add (And.intro @Nat.add_zero @false_or))) (And.intro (And.intro @Qo4 (And.intro @K4p @KKP)) (And.intro @zmY (And.intro @K2n @JRI)))) (And.intro (And.intro (And.intro @imp_self (And.intro @K39 @zKP)) (And.intro @Zr0 (And.intro @zBU @decide_true))) (And.intro (And.intro @Bool.or_true (And.intro @Ke7 @q8J)) (And.intro @ZNQ (And.intro @QE7 @Nat.lt_irrefl))))))
def Xq6:=(And.intro (And.intro (And.intro @JdV @J5O) (And.intro @JOK (And.intro @J4H @YyZ))) (And.intro (And.intro @YJi @YFV) (And.intro @YFs (And.intro @Znw @Zzr))))
end
end Go.Proofs.YtebcngelgdpbjaaGreat
