/- Part 16 of what the laws' proofs rest on. No condition. -/
import Derived.Test.YtekeoichmdiiiaaGreatTh15
set_option linter.all false
namespace Go.Proofs.YtekeoichmdiiiaaGreat
section
open Go.RowKit
section
variable {T:Env} {fr:List AV} {h:List AB}
theorem YON (v:AV):put fr none v=fr:=oI rfl
theorem qEX (d:Nat) (v:AV):put fr (some d) v=fr.set d v:=oI rfl
theorem XEw (a:AV) (l:List AV) (v:AV):(a::l).set 0 v=v::l:=oI rfl
theorem Jhq (a:AV) (l:List AV) (n:Nat) (v:AV):(a::l).set (n+1) v=a::l.set n v:=oI rfl
def pl:List AV->Nat->AV
 | [],_=>.tu []
 | a::_,0=>a
 | _::l,n+1=>pl l n
theorem ZRE:∀(l:List AV) (n:Nat),l.getD n (.tu [])=pl l n
 | [],n=>by simp [pl]
 | a::l,0=>by simp [pl]
 | a::l,n+1=>by simpa [pl] using ZRE l n
theorem pl_0 (a:AV) (l:List AV):pl (a::l) 0=a:=oI rfl
theorem pl_s (a:AV) (l:List AV) (n:Nat):pl (a::l) (n+1)=pl l n:=oI rfl
theorem ev_t (n:Nat):Opd.ev fr (.t n)=pl fr n:=ZRE fr n
theorem ev_c (v:AV):Opd.ev fr (.c v)=v:=oI rfl
theorem ZJt (n:Nat):gv fr n=pl fr n:=ZRE fr n
theorem Z93 (x:Opd):opR T (.mv x) fr h=some (x.ev fr,h):=oI rfl
theorem YOu (op:BinOp) (x y:Opd):opR T (.bin op x y) fr h=(binV op (x.ev fr) (y.ev fr)).map (·,h):=oI rfl
theorem q6y (op:UnOp) (x:Opd):opR T (.un op x) fr h=(unV op (x.ev fr)).map (·,h):=oI rfl
def Jru (c a b:AV):Option AV:=match c with
 | .b t=>some (if t then a else b)
 | _=>none
theorem qqr (c a b:Opd):opR T (.pick c a b) fr h=(Jru (c.ev fr) (a.ev fr) (b.ev fr)).map (·,h):=by
 show (match Opd.ev fr c with | .b t=>some (if t then Opd.ev fr a else Opd.ev fr b,h)|_=>none)=_
 unfold Jru
 cases Opd.ev fr c <;> rfl
theorem qSN (a b:AV):Jru (.b true) a b=some a:=oI rfl
theorem Yck (a b:AV):Jru (.b false) a b=some b:=oI rfl
theorem Klf (s:Bool) (x:Opd):opR T (.len s x) fr h=if (x.ev fr).isStr=s then (lenV (x.ev fr)).map fun n=>(.i .i64 n,h) else none:=oI rfl
theorem Yvh (x:Opd) (i:Nat):opR T (.ext x i) fr h=(match x.ev fr with | .tu l=>(l[i]?).map (·,h)|_=>none):=oI rfl
theorem JNZ (m:Bool) (x y:Opd):opR T (.mm m x y) fr h=(mmV m (x.ev fr) (y.ev fr)).map (·,h):=oI rfl
theorem XhS (n:Option Nat) (x:Opd):opR T (.ld n x) fr h=(ldV h n (x.ev fr)).map (·,h):=oI rfl
theorem K6C (o:Nat) (x:Opd):opR T (.fad o x) fr h=(match x.ev fr with | .p id q=>some (.p id (q+o),h)|_=>none):=oI rfl
theorem XQV {α β:Type} (f:α->β) (a:α):Option.map f (some a)=some (f a):=oI rfl
theorem QNl {α β:Type} (f:α->β):Option.map f none=none:=oI rfl
theorem Zwn {α β:Type} (f:α->β) (t:Prop) [Decidable t] (a:α):Option.map f (if t then some a else none)=if t then some (f a) else none:=by split <;> rfl
theorem JW2 (k:IntKind) (a b:Int):binV .lss (.i k a) (.i k b)=some (.b (decide (a<b))):=by simp [binV,binI]
theorem YZY (k:IntKind) (a b:Int):binV .leq (.i k a) (.i k b)=some (.b (decide (a<=b))):=by simp [binV,binI]
theorem KKK (k:IntKind) (a b:Int):binV .gtr (.i k a) (.i k b)=some (.b (decide (b<a))):=by simp [binV,binI]
theorem JXs (k:IntKind) (a b:Int):binV .geq (.i k a) (.i k b)=some (.b (decide (b<=a))):=by simp [binV,binI]
theorem J3N (k:IntKind) (a b:Int):binV .eql (.i k a) (.i k b)=some (.b (decide (a=b))):=by simp [binV,binI,BEq.beq]
theorem Q3g (k:IntKind) (a b:Int):binV .neq (.i k a) (.i k b)=some (.b (decide (¬a=b))):=by simp [binV,binI,bne,BEq.beq]
theorem qUF (k:IntKind) (a b:Int):binV .add (.i k a) (.i k b)=some (.i k (k.wrap (a+b))):=by simp [binV,binI]
theorem YEp (k:IntKind) (a b:Int):binV .sub (.i k a) (.i k b)=some (.i k (k.wrap (a-b))):=by simp [binV,binI]
theorem Qnv (k:IntKind) (a b:Int):mmV true (.i k a) (.i k b)=some (.i k (max a b)):=by
 simp only[mmV,if_true,Option.some.injEq,AV.i.injEq,true_and]
 omega
theorem XHI (k:IntKind) (a b:Int):mmV false (.i k a) (.i k b)=some (.i k (min a b)):=by
 simp only[mmV,Bool.false_eq_true,if_false,Option.some.injEq,AV.i.injEq,true_and]
 omega
def In64 (a:Int):Prop:=-9223372036854775808<=a/\a<9223372036854775808
theorem Q7p {a:Int} (h:In64 a):IntKind.i64.wrap a=a:=IntWalk.i64_in _ (by unfold In64 at h;omega)
def AV.isSl:AV->Bool
 | .ns | .se | .sl _ _ _ _ _=>true
 | _=>false
def rdS (h:List AB) (sz:Nat):AV->Option (Nat×List AV)
 | .ns | .se=>some (0,[])
 | .sl id off len _ _=>if len=0 then some (0,[]) else (zZU h id).bind fun xs=>if off+len*sz<=xs.length then some (len,(xs.drop off).take (len*sz)) else none
 | _=>none
def elP (sz:Nat) (s:AV) (n j:Nat):AV:=
 match s with
 | .sl id off _ _ _=>.p id (off+n*sz+j)
 | _=>.np
theorem ZCA {sz:Nat} {s:AV} {r:Nat×List AV} (e:rdS h sz s=some r):s.isSl=true:=by
 cases s <;> first|rfl|cases e
theorem QP8 {s:AV} (e:s.isSl=true):s.isStr=false:=by cases s <;> first|rfl|cases e
theorem Zcq {s:AV} (e:s.isSl=true):s.one=true:=by cases s <;> first|rfl|cases e
theorem Jrd {s:AV} (e:s.isSl=true):s.known=true:=by cases s <;> first|rfl|cases e
theorem qmc {s:AV} (e:s.isSl=true):s.cells=[s]:=by cases s <;> first|rfl|cases e
theorem ZRu {sz n:Nat} {s:AV} {cs:List AV} (e:rdS h sz s=some (n,cs)):lenV s=some (n:Int):=by
 cases s with
 | sl id off len cap k =>
  simp only[rdS]at e
  split at e
  ·rename_i h0;subst h0;cases e;rfl
  ·obtain ⟨xs,_,e⟩:=oQ.1 e
   split at e
   ·cases e;rfl
   ·cases e
 | ns=>cases e;rfl
 | se=>cases e;rfl
 | _=>cases e
theorem q20 {sz n:Nat} {s:AV} {cs:List AV} (e:rdS h sz s=some (n,cs)) (l:List AB):rdS (h++l) sz s=some (n,cs):=by
 cases s with
 | sl id off len cap k =>
  simp only[rdS]at e ⊢
  split at e
  ·rename_i h0
   rw[if_pos h0]
   exact e
  ·rename_i h0
   rw[if_neg h0]
   obtain ⟨xs,h1,e⟩:=oQ.1 e
   have:zZU (h++l) id=some xs:=by
    unfold zZU at h1 ⊢
    split at h1
    ·rename_i h2
     rw[List.getElem?_append_left (List.getElem?_eq_some_iff.1 h2).1,h2]
     exact h1
    ·cases h1
   rw[this]
   exact e
 | ns=>exact e
 | se=>exact e
 | _=>cases e
theorem Y0D (sz:Nat) (x i:Opd):opR T (.iad sz x i) fr h=(match x.ev fr,i.ev fr with
  | .sl id off k _ _,.i _ n=>if 0<=n/\n<k then some (.p id (off+n.toNat*sz),h) else none
  | _,_=>none):=rfl
def iadV (sz:Nat) (s i:AV):Option AV:=
 match s,i with
 | .sl id off k _ _,.i _ n=>if 0<=n/\n<k then some (.p id (off+n.toNat*sz)) else none
 | _,_=>none
theorem QMz (sz:Nat) (x i:Opd):opR T (.iad sz x i) fr h=(iadV sz (x.ev fr) (i.ev fr)).map (·,h):=by
 rw[Y0D]
 unfold iadV
 split
 ·split <;> rfl
 ·rfl
theorem z7u {sz n:Nat} {s:AV} {cs:List AV} (e:rdS h sz s=some (n,cs)) (k:IntKind) (m:Int):iadV sz s (.i k m)=if 0<=m/\m<(n:Int) then some (elP sz s m.toNat 0) else none:=by
 have:=ZRu e
 cases s with
 | sl id off len cap k =>
  simp only[lenV,Option.some.injEq,Int.natCast_inj]at this
  subst this
  simp only[iadV,elP,Nat.add_zero]
 | ns=>cases this;simp only[iadV];rw[if_neg (by omega)]
 | se=>cases this;simp only[iadV];rw[if_neg (by omega)]
 | _=>cases e
def fadV (o:Nat):AV->Option AV
 | .p id q=>some (.p id (q+o))
 | _=>none
structure Row (α:Type) where
 f:α->List AV
 sz:Nat
 len:∀x,(f x).length=sz
 pos:0<sz
 d:α
 inj:∀x y,f x=f y->x=y
def Row.cells {α:Type} (r:Row α) (l:List α):List AV:=l.flatMap r.f
theorem Row.cells_len {α:Type} (r:Row α) (l:List α):(r.cells l).length=l.length*r.sz:=by
 induction l with
 | nil=>simp [Row.cells]
 | cons a l ih =>
  simp only[Row.cells,List.flatMap_cons,List.length_append,List.length_cons]at ih ⊢
  rw[ih,r.len,Nat.add_mul,Nat.one_mul,Nat.add_comm]
theorem Row.cells_get {α:Type} (r:Row α):∀(l:List α) (n j:Nat),n<l.length->j<r.sz->(r.cells l)[n*r.sz+j]?=(r.f (l.getD n r.d))[j]?
 | [],n,j,h,_=>by simp at h
 | a::l,0,j,_,hj=>by
  simp only[Row.cells,List.flatMap_cons,Nat.zero_mul,Nat.zero_add,List.getD_cons_zero]
  rw[List.getElem?_append_left (by rw[r.len];exact hj)]
 | a::l,n+1,j,h,hj=>by
  have:=Row.cells_get r l n j (by simpa using h) hj
  simp only[Row.cells,List.flatMap_cons,List.getD_cons_succ]at this ⊢
  rw[List.getElem?_append_right (by rw[r.len,Nat.add_mul];omega),r.len,<-this]
  congr 1
  rw[Nat.add_mul]
  omega
theorem Row.cells_inj {α:Type} (r:Row α):∀(l l':List α),l.length=l'.length->r.cells l=r.cells l'->l=l'
 | [],[],_,_=>rfl
 | [],_::_,h,_=>by simp at h
 | _::_,[],h,_=>by simp at h
 | a::l,b::l',h,e=>by
  simp only[Row.cells,List.flatMap_cons]at e
  obtain ⟨e1,e2⟩:=List.append_inj e (by rw[r.len,r.len])
  rw[r.inj a b e1,Row.cells_inj r l l' (by simpa using h) e2]
def Rd {α:Type} (r:Row α) (h:List AB) (s:AV) (l:List α):Prop:=rdS h r.sz s=some (l.length,r.cells l)/\l.length<=maxLen
theorem Rd.app {α:Type} {r:Row α} {s:AV} {l:List α} (e:Rd r h s l) (x:List AB):Rd r (h++x) s l:=⟨q20 e.1 x,e.2⟩
theorem Rd.isSl {α:Type} {r:Row α} {s:AV} {l:List α} (e:Rd r h s l):s.isSl=true:=ZCA e.1
theorem Rd.len {α:Type} {r:Row α} {s:AV} {l:List α} (e:Rd r h s l):lenV s=some (l.length:Int):=ZRu e.1
theorem Rd.iad {α:Type} {r:Row α} {s:AV} {l:List α} (e:Rd r h s l) (k:IntKind) (m:Int):iadV r.sz s (.i k m)=if 0<=m/\m<(l.length:Int) then some (elP r.sz s m.toNat 0) else none:=z7u e.1 k m
theorem Rd.inj {α:Type} {r:Row α} {s:AV} {l l':List α} (e:Rd r h s l) (e':Rd r h s l'):l=l':=by
 have:=e.1.symm.trans e'.1
 simp only[Option.some.injEq,Prod.mk.injEq]at this
 exact r.cells_inj l l' this.1 this.2
open Classical in
noncomputable def getS {α:Type} (r:Row α) (h:List AB) (s:AV):Option (List α):=if e:∃l,Rd r h s l then some e.choose else none
theorem Rd.get {α:Type} {r:Row α} {s:AV} {l:List α} (e:Rd r h s l):getS r h s=some l:=by
 unfold getS
 have hx:∃l,Rd r h s l:=⟨l,e⟩
 rw[dif_pos hx,hx.choose_spec.inj e]
theorem YdW {α:Type} {r:Row α} {s:AV} {l:List α} (e:getS r h s=some l):Rd r h s l:=by
 unfold getS at e
 split at e
 ·rename_i hx
  cases e
  exact hx.choose_spec
 ·cases e
theorem Qk0 {α β:Type} {r:Row α} {s:AV} {f:List α->Option β} {b:β} (e:(getS r h s).bind f=some b):∃l,Rd r h s l/\f l=some b:=by
 obtain ⟨l,h1,h2⟩:=oQ.1 e
 exact ⟨l,YdW h1,h2⟩
theorem Rd.blk {α:Type} {r:Row α} {s:AV} {l:List α} (e:Rd r h s l) (n:Nat) (hn:n<l.length):∃id off cap k xs,s=.sl id off l.length cap k/\zZU h id=some xs/\off+l.length*r.sz<=xs.length/\(xs.drop off).take (l.length*r.sz)=r.cells l:=by
 replace e:=e.1
 have hl:=ZRu e
 cases s with
 | sl id off len cap k =>
  simp only[lenV,Option.some.injEq,Int.natCast_inj]at hl
  subst hl
  simp only[rdS]at e
  rw[if_neg (by omega)]at e
  obtain ⟨xs,h1,e⟩:=oQ.1 e
  split at e
  ·rename_i h2
   simp only[Option.some.injEq,Prod.mk.injEq,true_and]at e
   exact ⟨id,off,cap,k,xs,rfl,h1,h2,e⟩
  ·cases e
 | ns=>simp only[lenV,Option.some.injEq]at hl;omega
 | se=>simp only[lenV,Option.some.injEq]at hl;omega
 | _=>cases e
theorem Rd.ld {α:Type} {r:Row α} {s:AV} {l:List α} (e:Rd r h s l) (n j:Nat) (hn:n<l.length) (hj:j<r.sz):ldV h none (elP r.sz s n j)=(r.f (l.getD n r.d))[j]?:=by
 obtain ⟨id,off,cap,k,xs,rfl,h1,h2,h3⟩:=e.blk n hn
 simp only[elP,ldV,h1,Option.bind_some]
 rw[<-r.cells_get l n j hn hj,<-h3]
 have hlt:n*r.sz+j<l.length*r.sz:=by
  have:=Nat.mul_le_mul_right r.sz (show n+1<=l.length from hn)
  rw[Nat.add_mul]at this
  omega
 rw[List.getElem?_take,if_pos hlt,List.getElem?_drop,Nat.add_assoc]
theorem Rd.lda {α:Type} {r:Row α} {s:AV} {l:List α} (e:Rd r h s l) (n:Nat) (hn:n<l.length):ldV h (some r.sz) (elP r.sz s n 0)=some (.ag (r.f (l.getD n r.d))):=by
 obtain ⟨id,off,cap,k,xs,rfl,h1,h2,h3⟩:=e.blk n hn
 simp only[elP,ldV,h1,Option.bind_some,Nat.add_zero]
 have hlt:n*r.sz+r.sz<=l.length*r.sz:=by
  have:=Nat.mul_le_mul_right r.sz (show n+1<=l.length from hn)
  rw[Nat.add_mul]at this
  omega
 rw[if_pos (by omega)]
 congr 2
 refine List.ext_getElem? fun j=>?_
 rw[List.getElem?_take]
 split
 ·rename_i hj
  rw[<-r.cells_get l n j hn hj,<-h3,List.getElem?_take,if_pos (by omega),List.getElem?_drop,List.getElem?_drop,Nat.add_assoc]
 ·rename_i hj
  rw[List.getElem?_eq_none (by rw[r.len];omega)]
theorem Rd.ok {α:Type} {r:Row α} {s:AV} {l:List α} (_:Rd r h s l) {q q':Nat->Bool} (ho:s.ok q=true) (hq:∀i,q i=true->q' i=true):s.ok q'=true:=AV.ok_mono hq s ho
theorem Rd.okEl {α:Type} {r:Row α} {s:AV} {l:List α} (e:Rd r h s l) {q:Nat->Bool} (ho:s.ok q=true) (n j sz:Nat) (hn:n<l.length):(elP sz s n j).ok q=true:=by
 obtain ⟨id,off,cap,k,xs,rfl,_⟩:=e.blk n hn
 rcases KvC ho with ⟨h1,_⟩|h1
 ·omega
 ·exact h1
theorem Rd.fad {α:Type} {r:Row α} {s:AV} {l:List α} (e:Rd r h s l) (o sz n j:Nat) (hn:n<l.length):fadV o (elP sz s n j)=some (elP sz s n (j+o)):=by
 obtain ⟨id,off,cap,k,xs,rfl,_⟩:=e.blk n hn
 simp only[elP,fadV,Nat.add_assoc]
theorem ZX5 {len0 lo hi anc:Nat} {past:List Pt} {i:Nat} (hi':i<len0):qOk len0 lo hi anc past i=true:=by
 simp [qOk,hi']
theorem Rd.fx {α:Type} {r:Row α} {s:AV} {l:List α} (e:Rd r h s l) (ho:s.ok (fun i=>decide (i<h.length))=true) {sz:Nat} (hz:r.sz=sz) :
  s.isStr=false/\s.one=true/\s.known=true/\s.cells=[s]/\lenV s=some (l.length:Int) /\
  (∀k m,iadV sz s (.i k m)=if 0<=m/\m<(l.length:Int) then some (elP sz s m.toNat 0) else none) /\
  (∀x n j,n<l.length->j<sz->ldV (h++x) none (elP sz s n j)=(r.f (l.getD n r.d))[j]?) /\
  (∀x n,n<l.length->ldV (h++x) (some sz) (elP sz s n 0)=some (.ag (r.f (l.getD n r.d)))) /\
  (∀x,getS r (h++x) s=some l)/\(∀o n j,n<l.length->fadV o (elP sz s n j)=some (elP sz s n (j+o))) /\
  (∀c lo hi anc past,s.ok (qOk (h.length+c) lo hi anc past)=true)/\(∀c,s.ok (fun i=>decide (i<h.length+c))=true) /\
  (∀n j c lo hi anc past,n<l.length->(elP sz s n j).ok (qOk (h.length+c) lo hi anc past)=true)/\(∀n j c,n<l.length->(elP sz s n j).ok (fun i=>decide (i<h.length+c))=true):=by
 subst hz
 have o1:∀c lo hi anc past,s.ok (qOk (h.length+c) lo hi anc past)=true:=fun c lo hi anc past=>AV.ok_mono (fun i q=>ZX5 (by simp only[decide_eq_true_eq]at q;omega)) s ho
 have o2:∀c,s.ok (fun i=>decide (i<h.length+c))=true:=fun c=>AV.ok_mono (fun i q=>by simp only[decide_eq_true_eq]at q ⊢;omega) s ho
 exact ⟨QP8 e.isSl,Zcq e.isSl,Jrd e.isSl,qmc e.isSl,e.len,e.iad,fun x n j h1 h2=>(e.app x).ld n j h1 h2,fun x n h1=>(e.app x).lda n h1,fun x=>(e.app x).get,fun o n j hn=>e.fad o _ n j hn,o1,o2,
  fun n j c lo hi anc past hn=>e.okEl (o1 c lo hi anc past) n j _ hn,fun n j c hn=>e.okEl (o2 c) n j _ hn⟩
def intR:Row Int:=⟨fun n=>[.i .i64 n],1,fun _=>rfl,by decide,0,fun x y h=>by simpa using h⟩
def dotR:Row (Int×Int):=⟨fun d=>[.i .i64 d.1,.i .i64 d.2],2,fun _=>rfl,by decide,(0,0),fun x y h=>by
 simp only[List.cons.injEq,AV.i.injEq,true_and,and_true]at h
 exact Prod.ext h.1 h.2⟩
theorem KpI (n:Int):intR.f n=[.i .i64 n]:=oI rfl
theorem QKG (d:Int×Int):dotR.f d=[.i .i64 d.1,.i .i64 d.2]:=oI rfl
theorem zXS (a b:Int×Int):JTs [.i,.i] (dotR.f a) (dotR.f b)=some (decide (a=b)):=by
 simp only[QKG,JTs,QsB,if_true,Option.bind_some,Option.map_some,Option.some.injEq,Bool.and_true]
 obtain ⟨a1,a2⟩:=a
 obtain ⟨b1,b2⟩:=b
 by_cases h1:a1=b1 <;> by_cases h2:a2=b2 <;> simp [h1,h2]
theorem J3u:(false ^^ false)=false:=oI rfl
theorem Y7B:(false ^^ true)=true:=oI rfl
theorem q3p:(true ^^ false)=true:=oI rfl
theorem JPa:(true ^^ true)=false:=oI rfl
theorem Za2 (p:Prop) [Decidable p]:(decide p ^^ false)=decide p:=by simp
theorem Xyf (p:Prop) [Decidable p]:(decide p ^^ true)=decide (¬p):=by simp
theorem Ky8 {α:Type} (a:α) (l:List α):(a::l)[0]?=some a:=oI rfl
theorem Y0L {α:Type} (a:α) (l:List α) (n:Nat):(a::l)[n+1]?=l[n]?:=by simp
theorem Kuv (o:Nat) (x:Opd):opR T (.fad o x) fr h=(fadV o (x.ev fr)).map (·,h):=by
 rw[K6C]
 cases x.ev fr <;> rfl
theorem JTf (o id q:Nat):fadV o (.p id q)=some (.p id (q+o)):=oI rfl
theorem QuC (l:List AB):(h++l).length=h.length+l.length:=List.length_append
theorem QZx:([]:List AB).length=0:=oI rfl
theorem YOK (B:AB) (l:List AB):(B::l).length=l.length+1:=oI rfl
theorem Qnm (l l':List AB):h++l++l'=h++(l++l'):=List.append_assoc h l l'
theorem XD6 (l:List AB):[]++l=l:=oI rfl
theorem ZCx (B:AB) (l l':List AB):(B::l)++l'=B::(l++l'):=oI rfl
theorem JiP (fl:Bool) (zs:List AV):opR T (.new fl zs) fr h=newB h fl zs (fun n=>.p n 0):=oI rfl
theorem ZQJ (fl:Bool) (n:Nat) (x:Opd):opR T (.box fl n x) fr h=if (x.ev fr).cells.length=n then newB h fl (x.ev fr).cells (fun n=>.p n 0) else none:=oI rfl
theorem KbJ (fl:Bool) (cs:List AV) (v:Nat->AV):newB h fl cs v=if cs.all (wrOk fl)=true then some (v h.length,h++[.blk fl true cs]) else none:=oI rfl
theorem Q8L (l:List AV):(AV.ag l).cells=l:=oI rfl
theorem Jcs (k:IntKind) (n:Int):(AV.i k n).cells=[.i k n]:=oI rfl
theorem J5b (x:Bool):(AV.b x).cells=[.b x]:=oI rfl
theorem YP5 (x:List UInt8):(AV.s x).cells=[.s x]:=oI rfl
theorem JmN (a b:Nat):(AV.p a b).cells=[.p a b]:=oI rfl
theorem XuC (a b c d:Nat) (k:Option Nat):(AV.sl a b c d k).cells=[.sl a b c d k]:=oI rfl
theorem qXz:AV.ns.cells=[.ns]:=oI rfl
theorem Zs0 (f:Fn) (a b:List AV):(AV.f f a b).cells=[.f f a b]:=oI rfl
theorem all_nil {α:Type} (p:α->Bool):([]:List α).all p=true:=oI rfl
theorem all_cons {α:Type} (p:α->Bool) (a:α) (l:List α):(a::l).all p=(p a&&l.all p):=oI rfl
theorem KVN (v:AV):wrOk true v=v.flat:=oI rfl
theorem XGI (v:AV):wrOk false v=v.one:=oI rfl
theorem Z98 (k:IntKind) (n:Int):(AV.i k n).one=true:=oI rfl
theorem Xqk (x:Bool):(AV.b x).one=true:=oI rfl
theorem Jls (x:List UInt8):(AV.s x).one=true:=oI rfl
theorem JKV (a b:Nat):(AV.p a b).one=true:=oI rfl
theorem K62 (a b c d:Nat) (k:Option Nat):(AV.sl a b c d k).one=true:=oI rfl
theorem YDx:AV.ns.one=true:=oI rfl
theorem Jau (f:Fn) (a b:List AV):(AV.f f a b).one=true:=oI rfl
theorem Q7E (k:IntKind) (n:Int):(AV.i k n).flat=true:=oI rfl
theorem Y0X (x:Bool):(AV.b x).flat=true:=oI rfl
theorem YVy (x:List UInt8):(AV.s x).flat=true:=oI rfl
theorem ZuF:AV.ns.flat=true:=oI rfl
def ownC:List AB->Nat->Option (List AV)
 | [],_=>none
 | .blk _ _ xs::_,0=>some xs
 | _::_,0=>none
 | _::l,n+1=>ownC l n
theorem KZA:∀(l:List AB) (k:Nat),zZU l k=ownC l k
 | [],k=>by simp [zZU,ownC]
 | B::l,0=>by cases B <;> simp [zZU,ownC]
 | B::l,k+1=>by
  have:=KZA l k
  unfold zZU at this ⊢
  rw[List.getElem?_cons_succ,this]
  cases B <;> rfl
theorem Ynl (l:List AB) (k:Nat):zZU (h++l) (h.length+k)=ownC l k:=by
 rw[<-KZA]
 unfold zZU
 rw[List.getElem?_append_right (by omega),Nat.add_sub_cancel_left]
theorem q8D (fl m:Bool) (xs:List AV) (l:List AB):ownC (.blk fl m xs::l) 0=some xs:=oI rfl
theorem Zjy (B:AB) (l:List AB) (n:Nat):ownC (B::l) (n+1)=ownC l n:=by cases B <;> rfl
theorem qxt (l:List AB) (k o:Nat):ldV (h++l) none (.p (h.length+k) o)=(ownC l k).bind fun xs=>xs[o]?:=by
 simp only[ldV,Ynl]
theorem zJn (l:List AB) (k o n:Nat):ldV (h++l) (some n) (.p (h.length+k) o)=(ownC l k).bind fun xs=>if o+n<=xs.length then some (.ag ((xs.drop o).take n)) else none:=by
 simp only[ldV,Ynl]
theorem QXx {α β:Type} (a:α) (f:α->Option β):(some a).bind f=f a:=oI rfl
theorem YA7 {α β:Type} (f:α->Option β):(none:Option α).bind f=none:=oI rfl
def ownW:List AB->Nat->Nat->List AV->Option (List AB)
 | [],_,_,_=>none
 | .blk fl true xs::l,0,o,ys=>if o+ys.length<=xs.length/\ys.all (wrOk fl)=true then some (.blk fl true (over xs o ys)::l) else none
 | _::_,0,_,_=>none
 | B::l,n+1,o,ys=>(ownW l n o ys).map (B :: ·)
theorem XDK (ys:List AV) (o:Nat):∀(l:List AB) (k:Nat),stB l k o ys=ownW l k o ys
 | [],k=>by simp [stB,ownW]
 | B::l,0=>by
  cases B with
  | blk fl m xs=>cases m <;> simp [stB,ownW]
  | _=>simp [stB,ownW]
 | B::l,k+1=>by
  have:=XDK ys o l k
  have e:ownW (B::l) (k+1) o ys=(ownW l k o ys).map (B :: ·):=by
   cases B with
   | blk fl m xs=>cases m <;> rfl
   | _=>rfl
  rw[e,<-this]
  unfold stB
  rw[List.getElem?_cons_succ]
  split <;> (try split) <;> simp_all
theorem K7j (l:List AB) (k o:Nat) (ys:List AV):stB (h++l) (h.length+k) o ys=(ownW l k o ys).map (h ++ ·):=by
 rw[<-XDK]
 unfold stB
 rw[List.getElem?_append_right (by omega),Nat.add_sub_cancel_left]
 split
 ·rename_i fl xs hx
  split
  ·simp only[Option.map_some,Option.some.injEq]
   rw[List.set_append_right _ _ (by omega),Nat.add_sub_cancel_left]
  ·rfl
 ·rfl
theorem YHg (fl:Bool) (xs:List AV) (l:List AB) (o:Nat) (ys:List AV):ownW (.blk fl true xs::l) 0 o ys=if o+ys.length<=xs.length/\ys.all (wrOk fl)=true then some (.blk fl true (over xs o ys)::l) else none:=oI rfl
theorem qkF (B:AB) (l:List AB) (n o:Nat) (ys:List AV):ownW (B::l) (n+1) o ys=(ownW l n o ys).map (B :: ·):=by
 cases B with
 | blk fl m xs=>cases m <;> rfl
 | _=>rfl
theorem KmS (n:Option Nat) (x v:Opd):opR T (.st n x v) fr h=(stV h n (x.ev fr) (v.ev fr)).map (.tu [],·):=oI rfl
theorem qK4 (l:List AB) (k o:Nat) (v:AV):stV (h++l) none (.p (h.length+k) o) v=if v.one=true then (ownW l k o [v]).map (h ++ ·) else none:=by
 simp only[stV,K7j]
theorem Yp4 (l:List AB) (k o n:Nat) (vs:List AV):stV (h++l) (some n) (.p (h.length+k) o) (.ag vs)=if vs.length=n then (ownW l k o vs).map (h ++ ·) else none:=by
 simp only[stV,K7j]
theorem ZqG (x:AV) (xs:List AV) (v:AV):over (x::xs) 0 [v]=v::xs:=oI rfl
theorem KfA (x:AV) (xs:List AV) (o:Nat) (vs:List AV):over (x::xs) (o+1) vs=x::over xs o vs:=by
 simp only[over,List.take_succ_cons,List.cons_append,List.append_assoc]
 rw[show o+1+vs.length=(o+vs.length)+1 by omega,List.drop_succ_cons]
theorem ZKz (x:AV) (xs:List AV) (v:AV) (vs:List AV):over (x::xs) 0 (v::vs)=v::over xs 0 vs:=by
 simp [over,Nat.add_comm]
theorem QUA (xs:List AV):over xs 0 []=xs:=by simp [over]
theorem q5w:([]:List AV).length=0:=oI rfl
theorem KpB (B:AV) (l:List AV):(B::l).length=l.length+1:=oI rfl
theorem z57 {α:Type} (l:List α):l.take 0=[]:=oI rfl
theorem KFg {α:Type} (a:α) (l:List α) (n:Nat):(a::l).take (n+1)=a::l.take n:=oI rfl
theorem J0E {α:Type} (l:List α):l.drop 0=l:=oI rfl
theorem Kis {α:Type} (a:α) (l:List α) (n:Nat):(a::l).drop (n+1)=l.drop n:=oI rfl
theorem J8q (x:Opd):opR T (.nck x) fr h=(match x.ev fr with
  | .p id off=>some (.p id off,h)
  | .f (.func f) fst cap=>some (.f (.func f) fst cap,h)
  | .f (.yield l) fst cap=>some (.f (.yield l) fst cap,h)
  | .ifc t v=>some (.ifc t v,h)
  | _=>none):=rfl
theorem YTV (n:Bool) (x y:Opd):opR T (.eqb n x y) fr h=(match x.ev fr,y.ev fr with
  | .b p,.b q=>some (.b ((p == q) ^^ n),h)
  | _,_=>none):=rfl
theorem KPR (ks:List CK) (n:Bool) (x y:Opd):opR T (.eqc ks n x y) fr h=(match x.ev fr,y.ev fr with
  | .ag l,.ag l'=>(JTs ks l l').map fun r=>(.b (r ^^ n),h)
  | _,_=>none):=rfl
theorem YCa (k:IntKind) (x:Opd):opR T (.cvi k x) fr h=(x.ev fr).int?.map fun n=>(.i k (k.wrap n),h):=oI rfl
theorem q3A (fn:Fn) (a b:List Opd):opR T (.mkf fn a b) fr h=some (.f fn (a.map (Opd.ev fr)) (b.map (Opd.ev fr)),h):=oI rfl
theorem qAr (sz:Nat) (x:Opd) (lo hi mx:Option Opd):opR T (.sll sz x lo hi mx) fr h=(slL sz (x.ev fr) (lo.map (Opd.ev fr)) (hi.map (Opd.ev fr)) (mx.map (Opd.ev fr))).map (·,h):=oI rfl
theorem ZNw (zs:List AV) (ps:List (Nat×Nat×Opd)):opR T (.bld zs ps) fr h=(zlr (Opd.ev fr) zs ps).map fun cs=>(.ag cs,h):=oI rfl
theorem ZyG (fl:Bool) (n:Nat) (zs:List AV) (ps:List (Nat×Nat×Opd)):opR T (.bls fl n zs ps) fr h=(zlr (Opd.ev fr) zs ps).bind fun cs=>newB h fl cs (fun m=>.sl m 0 n n none):=oI rfl
theorem Jeo (str fl:Bool) (sz by_:Nat) (s x:Opd):opR T (.app str fl sz by_ s x) fr h=if (x.ev fr).isStr=str then appV h fl sz by_ (s.ev fr) (x.ev fr) else none:=oI rfl
theorem Zy4 (f:Opd) (args:List Opd):opR T (.call f args) fr h=zHD T (f.ev fr) (args.map (Opd.ev fr)) h:=oI rfl
theorem Qk2 (g:Nat) (a b args:List AV):zHD T (.f (.func g) a b) args h=T.fns.at g (a++args++b) h:=oI rfl
theorem qrD (id:Nat) (args:List AV):zHD T (.y id) args h=T.rds.at id args h:=oI rfl
theorem qp6 {α β:Type} (f:α->β):[].map f=[]:=oI rfl
theorem Qos {α β:Type} (f:α->β) (a:α) (l:List α):(a::l).map f=f a::l.map f:=oI rfl
theorem qA1 (ev:Opd->AV) (cs:List AV):zlr ev cs []=some cs:=oI rfl
theorem zuC (ev:Opd->AV) (cs:List AV) (o n:Nat) (x:Opd) (l:List (Nat×Nat×Opd)):zlr ev cs ((o,n,x)::l)=if (ev x).cells.length=n/\o+n<=cs.length/\(ev x).known=true then zlr ev (over cs o (ev x).cells) l else none:=oI rfl
theorem QpH (p:Prop) [Decidable p]:unV .not (.b (decide p))=some (.b (decide (¬p))):=by simp [unV]
theorem Q49:unV .not (.b true)=some (.b false):=oI rfl
theorem Qri:unV .not (.b false)=some (.b true):=oI rfl
theorem Qpj {P:Program} {p:Nat} {res:List RC} {a:AV} {h':List AB}:Fin P p res a h' .r fr h=∃v,resV fr h res=some v/\Bt P p [v] h [a] h':=oI rfl
theorem KNw {P:Program} {p:Nat} {res:List RC} {a:AV} {h':List AB}:Fin P p res a h' .n fr h=∃v,resV fr h res=some v/\Bt P p [v] h [a] h':=oI rfl
theorem XJt {P:Program} {p n:Nat} {a:AV} {h':List AB}:(∃v,resV fr h [RC.t n]=some v/\Bt P p [v] h [a] h')=Bt P p [pl fr n] h [a] h':=by
 simp only[resV,JRR,KZN,Option.bind_some,Option.map_some,Option.some.injEq,exists_eq_left',ZRE]
theorem z4a {P:Program} {p n m:Nat} {a:AV} {h':List AB}:(∃v,resV fr h [RC.t n,RC.t m]=some v/\Bt P p [v] h [a] h')=Bt P p [.tu [pl fr n,pl fr m]] h [a] h':=by
 simp only[resV,JRR,KZN,Option.bind_some,Option.map_some,Option.some.injEq,exists_eq_left',ZRE]
theorem ZTm {P:Program} {p:Nat} {a:AV} {h':List AB}:(∃v,resV fr h []=some v/\Bt P p [v] h [a] h')=Bt P p [.tu []] h [a] h':=by
 simp only[resV,JRR,Option.map_some,Option.some.injEq,exists_eq_left']
theorem Bt.eq {P:Program} {p:Nat} {v a:AV} {h':List AB} (e:v=a) (eh:h=h'):Bt P p [v] h [a] h':=by
 subst e
 subst eh
 exact Bt.refl _ _ _
theorem z49 (a:AV):List.replicate 0 a=[]:=oI rfl
theorem Qs3 (n:Nat) (a:AV):List.replicate (n+1) a=a::List.replicate n a:=oI rfl
theorem J5y (l:List AV):[]++l=l:=oI rfl
theorem Q2P (a:AV) (l l':List AV):(a::l)++l'=a::(l++l'):=oI rfl
end
end
section
open Go.RowKit
section
variable {T:Env} {fr:List AV} {h:List AB}
theorem z2X (a b:Nat):Nat.blt a b=decide (a<b):=by
 by_cases e:a<b
 ·rw[decide_eq_true e,(show Nat.blt a b=true from by rw[Nat.blt_eq];exact e)]
 ·rw[decide_eq_false e]
  cases hb:Nat.blt a b with
  | true=>exact absurd (by rw[Nat.blt_eq]at hb;exact hb) e
  | false=>rfl
theorem XJq (a b:Nat):Nat.ble a b=decide (a<=b):=by
 by_cases e:a<=b
 ·rw[decide_eq_true e,(show Nat.ble a b=true from by rw[Nat.ble_eq];exact e)]
 ·rw[decide_eq_false e]
  cases hb:Nat.ble a b with
  | true=>exact absurd (by rw[Nat.ble_eq]at hb;exact hb) e
  | false=>rfl
theorem X7C (n:Nat):memN n []=false:=oI rfl
theorem Kx1 (n m:Nat) (l:List Nat):memN n (m::l)=(decide (n=m)||memN n l):=by
 rw[memN]
 by_cases e:n=m
 ·subst e
  simp
 ·have:Nat.beq m n=false:=by
   cases hb:Nat.beq m n with
   | false=>rfl
   | true=>exact absurd (Nat.eq_of_beq_eq_true hb).symm e
  rw[this]
  simp [e]
theorem J8G (n:Nat):∀(l l':List Nat),memN n (l++l')=(memN n l||memN n l')
 | [],l'=>rfl
 | m::l,l'=>by rw[List.cons_append,Kx1,Kx1,J8G n l l',Bool.or_assoc]
theorem YDk (id len0 anc n:Nat) (past:List Pt):memN id (seen len0 anc past n)=(decide (id<n)&&qOk len0 0 0 anc past id):=by
 cases h1:memN id (seen len0 anc past n) with
 | true =>
  have:=List.mem_filter.1 (qS5.1 h1)
  rw[this.2,decide_eq_true (List.mem_range.1 this.1)]
  rfl
 | false =>
  cases h2:(decide (id<n)&&qOk len0 0 0 anc past id) with
  | false=>rfl
  | true =>
   simp only[Bool.and_eq_true,decide_eq_true_eq]at h2
   have:memN id (seen len0 anc past n)=true:=qS5.2 (List.mem_filter.2 ⟨List.mem_range.2 h2.1,h2.2⟩)
   rw[h1]at this
   cases this
theorem qrT (len0 lo hi anc:Nat) (past:List Pt) (id:Nat):qOk len0 lo hi anc past id=(decide (id<len0)||(decide (lo<=id)&&decide (id<hi))||past.any fun p=>bit p.k anc&&decide (p.lo<=id)&&decide (id<p.hi)):=by
 simp only[qOk,z2X,XJq]
theorem Yae (k m:Nat):bit k m=decide (m / 2 ^ k % 2=1):=by
 rw[Zpl,Nat.testBit_eq_decide_div_mod_eq]
theorem zWd (len0 anc:Nat) (past:List Pt) (ws:List Nat) (p:Pt):ZYm len0 anc past ws p=(bit p.k anc||(p.ws.all (fun id=>!qOk len0 0 0 anc past id)&&(decide (p.hi<=p.lo)||(decide (len0<=p.lo)&&past.all fun p'=>!bit p'.k anc||decide (p'.hi<=p.lo)||decide (p.hi<=p'.lo)))&&ws.all fun id=>!Zrs p id && !memN id (p.rs++p.ws))):=by
 simp only[ZYm,XJq]
theorem Kt2 (p:Pt) (id:Nat):Zrs p id=(memN id p.ws||(decide (p.lo<=id)&&decide (id<p.hi))):=by
 simp only[Zrs,z2X,XJq]
def mskL (base c anc:Nat) (past:List Pt) (ws:List Nat):Nat->List AB->List AB
 | _,[]=>[]
 | i,B::l=>(if memN (base+i) ws then B else if qOk (base+c) 0 0 anc past (base+i) then B.freeze else .dead)::mskL base c anc past ws (i+1) l
theorem JqO (base c anc:Nat) (past:List Pt) (ws:List Nat):∀(l:List AB) (i j:Nat),(mskL base c anc past ws i l)[j]?=(l[j]?).map fun B=>if memN (base+(i+j)) ws then B else if qOk (base+c) 0 0 anc past (base+(i+j)) then B.freeze else .dead
 | [],i,j=>by simp [mskL]
 | B::l,i,0=>by simp [mskL]
 | B::l,i,j+1=>by
  simp only[mskL,List.getElem?_cons_succ]
  rw[JqO base c anc past ws l (i+1) j,show i+1+j=i+(j+1) by omega]
theorem zza (hz:h.map AB.freeze=h) (c anc n:Nat) (past:List Pt) (ws:List Nat) (l:List AB) (hn:n=h.length+l.length) (hw:(ws.all fun id=>decide (h.length<=id))=true):qRB (seen (h.length+c) anc past n) ws 0 (h++l)=h++mskL h.length c anc past ws 0 l:=by
 have fz:∀(i:Nat) B,h[i]?=some B->B.freeze=B:=fun i B hB=>by
  have:=congrArg (fun x=>x[i]?) hz
  simp only[List.getElem?_map,hB,Option.map_some,Option.some.injEq]at this
  exact this
 refine List.ext_getElem? fun i=>?_
 rw[z8h,Nat.zero_add]
 have h1:∀j,j<h.length->j∉ws:=fun j hj hm=>by
  have:=List.all_eq_true.1 hw j hm
  simp only[decide_eq_true_eq]at this
  omega
 by_cases hi:i<h.length
 ·rw[List.getElem?_append_left hi,List.getElem?_append_left hi,List.getElem?_eq_getElem hi,Option.map_some,if_neg (h1 i hi),if_pos]
  ·rw[fz i _ (List.getElem?_eq_getElem hi)]
  ·refine List.mem_filter.2 ⟨List.mem_range.2 (by omega),?_⟩
   exact ZX5 (by omega)
 ·rw[List.getElem?_append_right (by omega),List.getElem?_append_right (by omega),JqO]
  cases hB:l[i-h.length]? with
  | none=>rfl
  | some B =>
   have hlt:=(List.getElem?_eq_some_iff.1 hB).1
   simp only[Option.map_some,Option.some.injEq,show h.length+(0+(i-h.length))=i by omega]
   by_cases hm:i∈ws
   ·rw[if_pos hm,if_pos (qS5.2 hm)]
   ·rw[if_neg hm,if_neg (fun q=>hm (qS5.1 q))]
    by_cases hq:qOk (h.length+c) 0 0 anc past i=true
    ·rw[if_pos hq,if_pos]
     exact List.mem_filter.2 ⟨List.mem_range.2 (by omega),hq⟩
    ·rw[if_neg hq,if_neg]
     exact fun q=>hq (List.mem_filter.1 q).2
theorem zPi (base c anc:Nat) (past:List Pt) (ws:List Nat) (i:Nat):mskL base c anc past ws i []=[]:=oI rfl
theorem KFW (base c anc:Nat) (past:List Pt) (ws:List Nat) (i:Nat) (B:AB) (l:List AB):mskL base c anc past ws i (B::l)=(if memN (base+i) ws then B else if qOk (base+c) 0 0 anc past (base+i) then B.freeze else .dead)::mskL base c anc past ws (i+1) l:=oI rfl
theorem YH7 (fl m:Bool) (xs:List AV):(AB.blk fl m xs).freeze=.blk fl false xs:=oI rfl
theorem QtU:AB.dead.freeze=.dead:=oI rfl
def mrgL (base:Nat) (ws:List Nat):Nat->List AB->List AB->List AB
 | _,G,[]=>G
 | i,[],B::l=>(if memN (base+i) ws then .dead else B)::mrgL base ws (i+1) [] l
 | i,C::G,B::l=>(if memN (base+i) ws then C else B)::mrgL base ws (i+1) G l
theorem Q5v (base:Nat) (ws:List Nat):∀(l G:List AB) (i j:Nat),(mrgL base ws i G l)[j]?=if j<l.length then (if base+(i+j)∈ws then some ((G[j]?).getD .dead) else l[j]?) else G[j]?
 | [],G,i,j=>by simp [mrgL]
 | B::l,[],i,0=>by
  by_cases hm:base+i∈ws <;> simp [mrgL,qS5,hm]
 | B::l,C::G,i,0=>by
  by_cases hm:base+i∈ws <;> simp [mrgL,qS5,hm]
 | B::l,[],i,j+1=>by
  have:=Q5v base ws l [] (i+1) j
  simp only[mrgL,List.getElem?_cons_succ,List.length_cons,Nat.add_lt_add_iff_right]at this ⊢
  rw[this,show i+1+j=i+(j+1) by omega]
  simp
 | B::l,C::G,i,j+1=>by
  have:=Q5v base ws l G (i+1) j
  simp only[mrgL,List.getElem?_cons_succ,List.length_cons,Nat.add_lt_add_iff_right]at this ⊢
  rw[this,show i+1+j=i+(j+1) by omega]
theorem qdg (ws:List Nat) (G l:List AB) (hw:(ws.all fun id=>decide (h.length<=id))=true):JkA ws (h++G) 0 (h++l)=h++mrgL h.length ws 0 G l:=by
 have h1:∀j,j<h.length->j∉ws:=fun j hj hm=>by
  have:=List.all_eq_true.1 hw j hm
  simp only[decide_eq_true_eq]at this
  omega
 refine List.ext_getElem? fun i=>?_
 rw[Xwm,Nat.zero_add]
 by_cases hi:i<h.length
 ·rw[if_pos (by rw[List.length_append];omega),if_neg (h1 i hi),List.getElem?_append_left hi,List.getElem?_append_left hi]
 ·rw[List.getElem?_append_right (by omega),List.getElem?_append_right (by omega),List.getElem?_append_right (by omega),Q5v,List.length_append,show h.length+(0+(i-h.length))=i by omega]
  by_cases hl:i-h.length<l.length
  ·rw[if_pos hl,if_pos (by omega)]
  ·rw[if_neg hl,if_neg (by omega)]
theorem Yh4 (base:Nat) (ws:List Nat) (i:Nat) (G:List AB):mrgL base ws i G []=G:=by cases G <;> rfl
theorem ZFd (base:Nat) (ws:List Nat) (i:Nat) (C:AB) (G:List AB) (B:AB) (l:List AB):mrgL base ws i (C::G) (B::l)=(if memN (base+i) ws then C else B)::mrgL base ws (i+1) G l:=oI rfl
theorem Y5e (l:List AB) (n:Nat):(h++l).drop (h.length+n)=l.drop n:=by
 rw[List.drop_append,List.drop_eq_nil_of_le (by omega),List.nil_append,Nat.add_sub_cancel_left]
theorem ZCL (l:List AB) (n:Nat):(h++l).getD (h.length+n) .dead=l.getD n .dead:=by
 rw[List.getD_eq_getElem?_getD,List.getElem?_append_right (by omega),Nat.add_sub_cancel_left,List.getD_eq_getElem?_getD]
theorem XV2 (B:AB) (l:List AB):(B::l).getD 0 .dead=B:=oI rfl
theorem JTZ (B:AB) (l:List AB) (n:Nat):(B::l).getD (n+1) .dead=l.getD n .dead:=by simp
theorem Kvx (hh:HOk h) (l:List AB):HOk (h++l)=((l.all fun B=>B.ok (fun i=>decide (i<h.length+l.length)))=true):=by
 refine propext ⟨fun q=>List.all_eq_true.2 fun B hB=>?_,fun q i B hB=>?_⟩
 ·obtain ⟨j,hj⟩:=List.mem_iff_getElem?.1 hB
  have:=q (h.length+j) B (by rw[List.getElem?_append_right (by omega),Nat.add_sub_cancel_left];exact hj)
  rw[List.length_append]at this
  exact this
 ·rw[List.length_append]
  rw[List.getElem?_append]at hB
  split at hB
  ·exact AB.ok_mono (fun i hi=>by simp only[decide_eq_true_eq]at hi ⊢;omega) B (hh i B hB)
  ·exact List.all_eq_true.1 q B (List.mem_of_getElem? hB)
theorem qtA (q:Nat->Bool) (m:Bool) (xs:List AV):(AB.blk true m xs).ok q=true:=oI rfl
theorem JEZ (q:Nat->Bool) (m:Bool) (xs:List AV):(AB.blk false m xs).ok q=okL q xs:=oI rfl
theorem zZV (q:Nat->Bool):AB.dead.ok q=true:=oI rfl
theorem ok_i (q:Nat->Bool) (k:IntKind) (n:Int):(AV.i k n).ok q=true:=by simp [AV.ok]
theorem ok_b (q:Nat->Bool) (x:Bool):(AV.b x).ok q=true:=by simp [AV.ok]
theorem ok_s (q:Nat->Bool) (x:List UInt8):(AV.s x).ok q=true:=by simp [AV.ok]
theorem KE7 (q:Nat->Bool):AV.ns.ok q=true:=by simp [AV.ok]
theorem YXH (q:Nat->Bool):AV.np.ok q=true:=by simp [AV.ok]
theorem qlx (q:Nat->Bool):AV.nf.ok q=true:=by simp [AV.ok]
theorem ok_p (q:Nat->Bool) (id o:Nat):(AV.p id o).ok q=q id:=by simp [AV.ok]
theorem ok_y (q:Nat->Bool) (id:Nat):(AV.y id).ok q=q id:=by simp [AV.ok]
theorem YJG (q:Nat->Bool) (id o n c:Nat) (k:Option Nat) (hq:q id=true):(AV.sl id o n c k).ok q=true:=by simp [AV.ok,hq]
theorem ok_f (q:Nat->Bool) (f:Fn) (a b:List AV):(AV.f f a b).ok q=(okL q a&&okL q b):=by simp [AV.ok]
theorem JL2 (q:Nat->Bool) (l:List AV):(AV.ag l).ok q=okL q l:=by simp [AV.ok]
theorem Zlu (q:Nat->Bool) (l:List AV):(AV.tu l).ok q=okL q l:=by simp [AV.ok]
theorem q0E (q:Nat->Bool):okL q []=true:=by simp [okL]
theorem ZiP (q:Nat->Bool) (a:AV) (l:List AV):okL q (a::l)=(a.ok q&&okL q l):=by simp [okL]
theorem ztr (n:Nat):nthA fr n=pl fr n:=by rw[<-ZRE,QCq]
theorem XQn (a b c:Nat):(a+b<a+c)=(b<c):=propext (by omega)
theorem JWu (a b c:Nat):(a+b<=a+c)=(b<=c):=propext (by omega)
theorem J6L (a b c:Nat):(a+b=a+c)=(b=c):=propext (by omega)
theorem qpA (a:Nat):(a<0)=False:=eq_false (by omega)
theorem ZVf (a:Nat):(0<=a)=True:=eq_true (by omega)
theorem KJU (a b:Nat):(a<=a+b)=True:=eq_true (by omega)
theorem Z7g {α:Type} (p:α->Bool):([]:List α).any p=false:=oI rfl
theorem any_cons {α:Type} (p:α->Bool) (a:α) (l:List α):(a::l).any p=(p a||l.any p):=oI rfl
theorem YBg (id o:Nat):idOf (.p id o)=[id]:=oI rfl
theorem JmK (id o n c:Nat) (k:Option Nat):idOf (.sl id o n c k)=[id]:=oI rfl
theorem KrO:idOf .ns=[]:=oI rfl
theorem qIm (f:Opd) (args:List Opd):wsC T (Opd.ev fr) (.call f args)=match f.ev fr with
  | .f (.func g) fst cap=>T.fns.ws g (fst++args.map (Opd.ev fr)++cap)
  | .y id=>T.rds.ws id (args.map (Opd.ev fr))
  | _=>[]:=rfl
theorem qHh (n:Option Nat) (x v:Opd):wsC T (Opd.ev fr) (.st n x v)=idOf (x.ev fr):=oI rfl
theorem Jqm (a b:Bool) (n m:Nat) (s x:Opd):wsC T (Opd.ev fr) (.app a b n m s x)=idOf (s.ev fr):=oI rfl
theorem Kf1 (fl:Bool) (zs:List AV):wsC T (Opd.ev fr) (.new fl zs)=[]:=oI rfl
theorem YbB (fl:Bool) (n:Nat) (x:Opd):wsC T (Opd.ev fr) (.box fl n x)=[]:=oI rfl
theorem K7s (fl:Bool) (n:Nat) (zs:List AV) (ps:List (Nat×Nat×Opd)):wsC T (Opd.ev fr) (.bls fl n zs ps)=[]:=oI rfl
theorem ZRZ (fl:Bool) (z:List AV) (n:Nat) (a b:Opd):wsC T (Opd.ev fr) (.mks fl z n a b)=[]:=oI rfl
theorem Z7H {a}:(CO.mv a).mk=.free:=oI rfl
theorem KDB {a b c}:(CO.pick a b c).mk=.free:=oI rfl
theorem zHJ {a b c}:(CO.bin a b c).mk=.free:=oI rfl
theorem X5b {a b c}:(CO.eqb a b c).mk=.free:=oI rfl
theorem J4q {a b c d}:(CO.eqc a b c d).mk=.free:=oI rfl
theorem ZyQ {a b c}:(CO.eqn a b c).mk=.free:=oI rfl
theorem Kct {a b}:(CO.un a b).mk=.free:=oI rfl
theorem ZCW {a b}:(CO.cvi a b).mk=.free:=oI rfl
theorem KoE {a}:(CO.cvs a).mk=.free:=oI rfl
theorem JrK {a b}:(CO.fad a b).mk=.free:=oI rfl
theorem qrO {a b c}:(CO.fld a b c).mk=.free:=oI rfl
theorem zNi {a b c}:(CO.iad a b c).mk=.free:=oI rfl
theorem ZWG {a b c d}:(CO.iaa a b c d).mk=.free:=oI rfl
theorem JLV {a b}:(CO.ixs a b).mk=.free:=oI rfl
theorem JlY {a b c d e}:(CO.ixa a b c d e).mk=.free:=oI rfl
theorem XYK {a b c}:(CO.sls a b c).mk=.free:=oI rfl
theorem X66 {a b c d e}:(CO.sll a b c d e).mk=.free:=oI rfl
theorem Juu {a b c d e f}:(CO.sla a b c d e f).mk=.free:=oI rfl
theorem Yp9 {a b}:(CO.ifc a b).mk=.free:=oI rfl
theorem QdM {a b c}:(CO.mkf a b c).mk=.free:=oI rfl
theorem ZXI {a b}:(CO.ext a b).mk=.free:=oI rfl
theorem JGt {a b}:(CO.len a b).mk=.free:=oI rfl
theorem KfV {a}:(CO.lnc a).mk=.free:=oI rfl
theorem qel {a b c}:(CO.mm a b c).mk=.free:=oI rfl
theorem J3X {a}:(CO.nck a).mk=.free:=oI rfl
theorem Jlk {a b c d}:(CO.tas a b c d).mk=.free:=oI rfl
theorem Y3i {a b}:(CO.bld a b).mk=.free:=oI rfl
theorem JcZ {a}:(CO.capo a).mk=.free:=oI rfl
theorem qxG {a b}:(CO.new a b).mk=.mem:=oI rfl
theorem K71 {a b c}:(CO.box a b c).isM=true:=oI rfl
theorem zTm {a b c d}:(CO.bls a b c d).isM=true:=oI rfl
theorem JLn {a b c d e}:(CO.mks a b c d e).isM=true:=oI rfl
theorem Q7a {a b c d e f}:(CO.app a b c d e f).isM=true:=oI rfl
theorem Zzz {a b c d}:(CO.cpy a b c d).isM=true:=oI rfl
theorem KmZ {a b c d e}:(CO.apz a b c d e).isM=true:=oI rfl
theorem Yfa {a}:(CO.b2s a).isM=true:=oI rfl
theorem zt9 {a b}:(CO.clr a b).isM=true:=oI rfl
theorem Zeq {a b}:(CO.bcmp a b).isM=true:=oI rfl
theorem XMW {a b c}:(CO.st a b c).isM=true:=oI rfl
theorem Zgz {α:Type} (l:List α):[]++l=l:=oI rfl
theorem YaO {α:Type} (a:α) (l l':List α):(a::l)++l'=a::(l++l'):=oI rfl
theorem Ys6 {α β:Type} (f:α->List β):[].flatMap f=[]:=by simp
theorem KJW {α β:Type} (f:α->List β) (a:α) (l:List α):(a::l).flatMap f=f a++l.flatMap f:=by simp
theorem FnAt.frz {P:Program} {g:Nat} {args:List AV} {h:List AB} {a:AV} {new:List AB} (e:∀_:(h.map AB.freeze).map AB.freeze=h.map AB.freeze,FnAt P g args (h.map AB.freeze) a (h.map AB.freeze++new)):FnAt P g args h a (h++new):=by
 have ff:∀B:AB,B.freeze.freeze=B.freeze:=fun B=>by cases B <;> rfl
 have hz:(h.map AB.freeze).map AB.freeze=h.map AB.freeze:=by rw[List.map_map];congr 1;funext B;exact ff B
 obtain ⟨fn,cf,hf,hc,am⟩:=e hz
 refine ⟨fn,cf,hf,hc,?_⟩
 intro ρ w tmps items b cs rs hfn hk hro hpl hi hv hr hmk
 have gM:∀(i:Nat) B,(h.map AB.freeze)[i]?=some B->∃C,h[i]?=some C/\B=C.freeze:=fun i B hB=>by
  rw[List.getElem?_map]at hB
  obtain ⟨C,hC,rfl⟩:=Option.map_eq_some_iff.1 hB
  exact ⟨C,hC,rfl⟩
 have nm:∀C:AB,C.freeze.mut=false:=fun C=>by cases C <;> rfl
 have lv:∀C:AB,C.freeze.live=true->C.live=true:=fun C hl=>by cases C <;> first|rfl|cases hl
 have hrM:Rel (KC P) ρ (h.map AB.freeze) w:=⟨by rw[hr.len,List.length_map],fun i B b o n h1 h2=>by
  obtain ⟨C,hC,rfl⟩:=gM i B h1
  exact (hr.blk i C b o n hC h2).le (.inr (.inl rfl)),fun i j bi oi bj oj Bi Bj hne h1 h2 h3 h4 hm hl=>by
  obtain ⟨C,hC,rfl⟩:=gM i Bi h1
  rw[nm]at hm
  exact (Bool.false_ne_true hm).elim,hr.gl.sub fun b hb=>by
  obtain ⟨i,B,o,h1,h2,_⟩:=hb
  obtain ⟨C,_,rfl⟩:=gM i B h1
  rw[nm]at h2
  cases h2⟩
 have noOwn:∀b,¬Own ρ (h.map AB.freeze) b:=fun b ⟨i,B,o,h1,h2,_⟩=>by
  obtain ⟨C,_,rfl⟩:=gM i B h1
  rw[nm]at h2
  cases h2
 have atM:∀i b,At ρ (h.map AB.freeze) i b->At ρ h i b:=fun i b ⟨B,o,h1,h2,h3⟩=>by
  obtain ⟨C,hC,rfl⟩:=gM i B h1
  exact ⟨C,o,hC,lv C h2,h3⟩
 have hmk':Marks ρ (h.map AB.freeze) w rs:=⟨hmk.1,fun r hr'=>⟨(hmk.2 r hr').1,fun i ha=>(hmk.2 r hr').2 i (atM i r ha)⟩⟩
 rw[List.length_map]at am
 refine (am ρ w tmps items b cs rs hfn hk hro (by rw[List.length_map];exact Nat.le_refl _) hi hv hrM hmk').mono ?_
 rintro v w' ⟨a0,G0,ρ1,⟨rfl,rfl⟩,hva,r1,q4⟩
 have l1:ρ1.length=h.length+new.length:=by rw[r1.len,List.length_append,List.length_map]
 have sm:∀(i:Nat) B b (on:Nat×Nat),h[i]?=some B->B.live=true->ρ[i]?=some (b,on)->w'.heap[b]?=w.heap[b]?:=fun i B b on hB hl hb =>
  q4.keep b ((hr.blk i B b on.1 on.2 hB hb).lt hl) (noOwn b) (fun hx=>(hmk.2 b hx).2 i ⟨B,on,hB,hl,hb⟩)
 have cls:∀(i:Nat) B x,(h++new)[i]?=some B->ρ1[i]?=some x->(i<h.length/\h[i]?=some B/\ρ[i]?=some x)\/(h.length<=i/\(h.map AB.freeze++new)[i]?=some B):=fun i B x hB hx=>by
  rw[List.getElem?_append]at hB
  split at hB
  ·rename_i hlt
   exact .inl ⟨hlt,hB,by rw[<-q4.fix i hlt];exact hx⟩
  ·rename_i hge
   refine .inr ⟨by omega,?_⟩
   rw[List.getElem?_append_right (by rw[List.length_map];omega),List.length_map]
   exact hB
 have extN:∀(i:Nat),i<ρ.length->ρ1[i]?=ρ[i]?:=fun i hi=>q4.fix i (by rw[<-hr.len];exact hi)
 have ext:Ext ρ ρ1:=fun i x hx=>by
  rw[extN i (List.getElem?_eq_some_iff.1 hx).1]
  exact hx
 have newB:∀(i:Nat) B b (on:Nat×Nat),h.length<=i->(h.map AB.freeze++new)[i]?=some B->B.live=true->ρ1[i]?=some (b,on)->(∃j,h.length<=j/\At ρ (h.map AB.freeze) j b)\/w.heap.size<=b:=fun i B b on hge hB hl hb=>by
  rcases q4.acc i b ⟨B,on,hB,hl,hb⟩ with ⟨j,z,_,z2⟩|z|z
  ·exact .inl ⟨j,z2 hge,z⟩
  ·exact absurd z (noOwn b)
  ·exact .inr z
 have newB':∀(i:Nat) B b (on:Nat×Nat),h.length<=i->(h.map AB.freeze++new)[i]?=some B->B.live=true->ρ1[i]?=some (b,on)->w.heap.size<=b:=fun i B b on hge hB hl hb=>by
  rcases newB i B b on hge hB hl hb with ⟨j,hj,C,o,h1,_,_⟩|z
  ·have:=(List.getElem?_eq_some_iff.1 h1).1
   rw[List.length_map]at this
   omega
  ·exact z
 have ownF:∀b,Own ρ1 (h++new) b->Own ρ h b\/w.heap.size<=b:=fun b ⟨i,B,o,h1,h2,h3⟩=>by
  rcases cls i B _ h1 h3 with ⟨hi,g1,g2⟩|⟨hi,g1⟩
  ·exact .inl ⟨i,B,o,g1,h2,g2⟩
  ·exact .inr (newB' i B b o hi g1 (AB.live_of_mut h2) h3)
 refine ⟨_,h++new,ρ1,⟨rfl,rfl⟩,hva,⟨by rw[l1,List.length_append],fun i B b o n h1 h2=>?_,fun i j bi oi bj oj Bi Bj hne h1 h2 h3 h4 hm hl=>?_,
  hr.gl.keepC q4.size (fun b cs' e' fz hb hn hc=>(q4.keep b hb (noOwn b) (fun hx=>by rw[(hmk.2 b hx).1]at hc;cases hc)).trans hc) ownF⟩,q4.os,q4.tape,q4.output,q4.size,fun b hb hn hx=>q4.keep b hb (noOwn b) hx,ownF,fun i b ⟨B,o,h1,h2,h3⟩=>?_,q4.fix⟩
 ·rcases cls i B _ h1 h2 with ⟨hi,g1,g2⟩|⟨hi,g1⟩
  ·exact (hr.blk i B b o n g1 g2).same ext (fun hl=>sm i B b (o,n) g1 hl g2)
  ·exact r1.blk i B b o n g1 h2
 ·rcases cls i Bi _ h1 h3 with ⟨hi,g1,g2⟩|⟨hi,g1⟩
  ·rcases cls j Bj _ h2 h4 with ⟨hj,k1,k2⟩|⟨hj,k1⟩
   ·exact hr.sep i j bi oi bj oj Bi Bj hne g1 k1 g2 k2 hm hl
   ·have:=newB' j Bj bj oj hj k1 hl h4
    have:=(hr.blk i Bi bi oi.1 oi.2 g1 g2).lt (AB.live_of_mut hm)
    omega
  ·rcases cls j Bj _ h2 h4 with ⟨hj,k1,k2⟩|⟨hj,k1⟩
   ·have:=newB' i Bi bi oi hi g1 (AB.live_of_mut hm) h3
    have:=(hr.blk j Bj bj oj.1 oj.2 k1 k2).lt hl
    omega
   ·exact r1.sep i j bi oi bj oj Bi Bj hne g1 k1 h3 h4 hm hl
 ·rcases cls i B _ h1 h3 with ⟨hi,g1,g2⟩|⟨hi,g1⟩
  ·exact .inl ⟨i,⟨B,o,g1,h2,g2⟩,fun _=>rfl,fun z=>z⟩
  ·exact .inr (.inr (newB' i B b o hi g1 h2 h3))
theorem FnAt.frz0 {P:Program} {g:Nat} {args:List AV} {h:List AB} {a:AV} (e:∀_:(h.map AB.freeze).map AB.freeze=h.map AB.freeze,FnAt P g args (h.map AB.freeze) a (h.map AB.freeze)):FnAt P g args h a h:=by
 have:=FnAt.frz (P:=P) (g:=g) (args:=args) (h:=h) (a:=a) (new:=[]) fun hz=>by rw[List.append_nil];exact e hz
 rw[List.append_nil]at this
 exact this
theorem Rd.frz {α:Type} {r:Row α} {s:AV} {l:List α} (e:Rd r h s l):Rd r (h.map AB.freeze) s l:=by
 refine ⟨?_,e.2⟩
 have:=e.1
 cases s with
 | sl id off len cap k =>
  simp only[rdS]at this ⊢
  rw[<-this]
  have hb:zZU (h.map AB.freeze) id=zZU h id:=by
   unfold zZU
   rw[List.getElem?_map]
   cases hx:h[id]? with
   | none=>rfl
   | some B=>cases B <;> rfl
  rw[hb]
 | ns=>exact this
 | se=>exact this
 | _=>cases this
end
end
section
open Go.RowKit
def tp (n:Nat):List AV:=List.replicate n .top
theorem tp_0:tp 0=[]:=oI rfl
theorem tp_s (n:Nat):tp (n+1)=.top::tp n:=oI rfl
theorem Xof:WkL [] []=True:=oI rfl
theorem Yhh (a' a:AV) (l' l:List AV):WkL (a'::l') (a::l)=(Wk a' a/\WkL l' l):=oI rfl
theorem zBr (a:AV):Wk .top a=True:=eq_true (Wk.top a)
theorem J8z (a:AV):Wk a a=True:=eq_true (Wk.refl a)
section
variable {c:Ctx} {k:List IT} {fr:List AV} {h:List AB}
def zWw {S:Type} (c:Ctx) (μ:S->Nat) (F:S->List AV) (H:S->List AB) (Inv:S->Prop) (s:S) (fr:List AV) (h:List AB):Prop:=∃s',Inv s'/\μ s'<μ s/\Bt c.P c.p fr h (F s') (H s')
theorem JLk {S:Type} {a:CC} (μ:S->Nat) (F:S->List AV) (H:S->List AB) (Inv:S->Prop) (s0:S) (h0:Inv s0) (hg:Bt c.P c.p fr h (F s0) (H s0))
  (hs:∀s,Inv s->W c (.code a::.lpe (zWw c μ F H Inv s)::k) (F s) (H s)):W c (.code (.loop a)::k) fr h:=by
 refine Ywz (fun n fr h=>∃s,Inv s/\μ s=n/\fr=F s/\h=H s) (μ s0) (F s0) (H s0) hg ⟨s0,h0,rfl,rfl,rfl⟩ fun n fr h hI=>?_
 obtain ⟨s,hi,rfl,rfl,rfl⟩:=hI
 have e:zWw c μ F H Inv s=Back c (fun n fr h=>∃s,Inv s/\μ s=n/\fr=F s/\h=H s) (μ s):=by
  funext fr h
  refine propext ⟨fun ⟨s',q1,q2,q3⟩=>⟨μ s',F s',H s',q2,q3,s',q1,rfl,rfl,rfl⟩,fun ⟨m,fr',h',q2,q3,s',q1,e1,e2,e3⟩=>?_⟩
  subst e1 e2 e3
  exact ⟨s',q1,q2,q3⟩
 rw[<-e]
 exact hs s hi
theorem ZDF {S:Type} {a:CC} (μ:S->Nat) (F:S->List AV) (Inv:S->Prop) (s0:S) (h0:Inv s0) (hg:WkL (F s0) fr)
  (hs:∀s,Inv s->W c (.code a::.lpe (fun fr' h'=>h'=h/\∃s',Inv s'/\μ s'<μ s/\WkL (F s') fr')::k) (F s) h):W c (.code (.loop a)::k) fr h:=by
 refine JLk μ F (fun _=>h) Inv s0 h0 (Bt.wk hg) fun s hi=>?_
 have:=hs s hi
 simp only[W,Lv_n,IT.wp]at this ⊢
 refine Qqo (fun hk e=>Ytf _ hk e) _ ?_ this
 intro x fr' h' q
 cases x with
 | n =>
  obtain ⟨rfl,s',q1,q2,q3⟩:=q
  exact ⟨s',q1,q2,Bt.wk q3⟩
 | x i=>exact q
 | r=>exact q
end
end
end Go.Proofs.YtekeoichmdiiiaaGreat
