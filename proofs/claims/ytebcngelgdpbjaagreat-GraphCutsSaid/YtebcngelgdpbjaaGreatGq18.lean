/- Part 18 of what the laws' proofs rest on. No condition. -/
import Derived.Test.YtebcngelgdpbjaaGreatGq17
set_option linter.all false
namespace Go.Proofs.YtebcngelgdpbjaaGreat
section
section
variable {α:Type} {r:Row α} {h l:List AB}
def mskQ (base c anc:Nat) (past:List Pt) (l:List AB):List AB:=mskL base c anc past [] 0 l
def vis (base c anc:Nat) (past:List Pt) (k:Nat):Bool:=decide (k<c)||past.any (fun p=>bit p.k anc&&decide (p.lo<=base+k)&&decide (base+k<p.hi))
theorem JA5 (base c anc:Nat) (past:List Pt) (k:Nat):qOk (base+c) 0 0 anc past (base+k)=vis base c anc past k:=by
 rw[YV0]
 unfold vis
 have e1:decide (base+k<base+c)=decide (k<c):=decide_eq_decide.2 (by omega)
 have e2:decide (base+k<0)=false:=decide_eq_false (by omega)
 rw[e1,e2,Bool.and_false,Bool.or_false]
theorem XNU (base c anc:Nat) (past:List Pt) (l:List AB) (k:Nat):(mskQ base c anc past l)[k]?=(l[k]?).map fun B=>if vis base c anc past k=true then B.freeze else .dead:=by
 unfold mskQ
 rw[Q69,Nat.zero_add]
 congr 1
 funext B
 rw[JA5]
 simp [ZCV]
theorem qsJ (base c anc:Nat) (past:List Pt) (l:List AB):(mskQ base c anc past l).length=l.length:=by
 rcases Nat.lt_trichotomy (mskQ base c anc past l).length l.length with q|q|q
 ·have:=XNU base c anc past l (mskQ base c anc past l).length
  rw[List.getElem?_eq_none (Nat.le_refl _),List.getElem?_eq_getElem q]at this
  cases this
 ·exact q
 ·have:=XNU base c anc past l l.length
  rw[List.getElem?_eq_none (Nat.le_refl _),List.getElem?_eq_getElem q]at this
  cases this
theorem qxz (L:List AB) (k:Nat):ownC L k=match L[k]? with
  | some (.blk _ _ xs)=>some xs
  | _=>none:=by rw[<-XDe];rfl
theorem qLz {base c anc:Nat} {past:List Pt} {k:Nat} (hv:vis base c anc past k=true):ownC (mskQ base c anc past l) k=ownC l k:=by
 rw[qxz,qxz,XNU]
 cases l[k]? with
 | none=>rfl
 | some B=>simp only[Option.map_some,hv,if_true];cases B <;> rfl
theorem z33 {base c anc:Nat} {past:List Pt} {k:Nat} (hv:vis base c anc past k=true):bxL (mskQ base c anc past l) k=bxL l k:=by
 rw[<-z8s,<-z8s]
 unfold bxS
 rw[XNU]
 cases l[k]? with
 | none=>rfl
 | some B =>
  simp only[Option.map_some,hv,if_true]
  cases B with
  | blk fl m xs=>cases fl <;> (cases xs with|nil=>rfl|cons a t=>cases t <;> rfl)
  | _=>rfl
theorem KI4 (x:List α):∀(L:List AB) (k:Nat),ownR r x L k↔∃m,L[k]?=some (resB r m x)
 | [],k=>by simp [ownR]
 | B::L,0=>by simp [ownR]
 | B::L,k+1=>by simpa [ownR] using KI4 x L k
theorem zkY {base c anc:Nat} {past:List Pt} {k:Nat} (x:List α) (hv:vis base c anc past k=true) (hr:ownR r x l k):ownR r x (mskQ base c anc past l) k=True:=by
 refine eq_true ?_
 rw[KI4]at hr ⊢
 obtain ⟨m,e⟩:=hr
 exact ⟨false,by rw[XNU,e,Option.map_some,if_pos hv,K96]⟩
theorem QqT (hz:h.map AB.freeze=h) (c anc n:Nat) (past:List Pt) (l:List AB) (hn:n=h.length+l.length):XWo (seen (h.length+c) anc past n) [] 0 (h++l)=h++mskQ h.length c anc past l:=qDR hz c anc n past [] l hn rfl
theorem qNP (hz:h.map AB.freeze=h) (anc n:Nat) (past:List Pt) (l:List AB) (hn:n=h.length+l.length):XWo (seen h.length anc past n) [] 0 (h++l)=h++mskQ h.length 0 anc past l:=qDR hz 0 anc n past [] l hn rfl
theorem Ygl (hz:h.map AB.freeze=h) (c anc n:Nat) (past:List Pt) (w0:Nat) (ws:List Nat) (l:List AB) (hn:n=h.length+l.length) (hw:((w0::ws).all fun id=>decide (h.length<=id))=true):XWo (seen (h.length+c) anc past n) (w0::ws) 0 (h++l)=h++mskL h.length c anc past (w0::ws) 0 l:=qDR hz c anc n past (w0::ws) l hn hw
theorem oW {h:List AB} (hh:HOk h) (hz:h.map AB.freeze=h):(∀l:List AB,HOk (h++l)=((l.all fun B=>B.ok (fun i=>decide (i<h.length+l.length)))=true))/\(∀(c anc n:Nat) (past:List Pt) (w0:Nat) (ws:List Nat) (l:List AB),n=h.length+l.length->((w0::ws).all fun id=>decide (h.length<=id))=true->XWo (seen (h.length+c) anc past n) (w0::ws) 0 (h++l)=h++mskL h.length c anc past (w0::ws) 0 l)/\(∀(c anc n:Nat) (past:List Pt) (l:List AB),n=h.length+l.length->XWo (seen (h.length+c) anc past n) [] 0 (h++l)=h++mskQ h.length c anc past l)/\(∀(anc n:Nat) (past:List Pt) (l:List AB),n=h.length+l.length->XWo (seen h.length anc past n) [] 0 (h++l)=h++mskQ h.length 0 anc past l):=And.intro (XUr hh) ⟨Ygl hz,QqT hz,qNP hz⟩
theorem ZAY (G x l:List AB) (hG:G.length=l.length):ZWL [] (h++(G++x)) 0 (h++l)=h++(l++x):=by
 rw[Zzr [] (G++x) l rfl]
 congr 1
 refine List.ext_getElem? fun j=>?_
 rw[qEn]
 by_cases hj:j<l.length
 ·rw[if_pos hj,if_neg (by simp),List.getElem?_append_left hj]
 ·rw[if_neg hj,List.getElem?_append_right (by omega),List.getElem?_append_right (by omega),hG]
def qP (anc:Nat):List Pt->Nat->Bool
 | [],_=>false
 | ⟨k,lo,hi,_,_⟩::l,id=>if lo<=id/\id<hi then (if anc / 2 ^ k % 2=1 then true else qP anc l id) else qP anc l id
theorem XeH (anc id:Nat):qP anc [] id=false:=oI rfl
theorem Xkm (anc k lo hi:Nat) (rs ws:List Nat) (l:List Pt) (id:Nat):qP anc (⟨k,lo,hi,rs,ws⟩::l) id=if lo<=id/\id<hi then (if anc / 2 ^ k % 2=1 then true else qP anc l id) else qP anc l id:=oI rfl
theorem Q2E (anc id:Nat):∀past:List Pt,qP anc past id=past.any fun p=>bit p.k anc&&decide (p.lo<=id)&&decide (id<p.hi)
 | []=>rfl
 | ⟨k,lo,hi,rs,ws⟩::l=>by
  rw[Xkm,List.any_cons,Q2E anc id l,Zdn]
  by_cases h1:lo<=id <;> by_cases h2:id<hi <;> by_cases h3:anc / 2 ^ k % 2=1 <;> simp [h1,h2,h3]
theorem Yl8 (len0 lo hi anc:Nat) (past:List Pt) (id:Nat):qOk len0 lo hi anc past id=if id<len0 then true else if lo<=id/\id<hi then true else qP anc past id:=by
 rw[YV0,Q2E]
 by_cases h1:id<len0 <;> by_cases h2:lo<=id <;> by_cases h3:id<hi <;> simp [h1,h2,h3]
theorem Q60 (base c anc:Nat) (past:List Pt) (k:Nat):vis base c anc past k=if k<c then true else qP anc past (base+k):=by
 unfold vis
 rw[Q2E]
 by_cases h1:k<c <;> simp [h1]
def sepA (anc lo hi:Nat):List Pt->Bool
 | []=>true
 | ⟨k,lo',hi',_,_⟩::l=>if hi'<=lo\/hi<=lo' then sepA anc lo hi l else if anc / 2 ^ k % 2=1 then false else sepA anc lo hi l
theorem Y3h (anc lo hi:Nat):sepA anc lo hi []=true:=oI rfl
theorem YbN (anc lo hi k lo' hi':Nat) (rs ws:List Nat) (l:List Pt):sepA anc lo hi (⟨k,lo',hi',rs,ws⟩::l)=if hi'<=lo\/hi<=lo' then sepA anc lo hi l else if anc / 2 ^ k % 2=1 then false else sepA anc lo hi l:=oI rfl
theorem zQE (anc lo hi:Nat):∀past:List Pt,sepA anc lo hi past=past.all fun p'=>!bit p'.k anc||decide (p'.hi<=lo)||decide (hi<=p'.lo)
 | []=>rfl
 | ⟨k,lo',hi',rs,ws⟩::l=>by
  rw[YbN,List.all_cons,zQE anc lo hi l,Zdn]
  by_cases h1:hi'<=lo <;> by_cases h2:hi<=lo' <;> by_cases h3:anc / 2 ^ k % 2=1 <;> simp [h1,h2,h3]
def indA (len0 anc:Nat) (past0:List Pt) (ws0:List Nat):List Pt->Bool
 | []=>true
 | ⟨k,lo,hi,rs,ws⟩::l=>if anc / 2 ^ k % 2=1 then indA len0 anc past0 ws0 l else
   if (ws.all fun id=>!qOk len0 0 0 anc past0 id)=true then
    if hi<=lo\/(len0<=lo/\sepA anc lo hi past0=true) then
     if (ws0.all fun id=>!KjY ⟨k,lo,hi,rs,ws⟩ id && !memN id (rs++ws))=true then indA len0 anc past0 ws0 l else false
    else false
   else false
theorem qs5 (len0 anc:Nat) (past0:List Pt) (ws0:List Nat):indA len0 anc past0 ws0 []=true:=oI rfl
theorem Ja2 (len0 anc : Nat) (past0 : List Pt) (ws0 : List Nat) (k lo hi : Nat) (rs ws : List Nat) (l : List Pt) : indA len0 anc past0 ws0 (⟨k, lo, hi, rs, ws⟩ :: l) = if anc / 2 ^ k % 2 = 1 then indA len0 anc past0 ws0 l else
      if (ws.all fun id=>!qOk len0 0 0 anc past0 id)=true then
        if hi<=lo\/(len0<=lo/\sepA anc lo hi past0=true) then
          if (ws0.all fun id=>!KjY ⟨k,lo,hi,rs,ws⟩ id && !memN id (rs++ws))=true then indA len0 anc past0 ws0 l else false
        else false
      else false:=oI rfl
theorem XS0 (len0 anc:Nat) (past0:List Pt) (ws0:List Nat):∀past:List Pt,past.all (z5d len0 anc past0 ws0)=indA len0 anc past0 ws0 past
 | []=>rfl
 | ⟨k,lo,hi,rs,ws⟩::l=>by
  rw[Ja2,List.all_cons,XS0 len0 anc past0 ws0 l,q00,zQE,Zdn]
  by_cases h1:anc / 2 ^ k % 2=1
  ·simp [h1]
  ·simp only[h1,decide_false,Bool.false_or,if_false]
   generalize (ws.all fun id=>!qOk len0 0 0 anc past0 id)=a
   generalize (past0.all fun p'=>!bit p'.k anc||decide (p'.hi<=lo)||decide (hi<=p'.lo))=b
   generalize (ws0.all fun id=>!KjY ⟨k,lo,hi,rs,ws⟩ id && !memN id (rs++ws))=e
   by_cases h2:hi<=lo <;> by_cases h3:len0<=lo <;> cases a <;> cases b <;> cases e <;> simp [h2,h3]
def indL (anc:Nat) (rs:List Nat):List Pt->Bool
 | []=>true
 | ⟨k,lo,hi,rs',ws⟩::l=>if anc / 2 ^ k % 2=1 then indL anc rs l else
   if (rs.all fun id=>!KjY ⟨k,lo,hi,rs',ws⟩ id)=true then indL anc rs l else false
theorem KKF (anc:Nat) (rs:List Nat):indL anc rs []=true:=oI rfl
theorem qku (anc : Nat) (rs : List Nat) (k lo hi : Nat) (rs' ws : List Nat) (l : List Pt) : indL anc rs (⟨k, lo, hi, rs', ws⟩ :: l) = if anc / 2 ^ k % 2 = 1 then indL anc rs l else
      if (rs.all fun id=>!KjY ⟨k,lo,hi,rs',ws⟩ id)=true then indL anc rs l else false:=oI rfl
theorem Z32 (anc:Nat) (rs:List Nat):∀past:List Pt,past.all (K99 anc rs [])=indL anc rs past
 | []=>rfl
 | ⟨k,lo,hi,rs',ws⟩::l=>by
  rw[qku,List.all_cons,Z32 anc rs l]
  unfold K99
  rw[Zdn,List.append_nil]
  by_cases h1:anc / 2 ^ k % 2=1
  ·simp [h1]
  ·simp only[h1,decide_false,if_false,List.all_nil,Bool.and_true,Bool.false_eq_true]
   generalize (rs.all fun id=>!KjY ⟨k,lo,hi,rs',ws⟩ id)=a
   cases a <;> simp
variable {c:Ctx} {k:List IT} {fr:List AV} {len0 n anc:Nat} {past:List Pt} {d:Option Nat} {ops:List DOp}
theorem Zc0 (w0 : Nat) (ws : List Nat) (vs : List AV) (v : AV) (G : List AB) : W c (.dmk (w0 :: ws) vs (some (v, G)) len0 n anc past d ops :: k) fr h = (okL (fun i => decide (i < h.length)) vs = true ∧ HOk h ∧ indA len0 anc past (w0 :: ws) past = true ∧ ((w0 :: ws).all fun id => decide (id < h.length)) = true ∧ h.length ≤ G.length ∧ v.ok (qOk len0 h.length G.length anc past) = true ∧
      ((w0::ws).all fun id=>(G.getD id .dead).ok (qOk len0 h.length G.length anc past))=true/\((G.drop h.length).all fun B=>B.ok (qOk len0 h.length G.length anc past))=true /\
      W c (.drw len0 (n+1) (⟨n,h.length,G.length,seen len0 anc (JFV past) h.length,w0::ws⟩::past) ops::k) (put fr d v) (ZWL (w0::ws) G 0 h)):=by
  rw[<-XS0]
  exact Zbm (w0::ws) vs v G
theorem KGB (vs : List AV) (v : AV) (c0 anc' : Nat) (past' : List Pt) (x : List AB) : W c (.dmk [] vs (some (v, h ++ (mskQ h.length c0 anc' past' l ++ x))) len0 n anc past d ops :: k) fr (h ++ l) = (okL (fun i => decide (i < h.length + l.length)) vs = true ∧ HOk (h ++ l) ∧ indA len0 anc past [] past = true ∧ v.ok (qOk len0 (h.length + l.length) (h.length + (l.length + x.length)) anc past) = true ∧
      (x.all fun B=>B.ok (qOk len0 (h.length+l.length) (h.length+(l.length+x.length)) anc past))=true /\
      W c (.drw len0 (n+1) (⟨n,h.length+l.length,h.length+(l.length+x.length),seen len0 anc (JFV past) (h.length+l.length),[]⟩::past) ops::k) (put fr d v) (h++(l++x))):=by
  rw[<-XS0,Zbm,ZAY _ _ _ (qsJ _ _ _ _ _)]
  have e1:(h++l).length=h.length+l.length:=List.length_append
  have e2:(h++(mskQ h.length c0 anc' past' l++x)).length=h.length+(l.length+x.length):=by rw[List.length_append,List.length_append,qsJ]
  have e3:(h++(mskQ h.length c0 anc' past' l++x)).drop (h++l).length=x:=by
    rw[e1,YFs,List.drop_append_of_le_length (by rw[qsJ];exact Nat.le_refl _),List.drop_eq_nil_of_le (by rw[qsJ];exact Nat.le_refl _),List.nil_append]
  rw[e3,e2,e1]
  have e4:(h.length+l.length<=h.length+(l.length+x.length))=True:=eq_true (by omega)
  simp only[List.all_nil,e4,true_and]
theorem QkC (vs : List AV) (v : AV) (c0 anc' : Nat) (past' : List Pt) : W c (.dmk [] vs (some (v, h ++ mskQ h.length c0 anc' past' l)) len0 n anc past d ops :: k) fr (h ++ l) = (okL (fun i => decide (i < h.length + l.length)) vs = true ∧ HOk (h ++ l) ∧ indA len0 anc past [] past = true ∧ v.ok (qOk len0 (h.length + l.length) (h.length + l.length) anc past) = true ∧
      W c (.drw len0 (n+1) (⟨n,h.length+l.length,h.length+l.length,seen len0 anc (JFV past) (h.length+l.length),[]⟩::past) ops::k) (put fr d v) (h++l)):=by
  have:=KGB (c:=c) (k:=k) (fr:=fr) (len0:=len0) (n:=n) (anc:=anc) (past:=past) (d:=d) (ops:=ops) (h:=h) (l:=l) vs v c0 anc' past' []
  simpa only[List.append_nil,List.length_nil,Nat.add_zero,List.all_nil,true_and] using this
theorem Zpt (v:AV) (h':List AB) (x:AV):W c (.dld (some (v,h')) x len0 n anc past d ops::k) fr h=((if indA len0 anc past [] past=true then True else indL anc (idOf x) past=true)/\x.ok (qOk len0 0 0 anc past)=true/\v.ok (qOk len0 0 0 anc past)=true/\W c (.drw len0 (n+1) (⟨n,0,0,idOf x,[]⟩::past) ops::k) (put fr d v) h):=by
 rw[<-XS0,<-Z32]
 exact QAt v h' x
theorem z9l {n:Nat} (h:n<=1000000):(n<=maxLen)=True:=eq_true (by unfold maxLen;omega)
end
def KHD:=(And.intro (And.intro (And.intro (And.intro (And.intro (And.intro (And.intro @JnW @XGf) (And.intro @Qja @XfC)) (And.intro (And.intro @Q3L @zBQ) (And.intro @Kgs (And.intro @YYi @YHN)))) (And.intro (And.intro (And.intro @JWl @XvW) (And.intro @zAb (And.intro @XUU @KS9))) (And.intro (And.intro @XL3 @X2y) (And.intro @QOM (And.intro @KYl @Zpt))))) (And.intro (And.intro (And.intro (And.intro @YRc @XKY) (And.intro @J7f @qp6)) (And.intro (And.intro @YqO @zUe) (And.intro @ZjU (And.intro @J64 @KHC)))) (And.intro (And.intro (And.intro @qCY @KrI) (And.intro @JNA (And.intro @zFj @zqu))) (And.intro (And.intro @Jpj @KEM) (And.intro @ZJX (And.intro @qnu @z0m)))))) (And.intro (And.intro (And.intro (And.intro (And.intro @KwM @X9A) (And.intro @K6y @zCb)) (And.intro (And.intro @Zte @JyU) (And.intro @KAg (And.intro @Jtl @QaK)))) (And.intro (And.intro (And.intro @XLN @QP9) (And.intro @ZwL (And.intro @ZMF @Jzc))) (And.intro (And.intro @K9z @XDy) (And.intro @zEI (And.intro @zJy @KTU))))) (And.intro (And.intro (And.intro (And.intro @Z9l @Zmm) (And.intro @Z3D (And.intro @zKD @ZCV))) (And.intro (And.intro @XEq @z8e) (And.intro @Q4L (And.intro @Qm6 @Z3E)))) (And.intro (And.intro (And.intro @QGF @q9f) (And.intro @KfQ (And.intro @qJM @qOD))) (And.intro (And.intro @zRj @XBe) (And.intro @Jvy (And.intro @zPK @X6y))))))) (And.intro (And.intro (And.intro (And.intro (And.intro (And.intro @ok_i @ok_b) (And.intro @ok_s @qn9)) (And.intro (And.intro @Xlp @ZZY) (And.intro @ok_p (And.intro @ok_y @ZM3)))) (And.intro (And.intro (And.intro @ok_f @Y8y) (And.intro @Ztn (And.intro @Xrv @XDA))) (And.intro (And.intro @zNr @KbL) (And.intro @QlK (And.intro @zwZ @zCn))))) (And.intro (And.intro (And.intro (And.intro @zGb @JbL) (And.intro @QG4 (And.intro @any_cons @z1E))) (And.intro (And.intro @zAC @zWD) (And.intro @qaT (And.intro @KbN @Qpq)))) (And.intro (And.intro (And.intro @ZNP @QZP) (And.intro @Z8s (And.intro @JiY @Tab.ws_nil))) (And.intro (And.intro @Tab.ws_cons @decide_true) (And.intro @decide_false (And.intro @Bool.or_true @Bool.or_false)))))) (And.intro (And.intro (And.intro (And.intro (And.intro @Bool.true_or @Bool.false_or) (And.intro @Bool.not_true @Bool.not_false)) (And.intro (And.intro @JsZ @YrQ) (And.intro @zMA (And.intro @Z1h @zfn)))) (And.intro (And.intro (And.intro @JE2 @KKy) (And.intro @Xrp (And.intro @Yv9 @Qqp))) (And.intro (And.intro @Zc0 @KGB) (And.intro @QkC (And.intro @qLz @z33))))) (And.intro (And.intro (And.intro (And.intro @zkY @qsJ) (And.intro @Q60 (And.intro @XeH @Xkm))) (And.intro (And.intro @Yl8 @Y3h) (And.intro @YbN (And.intro @qs5 @Ja2)))) (And.intro (And.intro (And.intro @KKF @qku) (And.intro @and_self (And.intro @false_and @and_false))) (And.intro (And.intro @or_true @true_or) (And.intro @false_or (And.intro @or_false @z9l))))))))
end
section
def Qgj:=(And.intro (And.intro (And.intro @YBY @qsv) (And.intro @ZJ9 (And.intro @JXo @qLl))) (And.intro (And.intro @zCZ (And.intro @XAP @JFz)) (And.intro @JYq (And.intro @q21 @X01))))
end
section
variable {α:Type} {r:Row α} {h:List AB} {s:AV} {l:List α}
def AV.capOk:AV->Bool
 | .sl _ _ n c _=>decide (n<=c)
 | _=>true
theorem zKc (id:Nat) (l:List α):(rsl r id l).capOk=true:=by
 unfold rsl
 split <;> simp [AV.capOk]
end
section
open Go.RowKit
def AV.val:AV->Value
 | .b t=>.bool t
 | .i k n=>.int k n
 | .s l=>.string ⟨l.toArray⟩
 | _=>undef
def AV.fl:AV->Bool
 | .b _ | .i _ _ | .s _=>true
 | _=>false
theorem Ybm (ρ:Mp) {a:AV} (h:a.fl=true):VR ρ a a.val:=by
 cases a <;> first|(cases h;done)|skip
 ·exact .b _
 ·exact .i _ _
 ·exact .s _ _ rfl
theorem ZFP {ρ:Mp} {a:AV} {v:Value} (h:a.fl=true) (e:VR ρ a v):v=a.val:=by
 cases a <;> first|(cases h;done)|skip
 ·cases e;rfl
 ·cases e;rfl
 ·cases e with
  | s l bs hb=>subst hb;rfl
theorem YM6 (ρ:Mp):∀(l:List AV),(∀a∈l,a.fl=true)->VL ρ l (l.map AV.val).toArray
 | [],_=>VL.nil ρ
 | a::l,h=>VL.cons (Ybm ρ (h a (.head _))) (YM6 ρ l fun b hb=>h b (.tail _ hb))
theorem q2N {ρ:Mp} {l:List AV} {cs:Array Value} (h:VL ρ l cs):VR ρ (.ag l) (.agg cs):=.ag l cs h.1 h.2
structure In (K:Code->CC->Prop) (ρ:Mp) (h:List AB) (w:World):Prop where
 rel:Rel K ρ h w
 frz:∀B∈h,B.mut=false
variable {K:Code->CC->Prop} {ρ:Mp} {h:List AB} {w:World}
theorem In.nil (w:World):In K [] [] w:=⟨⟨rfl,fun i B b o n h=>by simp at h,fun i j bi oi bj oj Bi Bj _ h=>by simp at h,GL.nil (QRO w)⟩,fun B h=>by simp at h⟩
theorem In.push (r:In K ρ h w) {B:AB} {b o n:Nat} (hm:B.mut=false) (hB:BR K (ρ++[(b,o,n)]) w b o n B):In K (ρ++[(b,o,n)]) (h++[B]) w:=by
 have hf:∀C∈h++[B],C.mut=false:=fun C hC=>by
  rcases List.mem_append.1 hC with q|q
  ·exact r.frz C q
  ·rw[List.mem_singleton.1 q];exact hm
 refine ⟨⟨by simp [r.rel.len],fun i C b' o' n' h1 h2=>?_,fun i j bi oi bj oj Bi Bj _ h1 _ _ _ hm' _=>?_,r.rel.gl.sub fun b' ⟨i,C,o',h1,h2,_⟩=>by
  rw[hf C (List.mem_of_getElem? h1)]at h2
  cases h2⟩,hf⟩
 ·by_cases hi:i<h.length
  ·rw[List.getElem?_append_left hi]at h1
   rw[List.getElem?_append_left (by rw[r.rel.len];exact hi)]at h2
   exact (r.rel.blk i C b' o' n' h1 h2).same (Ext.push _ _) fun _=>rfl
  ·have hlt:=(List.getElem?_eq_some_iff.1 h1).1
   rw[List.length_append,List.length_singleton]at hlt
   have:i=h.length:=by omega
   subst this
   rw[List.getElem?_append_right (Nat.le_refl _),Nat.sub_self]at h1
   rw[List.getElem?_append_right (by rw[r.rel.len];exact Nat.le_refl _),r.rel.len,Nat.sub_self]at h2
   cases h1
   cases h2
   exact hB
 ·rw[hf Bi (List.mem_of_getElem? h1)]at hm'
  cases hm'
theorem In.slice {α:Type} {r:Row α} (i:In K ρ h w) {v:Value} {l:List α} (hfl:∀x,∀a∈r.f x,a.fl=true) (hs:Sl w v l.length ((r.cells l).map AV.val)) :
  l.length<=maxLen/\∃x,In K (ρ++[x]) (h++[resB r false l]) w/\VR (ρ++[x]) (rsl r h.length l) v:=by
 have hrl:=i.rel.len
 by_cases h0:l.length=0
 ·have:l=[]:=List.eq_nil_of_length_eq_zero h0
  subst this
  refine ⟨Nat.zero_le _,(0,0,0),i.push (by simp [resB,AB.mut]) (by simp [resB,BR]),?_⟩
  simp only[rsl,List.length_nil,if_true]
  rcases hs with ⟨⟨a,rfl⟩,_,_⟩|⟨b,off,cap,rfl,_,hc,_⟩
  ·exact .sz _ _ _ _ (Nat.zero_le _) fun _=>rfl
  ·exact .sz _ _ _ _ hc fun q=>by cases q
 ·rcases hs with ⟨_,q,_⟩|⟨b,off,cap,rfl,hlc,hc,hcells⟩
  ·exact absurd q h0
  ·have hlen:(r.cells l).length=l.length*r.sz:=r.cells_len l
   have hpos:0<l.length*r.sz:=Nat.mul_pos (by omega) r.pos
   have hall:∀a∈r.cells l,a.fl=true:=fun a ha=>by
    obtain ⟨x,_,hx⟩:=List.mem_flatMap.1 ha
    exact hfl x a hx
   have hat:∀k (hk:k<(r.cells l).length),w.cell? ⟨b,off+k,none⟩=some ((r.cells l)[k]).val:=fun k hk=>hcells k _ (by rw[List.getElem?_map,List.getElem?_eq_getElem hk];rfl)
   obtain ⟨cs,e,fz,hb⟩:∃cs e fz,w.heap[b]?=some (.cells cs e fz):=by
    have:=hat 0 (by omega)
    unfold World.cell? at this
    split at this
    ·rename_i c e fz hb
     exact ⟨c,e,fz,hb⟩
    ·cases this
   have hat':∀k (hk:k<(r.cells l).length),cs[off+k]?=some ((r.cells l)[k]).val:=fun k hk=>by
    have:=hat k hk
    unfold World.cell? at this
    rw[hb]at this
    simpa using this
   refine ⟨by omega,(b,off,off+cap*r.sz),i.push (by simp [resB,h0,AB.mut]) ?_,?_⟩
   ·simp only[resB,if_neg h0,BR]
    refine ⟨cs,e,fz,hb,(fun q=>by cases q),?_,fun k a c ha hc'=>?_⟩
    ·have:=(Array.getElem?_eq_some_iff.1 (hat' ((r.cells l).length-1) (by omega))).1
     omega
    ·have hk:=(List.getElem?_eq_some_iff.1 ha).1
     rw[hat' k hk]at hc'
     have:a=(r.cells l)[k]:=(List.getElem?_eq_some_iff.1 ha).2.symm
     subst this
     cases hc'
     exact Ybm _ (hall _ (List.getElem_mem hk))
   ·simp only[rsl,if_neg h0]
    exact .sl h.length 0 l.length l.length (some r.sz) b off (off+cap*r.sz) cap (by rw[<-hrl,List.getElem?_append_right (Nat.le_refl _),Nat.sub_self];rfl) (Nat.le_refl _) hlc hc (fun q=>by cases q) (fun z hz _=>by cases hz;exact Nat.le_refl _)
theorem KAv {P:Program} {g:Nat} {az:List AV} {vals:Array Value} {h':List AB} (i:In (KC P) ρ h w) (hv:VL ρ az vals) (e:FnC P g az h (.b true) h'):Calls P g vals w (fun e w'=>e=.returned (.bool true)/\Kept NoS w w'):=by
 refine (e.2 ρ w vals i.rel hv).mono ?_
 rintro e w' ⟨v',ρ',rfl,hva,_,heff⟩
 cases hva
 refine ⟨rfl,heff.os,heff.tape,heff.output.1,heff.size,fun b hb _=>heff.keep b hb fun ⟨j,B,o,h1,h2,_⟩=>?_⟩
 rw[i.frz B (List.mem_of_getElem? h1)]at h2
 cases h2
theorem zDi (x:Int):∀a∈intR.f x,a.fl=true:=fun a ha=>by simp [Zr0]at ha;subst ha;rfl
theorem KGc (x:Int×Int):∀a∈dotR.f x,a.fl=true:=fun a ha=>by simp [zBU]at ha;rcases ha with rfl|rfl <;> rfl
end
section
structure Dg where
 l:List UInt8
 h:l.length=32
deriving DecidableEq
def u8A (b:UInt8):AV:=.i .u8 (b.toNat:Int)
theorem Kku {a b:UInt8} (e:u8A a=u8A b):a=b:=by
 unfold u8A at e
 have e2:(a.toNat:Int)=(b.toNat:Int):=by
  injection e
 exact UInt8.toNat.inj (by omega)
theorem ZRQ {α β:Type} {f:α->β} (hf:∀a b,f a=f b->a=b):∀ {l l':List α},l.map f=l'.map f->l=l'
 | [],[],_=>rfl
 | [],_::_,e=>by simp at e
 | _::_,[],e=>by simp at e
 | a::l,b::l',e=>by
  simp only[List.map_cons,List.cons.injEq]at e
  rw[hf a b e.1,ZRQ hf e.2]
theorem Dg.ext {a b:Dg} (e:a.l=b.l):a=b:=by
 cases a;cases b
 cases e
 rfl
def KDO:Dg:=⟨List.replicate 32 0,by simp⟩
def idR:Row Dg:=⟨fun x=>x.l.map u8A,32,fun x=>by rw[List.length_map];exact x.h,by decide,KDO,fun x y e=>Dg.ext (ZRQ (fun a b=>Kku) e)⟩
theorem eqcB:∀(l l':List UInt8),l.length=l'.length->qN8 (List.replicate l.length .i) (l.map u8A) (l'.map u8A)=some (decide (l=l'))
 | [],[],_=>by simp [qN8]
 | [],_::_,e=>by simp at e
 | _::_,[],e=>by simp at e
 | a::l,b::l',e=>by
  simp only[List.length_cons,List.replicate_succ,List.map_cons,qN8,u8A,XC1,if_true,Option.bind_some]
  have ih:=eqcB l l' (by simpa using e)
  rw[ih,Option.map_some]
  congr 1
  have h1:((a.toNat:Int) == (b.toNat:Int))=decide (a=b):=by
   rw[Bool.eq_iff_iff]
   simp only[beq_iff_eq,decide_eq_true_eq]
   exact ⟨fun q=>UInt8.toNat.inj (by omega),fun q=>by rw[q]⟩
  rw[h1,Bool.eq_iff_iff]
  simp
theorem Qk1 (a b:Dg):qN8 [.i,.i,.i,.i,.i,.i,.i,.i,.i,.i,.i,.i,.i,.i,.i,.i,.i,.i,.i,.i,.i,.i,.i,.i,.i,.i,.i,.i,.i,.i,.i,.i] (idR.f a) (idR.f b)=some (decide (a=b)):=by
 have:=eqcB a.l b.l (a.h.trans b.h.symm)
 rw[a.h]at this
 refine (show qN8 [.i,.i,.i,.i,.i,.i,.i,.i,.i,.i,.i,.i,.i,.i,.i,.i,.i,.i,.i,.i,.i,.i,.i,.i,.i,.i,.i,.i,.i,.i,.i,.i] (idR.f a) (idR.f b)=some (decide (a.l=b.l)) from this).trans ?_
 congr 1
 exact decide_eq_decide.2 ⟨Dg.ext,fun q=>by rw[q]⟩
theorem QsZ (q:Nat->Bool):∀l:List UInt8,okL q (l.map u8A)=true
 | []=>by simp [okL]
 | a::l=>by simp [okL,u8A,AV.ok,QsZ q l]
theorem YlI (q:Nat->Bool) (d:Dg):okL q (idR.f d)=true:=QsZ q d.l
end
section
theorem J4q (a b:List UInt8):(a == b)=decide (a=b):=by
 rw[Bool.eq_iff_iff]
 simp
theorem QAQ (a b:List UInt8):binV .eql (.s a) (.s b)=some (.b (decide (a=b))):=by
 show some (AV.b (a == b))=_
 rw[J4q]
section
variable {α:Type}
end
end
end Go.Proofs.YtebcngelgdpbjaaGreat
