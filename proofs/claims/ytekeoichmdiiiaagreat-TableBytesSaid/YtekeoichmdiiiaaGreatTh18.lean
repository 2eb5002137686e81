/- Part 18 of what the laws' proofs rest on. No condition. -/
import Derived.Test.YtekeoichmdiiiaaGreatTh17
set_option linter.all false
namespace Go.Proofs.YtekeoichmdiiiaaGreat
section
section
variable {α:Type} {r:Row α} {h l:List AB}
def mskQ (base c anc:Nat) (past:List Pt) (l:List AB):List AB:=mskL base c anc past [] 0 l
def vis (base c anc:Nat) (past:List Pt) (k:Nat):Bool:=decide (k<c)||past.any (fun p=>bit p.k anc&&decide (p.lo<=base+k)&&decide (base+k<p.hi))
theorem Q1v (base c anc:Nat) (past:List Pt) (k:Nat):qOk (base+c) 0 0 anc past (base+k)=vis base c anc past k:=by
 rw[qrT]
 unfold vis
 have e1:decide (base+k<base+c)=decide (k<c):=decide_eq_decide.2 (by omega)
 have e2:decide (base+k<0)=false:=decide_eq_false (by omega)
 rw[e1,e2,Bool.and_false,Bool.or_false]
theorem JjS (base c anc:Nat) (past:List Pt) (l:List AB) (k:Nat):(mskQ base c anc past l)[k]?=(l[k]?).map fun B=>if vis base c anc past k=true then B.freeze else .dead:=by
 unfold mskQ
 rw[JqO,Nat.zero_add]
 congr 1
 funext B
 rw[Q1v]
 simp [X7C]
theorem qdX (base c anc:Nat) (past:List Pt) (l:List AB):(mskQ base c anc past l).length=l.length:=by
 rcases Nat.lt_trichotomy (mskQ base c anc past l).length l.length with q|q|q
 ·have:=JjS base c anc past l (mskQ base c anc past l).length
  rw[List.getElem?_eq_none (Nat.le_refl _),List.getElem?_eq_getElem q]at this
  cases this
 ·exact q
 ·have:=JjS base c anc past l l.length
  rw[List.getElem?_eq_none (Nat.le_refl _),List.getElem?_eq_getElem q]at this
  cases this
theorem QOt (L:List AB) (k:Nat):ownC L k=match L[k]? with
  | some (.blk _ _ xs)=>some xs
  | _=>none:=by rw[<-KZA];rfl
theorem QuN {base c anc:Nat} {past:List Pt} {k:Nat} (hv:vis base c anc past k=true):ownC (mskQ base c anc past l) k=ownC l k:=by
 rw[QOt,QOt,JjS]
 cases l[k]? with
 | none=>rfl
 | some B=>simp only[Option.map_some,hv,if_true];cases B <;> rfl
theorem ZoH {base c anc:Nat} {past:List Pt} {k:Nat} (hv:vis base c anc past k=true):bxL (mskQ base c anc past l) k=bxL l k:=by
 rw[<-XAd,<-XAd]
 unfold bxS
 rw[JjS]
 cases l[k]? with
 | none=>rfl
 | some B =>
  simp only[Option.map_some,hv,if_true]
  cases B with
  | blk fl m xs=>cases fl <;> (cases xs with|nil=>rfl|cons a t=>cases t <;> rfl)
  | _=>rfl
theorem ZwQ (x:List α):∀(L:List AB) (k:Nat),ownR r x L k↔∃m,L[k]?=some (resB r m x)
 | [],k=>by simp [ownR]
 | B::L,0=>by simp [ownR]
 | B::L,k+1=>by simpa [ownR] using ZwQ x L k
theorem ZzC {base c anc:Nat} {past:List Pt} {k:Nat} (x:List α) (hv:vis base c anc past k=true) (hr:ownR r x l k):ownR r x (mskQ base c anc past l) k=True:=by
 refine eq_true ?_
 rw[ZwQ]at hr ⊢
 obtain ⟨m,e⟩:=hr
 exact ⟨false,by rw[JjS,e,Option.map_some,if_pos hv,QO7]⟩
theorem ZQk (hz:h.map AB.freeze=h) (c anc n:Nat) (past:List Pt) (l:List AB) (hn:n=h.length+l.length):qRB (seen (h.length+c) anc past n) [] 0 (h++l)=h++mskQ h.length c anc past l:=zza hz c anc n past [] l hn rfl
theorem ZaK (hz:h.map AB.freeze=h) (anc n:Nat) (past:List Pt) (l:List AB) (hn:n=h.length+l.length):qRB (seen h.length anc past n) [] 0 (h++l)=h++mskQ h.length 0 anc past l:=zza hz 0 anc n past [] l hn rfl
theorem JeK (hz:h.map AB.freeze=h) (c anc n:Nat) (past:List Pt) (w0:Nat) (ws:List Nat) (l:List AB) (hn:n=h.length+l.length) (hw:((w0::ws).all fun id=>decide (h.length<=id))=true):qRB (seen (h.length+c) anc past n) (w0::ws) 0 (h++l)=h++mskL h.length c anc past (w0::ws) 0 l:=zza hz c anc n past (w0::ws) l hn hw
theorem oW {h:List AB} (hh:HOk h) (hz:h.map AB.freeze=h):(∀l:List AB,HOk (h++l)=((l.all fun B=>B.ok (fun i=>decide (i<h.length+l.length)))=true))/\(∀(c anc n:Nat) (past:List Pt) (w0:Nat) (ws:List Nat) (l:List AB),n=h.length+l.length->((w0::ws).all fun id=>decide (h.length<=id))=true->qRB (seen (h.length+c) anc past n) (w0::ws) 0 (h++l)=h++mskL h.length c anc past (w0::ws) 0 l)/\(∀(c anc n:Nat) (past:List Pt) (l:List AB),n=h.length+l.length->qRB (seen (h.length+c) anc past n) [] 0 (h++l)=h++mskQ h.length c anc past l)/\(∀(anc n:Nat) (past:List Pt) (l:List AB),n=h.length+l.length->qRB (seen h.length anc past n) [] 0 (h++l)=h++mskQ h.length 0 anc past l):=And.intro (Kvx hh) ⟨JeK hz,ZQk hz,ZaK hz⟩
theorem zLa (G x l:List AB) (hG:G.length=l.length):JkA [] (h++(G++x)) 0 (h++l)=h++(l++x):=by
 rw[qdg [] (G++x) l rfl]
 congr 1
 refine List.ext_getElem? fun j=>?_
 rw[Q5v]
 by_cases hj:j<l.length
 ·rw[if_pos hj,if_neg (by simp),List.getElem?_append_left hj]
 ·rw[if_neg hj,List.getElem?_append_right (by omega),List.getElem?_append_right (by omega),hG]
def qP (anc:Nat):List Pt->Nat->Bool
 | [],_=>false
 | ⟨k,lo,hi,_,_⟩::l,id=>if lo<=id/\id<hi then (if anc / 2 ^ k % 2=1 then true else qP anc l id) else qP anc l id
theorem Q2k (anc id:Nat):qP anc [] id=false:=oI rfl
theorem qn4 (anc k lo hi:Nat) (rs ws:List Nat) (l:List Pt) (id:Nat):qP anc (⟨k,lo,hi,rs,ws⟩::l) id=if lo<=id/\id<hi then (if anc / 2 ^ k % 2=1 then true else qP anc l id) else qP anc l id:=oI rfl
theorem YtQ (anc id:Nat):∀past:List Pt,qP anc past id=past.any fun p=>bit p.k anc&&decide (p.lo<=id)&&decide (id<p.hi)
 | []=>rfl
 | ⟨k,lo,hi,rs,ws⟩::l=>by
  rw[qn4,List.any_cons,YtQ anc id l,Yae]
  by_cases h1:lo<=id <;> by_cases h2:id<hi <;> by_cases h3:anc / 2 ^ k % 2=1 <;> simp [h1,h2,h3]
theorem YJh (len0 lo hi anc:Nat) (past:List Pt) (id:Nat):qOk len0 lo hi anc past id=if id<len0 then true else if lo<=id/\id<hi then true else qP anc past id:=by
 rw[qrT,YtQ]
 by_cases h1:id<len0 <;> by_cases h2:lo<=id <;> by_cases h3:id<hi <;> simp [h1,h2,h3]
theorem YSA (base c anc:Nat) (past:List Pt) (k:Nat):vis base c anc past k=if k<c then true else qP anc past (base+k):=by
 unfold vis
 rw[YtQ]
 by_cases h1:k<c <;> simp [h1]
def sepA (anc lo hi:Nat):List Pt->Bool
 | []=>true
 | ⟨k,lo',hi',_,_⟩::l=>if hi'<=lo\/hi<=lo' then sepA anc lo hi l else if anc / 2 ^ k % 2=1 then false else sepA anc lo hi l
theorem qj8 (anc lo hi:Nat):sepA anc lo hi []=true:=oI rfl
theorem QIN (anc lo hi k lo' hi':Nat) (rs ws:List Nat) (l:List Pt):sepA anc lo hi (⟨k,lo',hi',rs,ws⟩::l)=if hi'<=lo\/hi<=lo' then sepA anc lo hi l else if anc / 2 ^ k % 2=1 then false else sepA anc lo hi l:=oI rfl
theorem QeY (anc lo hi:Nat):∀past:List Pt,sepA anc lo hi past=past.all fun p'=>!bit p'.k anc||decide (p'.hi<=lo)||decide (hi<=p'.lo)
 | []=>rfl
 | ⟨k,lo',hi',rs,ws⟩::l=>by
  rw[QIN,List.all_cons,QeY anc lo hi l,Yae]
  by_cases h1:hi'<=lo <;> by_cases h2:hi<=lo' <;> by_cases h3:anc / 2 ^ k % 2=1 <;> simp [h1,h2,h3]
def indA (len0 anc:Nat) (past0:List Pt) (ws0:List Nat):List Pt->Bool
 | []=>true
 | ⟨k,lo,hi,rs,ws⟩::l=>if anc / 2 ^ k % 2=1 then indA len0 anc past0 ws0 l else
   if (ws.all fun id=>!qOk len0 0 0 anc past0 id)=true then
    if hi<=lo\/(len0<=lo/\sepA anc lo hi past0=true) then
     if (ws0.all fun id=>!Zrs ⟨k,lo,hi,rs,ws⟩ id && !memN id (rs++ws))=true then indA len0 anc past0 ws0 l else false
    else false
   else false
theorem qRL (len0 anc:Nat) (past0:List Pt) (ws0:List Nat):indA len0 anc past0 ws0 []=true:=oI rfl
theorem QoX (len0 anc : Nat) (past0 : List Pt) (ws0 : List Nat) (k lo hi : Nat) (rs ws : List Nat) (l : List Pt) : indA len0 anc past0 ws0 (⟨k, lo, hi, rs, ws⟩ :: l) = if anc / 2 ^ k % 2 = 1 then indA len0 anc past0 ws0 l else
      if (ws.all fun id=>!qOk len0 0 0 anc past0 id)=true then
        if hi<=lo\/(len0<=lo/\sepA anc lo hi past0=true) then
          if (ws0.all fun id=>!Zrs ⟨k,lo,hi,rs,ws⟩ id && !memN id (rs++ws))=true then indA len0 anc past0 ws0 l else false
        else false
      else false:=oI rfl
theorem JbW (len0 anc:Nat) (past0:List Pt) (ws0:List Nat):∀past:List Pt,past.all (ZYm len0 anc past0 ws0)=indA len0 anc past0 ws0 past
 | []=>rfl
 | ⟨k,lo,hi,rs,ws⟩::l=>by
  rw[QoX,List.all_cons,JbW len0 anc past0 ws0 l,zWd,QeY,Yae]
  by_cases h1:anc / 2 ^ k % 2=1
  ·simp [h1]
  ·simp only[h1,decide_false,Bool.false_or,if_false]
   generalize (ws.all fun id=>!qOk len0 0 0 anc past0 id)=a
   generalize (past0.all fun p'=>!bit p'.k anc||decide (p'.hi<=lo)||decide (hi<=p'.lo))=b
   generalize (ws0.all fun id=>!Zrs ⟨k,lo,hi,rs,ws⟩ id && !memN id (rs++ws))=e
   by_cases h2:hi<=lo <;> by_cases h3:len0<=lo <;> cases a <;> cases b <;> cases e <;> simp [h2,h3]
def indL (anc:Nat) (rs:List Nat):List Pt->Bool
 | []=>true
 | ⟨k,lo,hi,rs',ws⟩::l=>if anc / 2 ^ k % 2=1 then indL anc rs l else
   if (rs.all fun id=>!Zrs ⟨k,lo,hi,rs',ws⟩ id)=true then indL anc rs l else false
theorem XzO (anc:Nat) (rs:List Nat):indL anc rs []=true:=oI rfl
theorem qw1 (anc : Nat) (rs : List Nat) (k lo hi : Nat) (rs' ws : List Nat) (l : List Pt) : indL anc rs (⟨k, lo, hi, rs', ws⟩ :: l) = if anc / 2 ^ k % 2 = 1 then indL anc rs l else
      if (rs.all fun id=>!Zrs ⟨k,lo,hi,rs',ws⟩ id)=true then indL anc rs l else false:=oI rfl
theorem JWj (anc:Nat) (rs:List Nat):∀past:List Pt,past.all (QmL anc rs [])=indL anc rs past
 | []=>rfl
 | ⟨k,lo,hi,rs',ws⟩::l=>by
  rw[qw1,List.all_cons,JWj anc rs l]
  unfold QmL
  rw[Yae,List.append_nil]
  by_cases h1:anc / 2 ^ k % 2=1
  ·simp [h1]
  ·simp only[h1,decide_false,if_false,List.all_nil,Bool.and_true,Bool.false_eq_true]
   generalize (rs.all fun id=>!Zrs ⟨k,lo,hi,rs',ws⟩ id)=a
   cases a <;> simp
variable {c:Ctx} {k:List IT} {fr:List AV} {len0 n anc:Nat} {past:List Pt} {d:Option Nat} {ops:List DOp}
theorem QTu (w0 : Nat) (ws : List Nat) (vs : List AV) (v : AV) (G : List AB) : W c (.dmk (w0 :: ws) vs (some (v, G)) len0 n anc past d ops :: k) fr h = (okL (fun i => decide (i < h.length)) vs = true ∧ HOk h ∧ indA len0 anc past (w0 :: ws) past = true ∧ ((w0 :: ws).all fun id => decide (id < h.length)) = true ∧ h.length ≤ G.length ∧ v.ok (qOk len0 h.length G.length anc past) = true ∧
      ((w0::ws).all fun id=>(G.getD id .dead).ok (qOk len0 h.length G.length anc past))=true/\((G.drop h.length).all fun B=>B.ok (qOk len0 h.length G.length anc past))=true /\
      W c (.drw len0 (n+1) (⟨n,h.length,G.length,seen len0 anc (ZLX past) h.length,w0::ws⟩::past) ops::k) (put fr d v) (JkA (w0::ws) G 0 h)):=by
  rw[<-JbW]
  exact QPK (w0::ws) vs v G
theorem Kmp (vs : List AV) (v : AV) (c0 anc' : Nat) (past' : List Pt) (x : List AB) : W c (.dmk [] vs (some (v, h ++ (mskQ h.length c0 anc' past' l ++ x))) len0 n anc past d ops :: k) fr (h ++ l) = (okL (fun i => decide (i < h.length + l.length)) vs = true ∧ HOk (h ++ l) ∧ indA len0 anc past [] past = true ∧ v.ok (qOk len0 (h.length + l.length) (h.length + (l.length + x.length)) anc past) = true ∧
      (x.all fun B=>B.ok (qOk len0 (h.length+l.length) (h.length+(l.length+x.length)) anc past))=true /\
      W c (.drw len0 (n+1) (⟨n,h.length+l.length,h.length+(l.length+x.length),seen len0 anc (ZLX past) (h.length+l.length),[]⟩::past) ops::k) (put fr d v) (h++(l++x))):=by
  rw[<-JbW,QPK,zLa _ _ _ (qdX _ _ _ _ _)]
  have e1:(h++l).length=h.length+l.length:=List.length_append
  have e2:(h++(mskQ h.length c0 anc' past' l++x)).length=h.length+(l.length+x.length):=by rw[List.length_append,List.length_append,qdX]
  have e3:(h++(mskQ h.length c0 anc' past' l++x)).drop (h++l).length=x:=by
    rw[e1,Y5e,List.drop_append_of_le_length (by rw[qdX];exact Nat.le_refl _),List.drop_eq_nil_of_le (by rw[qdX];exact Nat.le_refl _),List.nil_append]
  rw[e3,e2,e1]
  have e4:(h.length+l.length<=h.length+(l.length+x.length))=True:=eq_true (by omega)
  simp only[List.all_nil,e4,true_and]
theorem ZVN (vs : List AV) (v : AV) (c0 anc' : Nat) (past' : List Pt) : W c (.dmk [] vs (some (v, h ++ mskQ h.length c0 anc' past' l)) len0 n anc past d ops :: k) fr (h ++ l) = (okL (fun i => decide (i < h.length + l.length)) vs = true ∧ HOk (h ++ l) ∧ indA len0 anc past [] past = true ∧ v.ok (qOk len0 (h.length + l.length) (h.length + l.length) anc past) = true ∧
      W c (.drw len0 (n+1) (⟨n,h.length+l.length,h.length+l.length,seen len0 anc (ZLX past) (h.length+l.length),[]⟩::past) ops::k) (put fr d v) (h++l)):=by
  have:=Kmp (c:=c) (k:=k) (fr:=fr) (len0:=len0) (n:=n) (anc:=anc) (past:=past) (d:=d) (ops:=ops) (h:=h) (l:=l) vs v c0 anc' past' []
  simpa only[List.append_nil,List.length_nil,Nat.add_zero,List.all_nil,true_and] using this
theorem z0K (v:AV) (h':List AB) (x:AV):W c (.dld (some (v,h')) x len0 n anc past d ops::k) fr h=((if indA len0 anc past [] past=true then True else indL anc (idOf x) past=true)/\x.ok (qOk len0 0 0 anc past)=true/\v.ok (qOk len0 0 0 anc past)=true/\W c (.drw len0 (n+1) (⟨n,0,0,idOf x,[]⟩::past) ops::k) (put fr d v) h):=by
 rw[<-JbW,<-JWj]
 exact ZMh v h' x
theorem QQv {n:Nat} (h:n<=1000000):(n<=maxLen)=True:=eq_true (by unfold maxLen;omega)
end
def K1H:=(And.intro (And.intro (And.intro (And.intro (And.intro (And.intro (And.intro @QKv @ZDm) (And.intro @KIr @KFY)) (And.intro (And.intro @Zmf @Qvw) (And.intro @QO6 (And.intro @JfW @QcM)))) (And.intro (And.intro (And.intro @YdV @Jm1) (And.intro @YEo (And.intro @XIy @zFT))) (And.intro (And.intro @ZUD @JxL) (And.intro @zhg (And.intro @XvL @z0K))))) (And.intro (And.intro (And.intro (And.intro @KsX @Z02) (And.intro @zuM @Z7H)) (And.intro (And.intro @KDB @zHJ) (And.intro @X5b (And.intro @J4q @ZyQ)))) (And.intro (And.intro (And.intro @Kct @ZCW) (And.intro @KoE (And.intro @JrK @qrO))) (And.intro (And.intro @zNi @ZWG) (And.intro @JLV (And.intro @JlY @XYK)))))) (And.intro (And.intro (And.intro (And.intro (And.intro @X66 @Juu) (And.intro @Yp9 @QdM)) (And.intro (And.intro @ZXI @JGt) (And.intro @KfV (And.intro @qel @J3X)))) (And.intro (And.intro (And.intro @Jlk @Y3i) (And.intro @JcZ (And.intro @qxG @K71))) (And.intro (And.intro @zTm @JLn) (And.intro @Q7a (And.intro @Zzz @KmZ))))) (And.intro (And.intro (And.intro (And.intro @Yfa @zt9) (And.intro @Zeq (And.intro @XMW @X7C))) (And.intro (And.intro @Kx1 @J8G) (And.intro @YDk (And.intro @Kt2 @zPi)))) (And.intro (And.intro (And.intro @KFW @YH7) (And.intro @QtU (And.intro @Yh4 @ZFd))) (And.intro (And.intro @XV2 @JTZ) (And.intro @qtA (And.intro @JEZ @zZV))))))) (And.intro (And.intro (And.intro (And.intro (And.intro (And.intro @ok_i @ok_b) (And.intro @ok_s @KE7)) (And.intro (And.intro @YXH @qlx) (And.intro @ok_p (And.intro @ok_y @YJG)))) (And.intro (And.intro (And.intro @ok_f @JL2) (And.intro @Zlu (And.intro @q0E @ZiP))) (And.intro (And.intro @ztr @XQn) (And.intro @JWu (And.intro @J6L @qpA))))) (And.intro (And.intro (And.intro (And.intro @ZVf @KJU) (And.intro @Z7g (And.intro @any_cons @YBg))) (And.intro (And.intro @JmK @KrO) (And.intro @qIm (And.intro @qHh @Jqm)))) (And.intro (And.intro (And.intro @Kf1 @YbB) (And.intro @K7s (And.intro @ZRZ @Tab.ws_nil))) (And.intro (And.intro @Tab.ws_cons @decide_true) (And.intro @decide_false (And.intro @Bool.or_true @Bool.or_false)))))) (And.intro (And.intro (And.intro (And.intro (And.intro @Bool.true_or @Bool.false_or) (And.intro @Bool.not_true @Bool.not_false)) (And.intro (And.intro @KjL @YhM) (And.intro @zbT (And.intro @Zgz @YaO)))) (And.intro (And.intro (And.intro @Ys6 @KJW) (And.intro @KEX (And.intro @JRX @QNS))) (And.intro (And.intro @QTu @Kmp) (And.intro @ZVN (And.intro @QuN @ZoH))))) (And.intro (And.intro (And.intro (And.intro @ZzC @qdX) (And.intro @YSA (And.intro @Q2k @qn4))) (And.intro (And.intro @YJh @qj8) (And.intro @QIN (And.intro @qRL @QoX)))) (And.intro (And.intro (And.intro @XzO @qw1) (And.intro @and_self (And.intro @false_and @and_false))) (And.intro (And.intro @or_true @true_or) (And.intro @false_or (And.intro @or_false @QQv))))))))
end
section
def Q8d:=(And.intro (And.intro (And.intro @qRn @qSM) (And.intro @YNH (And.intro @KMT @zrQ))) (And.intro (And.intro @KB6 (And.intro @zGW @QXy)) (And.intro @XrP (And.intro @zEY @X9V))))
end
section
variable {α:Type} {r:Row α} {h:List AB} {s:AV} {l:List α}
def AV.capOk:AV->Bool
 | .sl _ _ n c _=>decide (n<=c)
 | _=>true
theorem zA3 (id:Nat) (l:List α):(rsl r id l).capOk=true:=by
 unfold rsl
 split <;> simp [AV.capOk]
theorem Rd.slc {id off len cap:Nat} {k:Option Nat} (e:Rd r h (.sl id off len cap k) l) (h0:l.length≠0):len=l.length/\∃xs,zZU h id=some xs/\off+l.length*r.sz<=xs.length/\(xs.drop off).take (l.length*r.sz)=r.cells l:=by
 have e1:=e.1
 have e2:=e.len
 simp only[lenV,Option.some.injEq]at e2
 obtain rfl:len=l.length:=by omega
 simp only[rdS,if_neg h0]at e1
 obtain ⟨xs,h1,e1⟩:=oQ.1 e1
 split at e1
 ·rename_i h2
  simp only[Option.some.injEq,Prod.mk.injEq,true_and]at e1
  exact ⟨rfl,xs,h1,h2,e1⟩
 ·cases e1
theorem Rd.mk_sl {id off n cap:Nat} {k:Option Nat} {xs:List AV} (h1:zZU h id=some xs) (hn:n=l.length) (h2:off+l.length*r.sz<=xs.length) (h3:(xs.drop off).take (l.length*r.sz)=r.cells l) (hm:l.length<=maxLen):Rd r h (.sl id off n cap k) l:=by
 subst hn
 refine ⟨?_,hm⟩
 by_cases h0:l.length=0
 ·have:l=[]:=List.eq_nil_of_length_eq_zero h0
  subst this
  simp only[rdS,List.length_nil,if_true]
  rfl
 ·simp only[rdS,if_neg h0,h1,Option.bind_some,if_pos h2,h3]
theorem Rd.mk0 {id off cap:Nat} {k:Option Nat} (h0:l.length=0):Rd r h (.sl id off 0 cap k) l:=by
 have:l=[]:=List.eq_nil_of_length_eq_zero h0
 subst this
 exact ⟨by simp only[rdS,if_true];rfl,Nat.zero_le _⟩
end
section
open Go.RowKit
def AV.val:AV->Value
 | .b t=>.bool t
 | .i k n=>.int k n
 | .s l=>.string ⟨l.toArray⟩
 | _=>undef
def AV.fl:AV->Bool
 | .b _ | .i _ _ | .s _=>true
 | _=>false
theorem qqG (ρ:Mp) {a:AV} (h:a.fl=true):VR ρ a a.val:=by
 cases a <;> first|(cases h;done)|skip
 ·exact .b _
 ·exact .i _ _
 ·exact .s _ _ rfl
theorem Q3Z {ρ:Mp} {l:List AV} {cs:Array Value} (h:VL ρ l cs):VR ρ (.ag l) (.agg cs):=.ag l cs h.1 h.2
structure In (K:Code->CC->Prop) (ρ:Mp) (h:List AB) (w:World):Prop where
 rel:Rel K ρ h w
 frz:∀B∈h,B.mut=false
variable {K:Code->CC->Prop} {ρ:Mp} {h:List AB} {w:World}
theorem In.nil (w:World):In K [] [] w:=⟨⟨rfl,fun i B b o n h=>by simp at h,fun i j bi oi bj oj Bi Bj _ h=>by simp at h,GL.nil (ZqE w)⟩,fun B h=>by simp at h⟩
theorem In.push (r:In K ρ h w) {B:AB} {b o n:Nat} (hm:B.mut=false) (hB:BR K (ρ++[(b,o,n)]) w b o n B):In K (ρ++[(b,o,n)]) (h++[B]) w:=by
 have hf:∀C∈h++[B],C.mut=false:=fun C hC=>by
  rcases List.mem_append.1 hC with q|q
  ·exact r.frz C q
  ·rw[List.mem_singleton.1 q];exact hm
 refine ⟨⟨by simp [r.rel.len],fun i C b' o' n' h1 h2=>?_,fun i j bi oi bj oj Bi Bj _ h1 _ _ _ hm' _=>?_,r.rel.gl.sub fun b' ⟨i,C,o',h1,h2,_⟩=>by
  rw[hf C (List.mem_of_getElem? h1)]at h2
  cases h2⟩,hf⟩
 ·by_cases hi:i<h.length
  ·rw[List.getElem?_append_left hi]at h1
   rw[List.getElem?_append_left (by rw[r.rel.len];exact hi)]at h2
   exact (r.rel.blk i C b' o' n' h1 h2).same (Ext.push _ _) fun _=>rfl
  ·have hlt:=(List.getElem?_eq_some_iff.1 h1).1
   rw[List.length_append,List.length_singleton]at hlt
   have:i=h.length:=by omega
   subst this
   rw[List.getElem?_append_right (Nat.le_refl _),Nat.sub_self]at h1
   rw[List.getElem?_append_right (by rw[r.rel.len];exact Nat.le_refl _),r.rel.len,Nat.sub_self]at h2
   cases h1
   cases h2
   exact hB
 ·rw[hf Bi (List.mem_of_getElem? h1)]at hm'
  cases hm'
theorem In.slice {α:Type} {r:Row α} (i:In K ρ h w) {v:Value} {l:List α} (hfl:∀x,∀a∈r.f x,a.fl=true) (hs:Sl w v l.length ((r.cells l).map AV.val)) :
  l.length<=maxLen/\∃x,In K (ρ++[x]) (h++[resB r false l]) w/\VR (ρ++[x]) (rsl r h.length l) v:=by
 have hrl:=i.rel.len
 by_cases h0:l.length=0
 ·have:l=[]:=List.eq_nil_of_length_eq_zero h0
  subst this
  refine ⟨Nat.zero_le _,(0,0,0),i.push (by simp [resB,AB.mut]) (by simp [resB,BR]),?_⟩
  simp only[rsl,List.length_nil,if_true]
  rcases hs with ⟨⟨a,rfl⟩,_,_⟩|⟨b,off,cap,rfl,_,hc,_⟩
  ·exact .sz _ _ _ _ (Nat.zero_le _) fun _=>rfl
  ·exact .sz _ _ _ _ hc fun q=>by cases q
 ·rcases hs with ⟨_,q,_⟩|⟨b,off,cap,rfl,hlc,hc,hcells⟩
  ·exact absurd q h0
  ·have hlen:(r.cells l).length=l.length*r.sz:=r.cells_len l
   have hpos:0<l.length*r.sz:=Nat.mul_pos (by omega) r.pos
   have hall:∀a∈r.cells l,a.fl=true:=fun a ha=>by
    obtain ⟨x,_,hx⟩:=List.mem_flatMap.1 ha
    exact hfl x a hx
   have hat:∀k (hk:k<(r.cells l).length),w.cell? ⟨b,off+k,none⟩=some ((r.cells l)[k]).val:=fun k hk=>hcells k _ (by rw[List.getElem?_map,List.getElem?_eq_getElem hk];rfl)
   obtain ⟨cs,e,fz,hb⟩:∃cs e fz,w.heap[b]?=some (.cells cs e fz):=by
    have:=hat 0 (by omega)
    unfold World.cell? at this
    split at this
    ·rename_i c e fz hb
     exact ⟨c,e,fz,hb⟩
    ·cases this
   have hat':∀k (hk:k<(r.cells l).length),cs[off+k]?=some ((r.cells l)[k]).val:=fun k hk=>by
    have:=hat k hk
    unfold World.cell? at this
    rw[hb]at this
    simpa using this
   refine ⟨by omega,(b,off,off+cap*r.sz),i.push (by simp [resB,h0,AB.mut]) ?_,?_⟩
   ·simp only[resB,if_neg h0,BR]
    refine ⟨cs,e,fz,hb,(fun q=>by cases q),?_,fun k a c ha hc'=>?_⟩
    ·have:=(Array.getElem?_eq_some_iff.1 (hat' ((r.cells l).length-1) (by omega))).1
     omega
    ·have hk:=(List.getElem?_eq_some_iff.1 ha).1
     rw[hat' k hk]at hc'
     have:a=(r.cells l)[k]:=(List.getElem?_eq_some_iff.1 ha).2.symm
     subst this
     cases hc'
     exact qqG _ (hall _ (List.getElem_mem hk))
   ·simp only[rsl,if_neg h0]
    exact .sl h.length 0 l.length l.length (some r.sz) b off (off+cap*r.sz) cap (by rw[<-hrl,List.getElem?_append_right (Nat.le_refl _),Nat.sub_self];rfl) (Nat.le_refl _) hlc hc (fun q=>by cases q) (fun z hz _=>by cases hz;exact Nat.le_refl _)
theorem X2M {P:Program} {g:Nat} {az:List AV} {vals:Array Value} {h':List AB} (i:In (KC P) ρ h w) (hv:VL ρ az vals) (e:FnC P g az h (.b true) h'):Calls P g vals w (fun e w'=>e=.returned (.bool true)/\Kept NoS w w'):=by
 refine (e.2 ρ w vals i.rel hv).mono ?_
 rintro e w' ⟨v',ρ',rfl,hva,_,heff⟩
 cases hva
 refine ⟨rfl,heff.os,heff.tape,heff.output.1,heff.size,fun b hb _=>heff.keep b hb fun ⟨j,B,o,h1,h2,_⟩=>?_⟩
 rw[i.frz B (List.mem_of_getElem? h1)]at h2
 cases h2
theorem ZA6 (x:Int):∀a∈intR.f x,a.fl=true:=fun a ha=>by simp [KpI]at ha;subst ha;rfl
end
section
structure Dg where
 l:List UInt8
 h:l.length=32
deriving DecidableEq
def u8A (b:UInt8):AV:=.i .u8 (b.toNat:Int)
theorem Z1w {a b:UInt8} (e:u8A a=u8A b):a=b:=by
 unfold u8A at e
 have e2:(a.toNat:Int)=(b.toNat:Int):=by
  injection e
 exact UInt8.toNat.inj (by omega)
theorem zPo {α β:Type} {f:α->β} (hf:∀a b,f a=f b->a=b):∀ {l l':List α},l.map f=l'.map f->l=l'
 | [],[],_=>rfl
 | [],_::_,e=>by simp at e
 | _::_,[],e=>by simp at e
 | a::l,b::l',e=>by
  simp only[List.map_cons,List.cons.injEq]at e
  rw[hf a b e.1,zPo hf e.2]
theorem Dg.ext {a b:Dg} (e:a.l=b.l):a=b:=by
 cases a;cases b
 cases e
 rfl
def Xzr:Dg:=⟨List.replicate 32 0,by simp⟩
def idR:Row Dg:=⟨fun x=>x.l.map u8A,32,fun x=>by rw[List.length_map];exact x.h,by decide,Xzr,fun x y e=>Dg.ext (zPo (fun a b=>Z1w) e)⟩
abbrev Hd:=(Int×Int)×Dg
def zEN:Row Hd:=⟨fun x=>[.i .i64 x.1.1,.i .i64 x.1.2]++idR.f x.2,34,fun x=>by rw[List.length_append,idR.len];rfl,by decide,((0,0),Xzr),fun x y e=>by
 simp only[List.cons_append,List.nil_append,List.cons.injEq,AV.i.injEq,true_and]at e
 exact Prod.ext (Prod.ext e.1 e.2.1) (idR.inj _ _ e.2.2)⟩
theorem XvD (x:Hd):zEN.f x=.i .i64 x.1.1::.i .i64 x.1.2::idR.f x.2:=oI rfl
theorem QbO (x:Hd):((zEN.f x).drop 2).take 32=idR.f x.2:=by
 rw[XvD]
 simp only[List.drop_succ_cons,List.drop_zero]
 exact List.take_of_length_le (by rw[idR.len];exact Nat.le_refl _)
theorem eqcB:∀(l l':List UInt8),l.length=l'.length->JTs (List.replicate l.length .i) (l.map u8A) (l'.map u8A)=some (decide (l=l'))
 | [],[],_=>by simp [JTs]
 | [],_::_,e=>by simp at e
 | _::_,[],e=>by simp at e
 | a::l,b::l',e=>by
  simp only[List.length_cons,List.replicate_succ,List.map_cons,JTs,u8A,QsB,if_true,Option.bind_some]
  have ih:=eqcB l l' (by simpa using e)
  rw[ih,Option.map_some]
  congr 1
  have h1:((a.toNat:Int) == (b.toNat:Int))=decide (a=b):=by
   rw[Bool.eq_iff_iff]
   simp only[beq_iff_eq,decide_eq_true_eq]
   exact ⟨fun q=>UInt8.toNat.inj (by omega),fun q=>by rw[q]⟩
  rw[h1,Bool.eq_iff_iff]
  simp
theorem QQV (a b:Dg):JTs [.i,.i,.i,.i,.i,.i,.i,.i,.i,.i,.i,.i,.i,.i,.i,.i,.i,.i,.i,.i,.i,.i,.i,.i,.i,.i,.i,.i,.i,.i,.i,.i] (idR.f a) (idR.f b)=some (decide (a=b)):=by
 have:=eqcB a.l b.l (a.h.trans b.h.symm)
 rw[a.h]at this
 refine (show JTs [.i,.i,.i,.i,.i,.i,.i,.i,.i,.i,.i,.i,.i,.i,.i,.i,.i,.i,.i,.i,.i,.i,.i,.i,.i,.i,.i,.i,.i,.i,.i,.i] (idR.f a) (idR.f b)=some (decide (a.l=b.l)) from this).trans ?_
 congr 1
 exact decide_eq_decide.2 ⟨Dg.ext,fun q=>by rw[q]⟩
theorem zYT (a b:Hd):JTs [.i,.i,.i,.i,.i,.i,.i,.i,.i,.i,.i,.i,.i,.i,.i,.i,.i,.i,.i,.i,.i,.i,.i,.i,.i,.i,.i,.i,.i,.i,.i,.i,.i,.i] (zEN.f a) (zEN.f b)=some (decide (a=b)):=by
 have h1:=QQV a.2 b.2
 have h2:JTs [.i,.i,.i,.i,.i,.i,.i,.i,.i,.i,.i,.i,.i,.i,.i,.i,.i,.i,.i,.i,.i,.i,.i,.i,.i,.i,.i,.i,.i,.i,.i,.i,.i,.i] (zEN.f a) (zEN.f b)=((QsB .i (.i .i64 a.1.1) (.i .i64 b.1.1)).bind fun r=>(((QsB .i (.i .i64 a.1.2) (.i .i64 b.1.2)).bind fun r=>(JTs [.i,.i,.i,.i,.i,.i,.i,.i,.i,.i,.i,.i,.i,.i,.i,.i,.i,.i,.i,.i,.i,.i,.i,.i,.i,.i,.i,.i,.i,.i,.i,.i] (idR.f a.2) (idR.f b.2)).map (r && ·))).map (r && ·)):=rfl
 rw[h2,h1]
 simp only[QsB,if_true,Option.bind_some,Option.map_some,Option.some.injEq]
 rw[Bool.eq_iff_iff]
 simp only[Bool.and_eq_true,beq_iff_eq,decide_eq_true_eq]
 constructor
 ·rintro ⟨q1,q2,q3⟩
  exact Prod.ext (Prod.ext q1 q2) q3
 ·rintro rfl
  exact ⟨rfl,rfl,rfl⟩
theorem QMm (q:Nat->Bool):∀l:List UInt8,okL q (l.map u8A)=true
 | []=>by simp [okL]
 | a::l=>by simp [okL,u8A,AV.ok,QMm q l]
theorem JMZ (q:Nat->Bool) (d:Dg):okL q (idR.f d)=true:=QMm q d.l
theorem YhJ (q:Nat->Bool) (d:Hd):okL q (zEN.f d)=true:=by rw[XvD,ZiP,ZiP,ok_i,ok_i,JMZ];rfl
theorem ZE3:∀l:List UInt8,(l.map u8A).all (wrOk true)=true
 | []=>rfl
 | a::l=>by rw[List.map_cons,List.all_cons,ZE3 l];rfl
theorem YA6 (d:Dg):(idR.f d).all (wrOk true)=true:=ZE3 d.l
theorem Yi0 (d:Hd):(zEN.f d).all (wrOk true)=true:=by rw[XvD,List.all_cons,List.all_cons,YA6];rfl
end
section
set_option maxRecDepth 100000
def JY5:Nat->Int->Nat->Nat
 | 0,_,k=>k
 | f+1,n,k=>if 0<n / 2 ^ (8*k) then JY5 f n (k+1) else k
def KyO (n:Int):Nat:=if n<192 then 0 else JY5 7 n 1
theorem ZJc (n:Int):∀f k,k<=JY5 f n k/\JY5 f n k<=k+f
 | 0,k=>by simp [JY5]
 | f+1,k=>by
  have:=ZJc n f (k+1)
  unfold JY5
  split <;> omega
theorem qcd (n:Int):KyO n<=8:=by
 have:=ZJc n 7 1
 unfold KyO
 split <;> omega
def J8Z (n:Int) (k i:Nat):UInt8:=UInt8.ofInt (n / 2 ^ (8*(k-1-i)))
def qkv (n:Int):List UInt8:=
 if KyO n=0 then [UInt8.ofInt n] else UInt8.ofInt (191+KyO n)::(List.range (KyO n)).map (J8Z n (KyO n))
theorem zHu (n:Int):(qkv n).length<=9:=by
 have:=qcd n
 unfold qkv
 split <;> simp;omega
def qBw (xs:List Int):List UInt8:=xs.flatMap qkv
theorem Kft (xs:List Int) {k:Nat} {x:Int} (hx:xs[k]?=some x):qBw (xs.take (k+1))=qBw (xs.take k)++qkv x:=by
 unfold qBw
 rw[List.take_add_one,List.flatMap_append,hx]
 simp
theorem YGx (xs:List Int):(qBw xs).length<=9*xs.length:=by
 unfold qBw
 induction xs with
 | nil=>simp
 | cons x xs ih=>have:=zHu x;simp only[List.flatMap_cons,List.length_append,List.length_cons];omega
def wput (lim:Int) (bs:List UInt8) (err:Int) (enc:List UInt8) (ok:Bool):List UInt8×Int:=
 if err=0 then (if ok then (if lim<bs.length+enc.length then (bs,4) else (bs++enc,0)) else (bs,3)) else (bs,err)
structure RSt where
 pos:Nat
 err:Int
 ea:Int
def RSt.fail (s:RSt) (e a:Int):RSt:=if s.err=0 then { s with err:=e,ea:=a } else s
def QoH (l:List UInt8):Nat:=l.foldl (fun n x=>n*256+x.toNat) 0
theorem QGf (l:List UInt8) (x:UInt8):QoH (l++[x])=QoH l*256+x.toNat:=by simp [QoH,List.foldl_append]
theorem Xk6:∀(l:List UInt8) (a:Nat),l.foldl (fun n x=>n*256+x.toNat) a<(a+1)*256 ^ l.length
 | [],a=>by simp
 | x::l,a=>by
  have h:=Xk6 l (a*256+x.toNat)
  have hx:=x.toNat_lt
  have h2:(a*256+x.toNat+1)*256 ^ l.length<=((a+1)*256)*256 ^ l.length:=Nat.mul_le_mul_right _ (by omega)
  rw[List.foldl_cons,List.length_cons,Nat.pow_succ,Nat.mul_comm (256 ^ l.length) 256,<-Nat.mul_assoc]
  omega
theorem zmK (l:List UInt8):QoH l<256 ^ l.length:=by
 have:=Xk6 l 0
 simpa [QoH] using this
def qUk (bs:List UInt8) (s:RSt) (c:Nat):Int×RSt:=
 if 199<c then (0,{ s with err:=5,ea:=s.pos })
 else if bs.length<s.pos+1+(c-191) then (0,{ s with err:=6,ea:=s.pos })
 else if c<192 then (c,{ s with pos:=s.pos+1 })
 else
  let n:=QoH ((bs.drop (s.pos+1)).take (c-191))
  if 9223372036854775808<=n\/KyO n≠c-191 then (0,{ s with err:=5,ea:=s.pos })
  else (n,{ s with pos:=s.pos+1+(c-191) })
def KqA (bs:List UInt8) (s:RSt):Int×RSt:=
 if s.err=0 then
  match bs[s.pos]? with
  | none=>(0,{ s with err:=6,ea:=s.pos })
  | some c=>qUk bs s c.toNat
 else (0,s)
def qlW (bs:List UInt8) (s:RSt) (most:Int):Int×RSt:=
 if s.err=0 then (if most<(KqA bs s).1 then ((KqA bs s).1,(KqA bs s).2.fail 4 s.pos) else KqA bs s) else (0,s)
def qwD (bs:List UInt8) (s:RSt) (n:Nat) (a:Int):List UInt8×RSt:=
 if s.err=0 then (if bs.length<s.pos+n then ([],{ s with err:=6,ea:=a }) else ((bs.drop s.pos).take n,{ s with pos:=s.pos+n })) else ([],s)
def Xis (s:RSt):Int:=if s.err=0 then s.pos else 0
theorem KMw (bs:List UInt8) (s:RSt) (h:s.err≠0):KqA bs s=(0,s):=by rw[KqA,if_neg h]
theorem zpc (bs:List UInt8) (s:RSt):0<=(KqA bs s).1/\(KqA bs s).1<=9223372036854775807:=by
 unfold KqA
 split
 ·split
  ·simp
  ·rename_i c _
   have:=c.toNat_lt
   unfold qUk
   split
   ·simp
   ·split
    ·simp
    ·split
     ·simp only;omega
     ·dsimp only
      split
      ·simp
      ·simp only;omega
 ·simp
def JrE (bs:List UInt8) (s:RSt) (most:Int):List UInt8×RSt:=qwD bs (qlW bs s most).2 (qlW bs s most).1.toNat (Xis s)
theorem YTr (bs:List UInt8) (s:RSt) (most:Int):0<=(qlW bs s most).1/\(qlW bs s most).1<=9223372036854775807:=by
 have h:=zpc bs s
 unfold qlW
 split
 ·split
  ·exact h
  ·exact h
 ·simp
def Z3k (bs:List UInt8) (s:RSt):(Int×Int)×RSt:=if (KqA bs (KqA bs s).2).2.err=0 then (((KqA bs s).1,(KqA bs (KqA bs s).2).1),(KqA bs (KqA bs s).2).2) else ((0,0),(KqA bs (KqA bs s).2).2)
def YnR (bs:List UInt8) (s:RSt):Int:=if s.err=0 then (bs.length:Int)-s.pos else 0
def Q60 (bs:List UInt8) (s:RSt):Int×Int:=if s.err=0/\s.pos<bs.length then (4,s.pos) else (s.err,s.ea)
def KiA (bs:List UInt8):Nat->RSt->List Int->List Int×RSt
 | 0,s,acc=>if s.err=0 then (acc,s) else ([],s)
 | k+1,s,acc=>if s.err=0 then KiA bs k (KqA bs s).2 (acc++[(KqA bs s).1]) else ([],s)
def QDw (bs:List UInt8) (s:RSt) (most:Int):List Int×RSt:=KiA bs (qlW bs s most).1.toNat (qlW bs s most).2 []
theorem Q7s (bs:List UInt8) (k:Nat) (s:RSt) (acc:List Int) (h:s.err≠0):KiA bs k s acc=([],s):=by
 cases k <;> simp [KiA,h]
def rdID (bs:List UInt8) (s:RSt):List UInt8×RSt:=(if (qwD bs s 32 (Xis s)).1.length=32 then (qwD bs s 32 (Xis s)).1 else List.replicate 32 0,(qwD bs s 32 (Xis s)).2)
theorem Kii (bs:List UInt8) (s:RSt) (n:Nat) (a:Int):(qwD bs s n a).1.length=n\/(qwD bs s n a).1=[]:=by
 unfold qwD
 split
 ·split
  ·exact .inr rfl
  ·left;simp only[List.length_take,List.length_drop];omega
 ·exact .inr rfl
def Has (bs:List UInt8) (pos:Nat) (l:List UInt8):Prop:=∃x,bs.drop pos=l++x/\pos<=bs.length
def Short (bs:List UInt8) (pos:Nat) (l:List UInt8):Prop:=∃x,x≠[]/\l=bs.drop pos++x/\pos<=bs.length
theorem Has.le {bs:List UInt8} {pos:Nat} {l:List UInt8} (h:Has bs pos l):pos+l.length<=bs.length:=by
 obtain ⟨x,h1,h2⟩:=h
 have:=congrArg List.length h1
 simp at this
 omega
theorem Has.take {bs:List UInt8} {pos:Nat} {l:List UInt8} (h:Has bs pos l):(bs.drop pos).take l.length=l:=by
 obtain ⟨x,h1,h2⟩:=h
 rw[h1,List.take_left]
theorem Has.left {bs:List UInt8} {pos:Nat} {a b:List UInt8} (h:Has bs pos (a++b)):Has bs pos a:=by
 obtain ⟨x,h1,h2⟩:=h
 exact ⟨b++x,by rw[h1,List.append_assoc],h2⟩
theorem Has.right {bs:List UInt8} {pos:Nat} {a b:List UInt8} (h:Has bs pos (a++b)):Has bs (pos+a.length) b:=by
 have hl:=h.left.le
 obtain ⟨x,h1,h2⟩:=h
 refine ⟨x,?_,hl⟩
 rw[<-List.drop_drop,h1,List.append_assoc,List.drop_left]
theorem Has.head {bs:List UInt8} {pos:Nat} {c:UInt8} {l:List UInt8} (h:Has bs pos (c::l)):bs[pos]?=some c:=by
 obtain ⟨x,h1,h2⟩:=h
 have:(bs.drop pos)[0]?=some c:=by rw[h1];rfl
 simpa using this
theorem Has.tail {bs:List UInt8} {pos:Nat} {c:UInt8} {l:List UInt8} (h:Has bs pos (c::l)):Has bs (pos+1) l:=Has.right (a:=[c]) h
theorem Short.cut {bs:List UInt8} {pos:Nat} {a b:List UInt8} (h:Short bs pos (a++b)):Short bs pos a\/(Has bs pos a/\Short bs (pos+a.length) b):=by
 obtain ⟨x,h0,h1,h2⟩:=h
 rcases List.append_eq_append_iff.1 h1 with ⟨a',h3,h4⟩|⟨c',h3,h4⟩
 ·right
  have hh:Has bs pos a:=⟨a',h3,h2⟩
  refine ⟨hh,x,h0,?_,hh.le⟩
  rw[<-List.drop_drop,h3,List.drop_left,h4]
 ·by_cases hc:c'=[]
  ·subst hc
   right
   have hh:Has bs pos a:=⟨[],by rw[h3];simp,h2⟩
   refine ⟨hh,x,h0,?_,hh.le⟩
   rw[List.append_nil]at h3
   rw[<-List.drop_drop,<-h3,List.drop_length,h4]
   simp
  ·exact .inl ⟨c',hc,h3,h2⟩
theorem Short.len {bs:List UInt8} {pos:Nat} {l:List UInt8} (h:Short bs pos l):bs.length<pos+l.length:=by
 obtain ⟨x,h0,h1,h2⟩:=h
 have:=congrArg List.length h1
 have h3:x.length≠0:=fun e=>h0 (List.length_eq_zero_iff.1 e)
 simp at this
 omega
theorem qTL (x:Int):((UInt8.ofInt x).toNat:Int)=x % 256:=by
 simp only[UInt8.ofInt,UInt8.toNat_ofNat']
 omega
theorem zyk (n:Int) (k:Nat):(List.range (k+1)).map (J8Z n (k+1))=(List.range k).map (J8Z (n / 256) k)++[UInt8.ofInt n]:=by
 rw[List.range_succ,List.map_append]
 congr 1
 ·apply List.map_congr_left
  intro i hi
  rw[List.mem_range]at hi
  unfold J8Z
  rw[show k+1-1-i=(k-1-i)+1 by omega,show 8*(k-1-i+1)=8+8*(k-1-i) by omega,Int.pow_add,<-Int.ediv_ediv_of_nonneg (by decide)]
  rfl
 ·simp [J8Z]
theorem Z6i:∀(k:Nat) (n:Nat),n<256 ^ k->QoH ((List.range k).map (J8Z n k))=n
 | 0,n,h=>by
  have:n=0:=by simpa using h
  subst this
  rfl
 | k+1,n,h=>by
  rw[zyk,QGf,show ((n:Int) / 256)=((n / 256:Nat):Int) by omega,Z6i k (n / 256) (by rw[Nat.pow_succ]at h;omega)]
  have:(UInt8.ofInt (n:Int)).toNat=n % 256:=by
   have:=qTL n
   omega
  omega
theorem KQX:∀(m:Nat) (l:List UInt8),l.length=m->(List.range l.length).map (J8Z (QoH l) l.length)=l
 | 0,l,h=>by
  have:=List.length_eq_zero_iff.1 h
  subst this
  rfl
 | m+1,l,h=>by
  obtain ⟨l,x,rfl⟩:∃l' x,l=l'++[x]:=⟨l.dropLast,l.getLast (by intro e;simp [e]at h),(List.dropLast_concat_getLast _).symm⟩
  have ih:=KQX m l (by simpa using h)
  rw[List.length_append,List.length_singleton,zyk,QGf]
  have hx:=x.toNat_lt
  rw[show (((QoH l*256+x.toNat:Nat):Int) / 256)=(QoH l:Int) by omega,ih]
  congr 1
  apply congrArg (· :: [])
  apply UInt8.toNat_inj.1
  have:=qTL ((QoH l*256+x.toNat:Nat):Int)
  omega
theorem Jcf (l:List UInt8):(List.range l.length).map (J8Z (QoH l) l.length)=l:=KQX _ l rfl
theorem Xou {n:Int} (h:KyO n=0):n<192:=by
 unfold KyO at h
 split at h
 ·assumption
 ·have:=ZJc n 7 1
  omega
theorem QeI (n:Int):∀f k,JY5 f n k<k+f->n / 2 ^ (8*JY5 f n k)<=0
 | 0,k,h=>by simp [JY5]at h
 | f+1,k,h=>by
  unfold JY5 at h ⊢
  by_cases hc:0<n / 2 ^ (8*k)
  ·rw[if_pos hc]at h ⊢
   exact QeI n f (k+1) (by omega)
  ·rw[if_neg hc]
   omega
theorem Km3 {n:Nat} (h63:n<9223372036854775808) (h:KyO n≠0):n<256 ^ KyO n:=by
 have hb:=qcd n
 by_cases h8:KyO n=8
 ·rw[h8]
  omega
 ·have hs:KyO n=JY5 7 n 1:=by
   by_cases h2:(n:Int)<192
   ·exact absurd (by unfold KyO;rw[if_pos h2]) h
   ·unfold KyO
    rw[if_neg h2]
  rw[hs]at h8 hb ⊢
  have:=QeI n 7 1 (by omega)
  generalize JY5 7 (↑n) 1=k at *
  have hp:(0:Int)<2 ^ (8*k):=Int.pow_pos (by decide)
  have h1:(n:Int)<2 ^ (8*k):=by
   by_cases h2:(n:Int)<2 ^ (8*k)
   ·exact h2
   ·have h3:=Int.ediv_le_ediv hp (Int.not_lt.1 h2)
    rw[Int.ediv_self (by omega)]at h3
    omega
  have h2:((256 ^ k:Nat):Int)=2 ^ (8*k):=by
   rw[Int.pow_mul]
   simp
  omega
theorem J58 {bs:List UInt8} {s:RSt} {n:Int} (hs:s.err=0) (h0:0<=n) (h1:n<=9223372036854775807) (h:Has bs s.pos (qkv n)):KqA bs s=(n,{ s with pos:=s.pos+(qkv n).length }):=by
 obtain ⟨m,rfl⟩:=Int.eq_ofNat_of_zero_le h0
 have hle:=h.le
 have hb:=qcd m
 unfold qkv at *
 unfold KqA
 rw[if_pos hs]
 by_cases hk:KyO m=0
 ·rw[if_pos hk]at *
  have hlt:=Xou hk
  have hc:=qTL m
  have hc2:(UInt8.ofInt (m:Int)).toNat=m:=by omega
  rw[h.head]
  show qUk _ _ _=_
  unfold qUk
  simp at hle
  rw[hc2,if_neg (by omega),if_neg (by omega),if_pos (by omega)]
  simp
 ·rw[if_neg hk]at *
  have hc:=qTL (191+KyO m)
  have hc2:(UInt8.ofInt (191+(KyO m:Int))).toNat=191+KyO m:=by omega
  have ht:=h.tail.take
  rw[h.head]
  show qUk _ _ _=_
  simp only[List.length_map,List.length_range,List.length_cons]at ht hle ⊢
  unfold qUk
  rw[hc2,if_neg (by omega),if_neg (by omega),if_neg (by omega)]
  rw[show 191+KyO m-191=KyO m by omega,ht,Z6i _ _ (Km3 (by omega) hk)]
  simp only[]
  rw[if_neg (by omega)]
  simp [Nat.add_assoc,Nat.add_comm 1]
theorem Kgw {bs:List UInt8} {s:RSt} {n:Int} (hs:s.err=0) (h:Short bs s.pos (qkv n)):(KqA bs s).2.err=6:=by
 have hl:=h.len
 obtain ⟨x,h0,h1,h2⟩:=h
 unfold KqA
 rw[if_pos hs]
 cases hc:bs[s.pos]? with
 | none=>rfl
 | some c =>
  show (qUk _ _ _).2.err=6
  have hd:∃y,bs.drop s.pos=c::y:=by
   have hlt:=(List.getElem?_eq_some_iff.1 hc)
   obtain ⟨hl,he⟩:=hlt
   exact ⟨_,by rw[List.drop_eq_getElem_cons hl,he]⟩
  obtain ⟨y,hd⟩:=hd
  rw[hd]at h1
  have hyl:=congrArg List.length hd
  rw[List.length_drop,List.length_cons]at hyl
  have hb:=qcd n
  unfold qkv at h1 hl
  by_cases hk:KyO n=0
  ·rw[if_pos hk]at hl
   simp at hl
   omega
  ·rw[if_neg hk]at h1 hl
   injection h1 with h3 h4
   have hc1:=qTL (191+KyO n)
   rw[h3]at hc1
   simp only[List.length_cons,List.length_map,List.length_range]at hl
   unfold qUk
   rw[if_neg (by omega),if_pos (by omega)]
theorem YPT {bs:List UInt8} {s:RSt} {l:List UInt8} (a:Int) (hs:s.err=0) (h:Has bs s.pos l):qwD bs s l.length a=(l,{ s with pos:=s.pos+l.length }):=by
 have:=h.le
 unfold qwD
 rw[if_pos hs,if_neg (by omega),h.take]
theorem zKt {bs:List UInt8} {s:RSt} {l:List UInt8} (a:Int) (hs:s.err=0) (h:Short bs s.pos l):(qwD bs s l.length a).2.err=6:=by
 have:=h.len
 unfold qwD
 rw[if_pos hs,if_pos (by omega)]
theorem z3v (bs:List UInt8) (s:RSt) (n:Nat) (a:Int) (h:s.err≠0):qwD bs s n a=([],s):=by rw[qwD,if_neg h]
theorem QQw {bs:List UInt8} {s:RSt} {n most:Int} (hs:s.err=0) (h0:0<=n) (h1:n<=9223372036854775807) (hm:n<=most) (h:Has bs s.pos (qkv n)):qlW bs s most=(n,{ s with pos:=s.pos+(qkv n).length }):=by
 unfold qlW
 rw[if_pos hs,J58 hs h0 h1 h,if_neg (by simp;omega)]
theorem RSt.fail_err {s:RSt} (e a:Int) (h:s.err≠0):s.fail e a=s:=by unfold RSt.fail;rw[if_neg h]
theorem X4x {bs:List UInt8} {s:RSt} {n most:Int} (hs:s.err=0) (h:Short bs s.pos (qkv n)):(qlW bs s most).2.err=6:=by
 have:=Kgw hs h
 unfold qlW
 rw[if_pos hs]
 split
 ·show (RSt.fail _ _ _).err=6
  rw[RSt.fail_err _ _ (by rw[this];decide),this]
 ·exact this
theorem KSu (bs:List UInt8) (s:RSt) (most:Int) (h:s.err≠0):qlW bs s most=(0,s):=by rw[qlW,if_neg h]
theorem KtJ (bs:List UInt8) (s:RSt) (most:Int) (h:s.err≠0):JrE bs s most=([],s):=by
 unfold JrE
 rw[KSu _ _ _ h,z3v _ _ _ _ h]
theorem YRC {bs:List UInt8} {s:RSt} {l:List UInt8} (hs:s.err=0) (hl:l.length=32) (h:Has bs s.pos l):rdID bs s=(l,{ s with pos:=s.pos+l.length }):=by
 unfold rdID
 have:=YPT (Xis s) hs h
 rw[hl]at this
 rw[this,if_pos hl,hl]
theorem qkt {bs:List UInt8} {s:RSt} {l:List UInt8} (hs:s.err=0) (hl:l.length=32) (h:Short bs s.pos l):(rdID bs s).2.err=6:=by
 have:=zKt (Xis s) hs h
 rw[hl]at this
 exact this
theorem Y2T (bs:List UInt8) (s:RSt) (h:s.err≠0):(rdID bs s).2=s:=by
 unfold rdID
 rw[z3v _ _ _ _ h]
theorem YU6 {bs:List UInt8} {s:RSt} {a b:Int} (hs:s.err=0) (ha:0<=a) (ha1:a<=9223372036854775807) (hb:0<=b) (hb1:b<=9223372036854775807) (h:Has bs s.pos (qkv a++qkv b)):Z3k bs s=((a,b),{ s with pos:=s.pos+(qkv a++qkv b).length }):=by
 unfold Z3k
 have h1:=J58 hs ha ha1 h.left
 have h2:=J58 (bs:=bs) (s:={ s with pos:=s.pos+(qkv a).length }) hs hb hb1 h.right
 rw[h1]
 simp only[]
 rw[h2,if_pos hs]
 simp [Nat.add_assoc]
theorem KMa {bs:List UInt8} {s:RSt} {a b:Int} (hs:s.err=0) (ha:0<=a) (ha1:a<=9223372036854775807) (h:Short bs s.pos (qkv a++qkv b)):(Z3k bs s).2.err=6:=by
 have hd:(Z3k bs s).2=(KqA bs (KqA bs s).2).2:=by unfold Z3k;split <;> rfl
 rw[hd]
 rcases h.cut with h1|⟨h1,h2⟩
 ·have:=Kgw hs h1
  rw[KMw _ _ (by rw[this];decide),this]
 ·rw[J58 hs ha ha1 h1]
  exact Kgw (s:={ s with pos:=s.pos+(qkv a).length }) hs h2
theorem XTv (bs:List UInt8) (s:RSt) (h:s.err≠0):(Z3k bs s).2=s:=by
 have hd:(Z3k bs s).2=(KqA bs (KqA bs s).2).2:=by unfold Z3k;split <;> rfl
 rw[hd,KMw _ _ h,KMw _ _ h]
theorem YQi (bs:List UInt8):∀(xs:List Int) (s:RSt) (acc:List Int),s.err=0->(∀x∈xs,0<=x/\x<=9223372036854775807)->Has bs s.pos (qBw xs)->KiA bs xs.length s acc=(acc++xs,{ s with pos:=s.pos+(qBw xs).length })
 | [],s,acc,hs,_,_=>by
  show (if s.err=0 then (acc,s) else ([],s))=_
  rw[if_pos hs]
  simp [qBw]
 | x::xs,s,acc,hs,hx,h=>by
  have he:qBw (x::xs)=qkv x++qBw xs:=rfl
  rw[he]at h ⊢
  have h1:=J58 hs (hx x (.head _)).1 (hx x (.head _)).2 h.left
  show (if s.err=0 then KiA bs xs.length (KqA bs s).2 (acc++[(KqA bs s).1]) else ([],s))=_
  rw[if_pos hs,h1]
  have:=YQi bs xs { s with pos:=s.pos+(qkv x).length } (acc++[x]) hs (fun y hy=>hx y (.tail _ hy)) h.right
  simp only[this]
  simp [Nat.add_assoc]
theorem YmL (bs:List UInt8):∀(xs:List Int) (s:RSt) (acc:List Int),s.err=0->(∀x∈xs,0<=x/\x<=9223372036854775807)->Short bs s.pos (qBw xs)->(KiA bs xs.length s acc).2.err=6
 | [],s,acc,hs,_,h=>by
  have:=h.len
  obtain ⟨x,h0,h1,h2⟩:=h
  simp [qBw]at this
  omega
 | x::xs,s,acc,hs,hx,h=>by
  have he:qBw (x::xs)=qkv x++qBw xs:=rfl
  rw[he]at h
  show (if s.err=0 then KiA bs xs.length (KqA bs s).2 (acc++[(KqA bs s).1]) else ([],s)).2.err=6
  rw[if_pos hs]
  rcases h.cut with h1|⟨h1,h2⟩
  ·have:=Kgw hs h1
   rw[Q7s _ _ _ _ (by rw[this];decide),this]
  ·rw[J58 hs (hx x (.head _)).1 (hx x (.head _)).2 h1]
   exact YmL bs xs { s with pos:=s.pos+(qkv x).length } _ hs (fun y hy=>hx y (.tail _ hy)) h2
theorem JAu (bs:List UInt8) (s:RSt) (most:Int) (h:s.err≠0):(QDw bs s most).2=s:=by
 unfold QDw
 rw[KSu _ _ _ h,Q7s _ _ _ _ h]
def RGood (bs:List UInt8) (s:RSt):Prop:=s.pos<=bs.length/\(s.err≠0->0<=s.ea/\s.ea<=bs.length)
theorem RGood.fail {bs:List UInt8} {s:RSt} (h:RGood bs s) (e a:Int) (h0:0<=a) (h1:a<=bs.length):RGood bs (s.fail e a):=by
 unfold RSt.fail
 split
 ·exact ⟨h.1,fun _=>⟨h0,h1⟩⟩
 ·exact h
theorem QkV {bs:List UInt8} {s:RSt} (h:RGood bs s):0<=Xis s/\Xis s<=bs.length:=by
 unfold Xis
 have:=h.1
 split <;> omega
theorem RGood.num {bs:List UInt8} {s:RSt} (h:RGood bs s):RGood bs (KqA bs s).2:=by
 have h1:=h.1
 unfold KqA
 split
 ·split
  ·exact ⟨h1,fun _=>by simp;omega⟩
  ·unfold qUk
   split
   ·exact ⟨h1,fun _=>by simp;omega⟩
   split
   ·exact ⟨h1,fun _=>by simp;omega⟩
   split
   ·exact ⟨by simp;omega,fun e=>absurd ‹s.err=0› e⟩
   ·simp only[]
    split
    ·exact ⟨h1,fun _=>by simp;omega⟩
    ·exact ⟨by simp;omega,fun e=>absurd ‹s.err=0› e⟩
 ·exact h
theorem RGood.take {bs:List UInt8} {s:RSt} (h:RGood bs s) (n:Nat) (a:Int) (h0:0<=a) (h1:a<=bs.length):RGood bs (qwD bs s n a).2:=by
 have h2:=h.1
 unfold qwD
 split
 ·split
  ·exact ⟨h2,fun _=>⟨h0,h1⟩⟩
  ·rename_i hs _
   exact ⟨by simp;omega,fun e=>absurd hs e⟩
 ·exact h
theorem RGood.many {bs:List UInt8} {s:RSt} (h:RGood bs s) (most:Int):RGood bs (qlW bs s most).2:=by
 have h1:=h.1
 unfold qlW
 split
 ·split
  ·exact h.num.fail _ _ (by omega) (by omega)
  ·exact h.num
 ·exact h
theorem RGood.bytes {bs:List UInt8} {s:RSt} (h:RGood bs s) (most:Int):RGood bs (JrE bs s most).2:=
 (h.many most).take _ _ (QkV h).1 (QkV h).2
theorem RGood.id {bs:List UInt8} {s:RSt} (h:RGood bs s):RGood bs (rdID bs s).2:=h.take _ _ (QkV h).1 (QkV h).2
theorem RGood.dot {bs:List UInt8} {s:RSt} (h:RGood bs s):RGood bs (Z3k bs s).2:=by
 have hd:(Z3k bs s).2=(KqA bs (KqA bs s).2).2:=by unfold Z3k;split <;> rfl
 rw[hd]
 exact h.num.num
theorem RGood.vecGo {bs:List UInt8}:∀(k:Nat) {s:RSt} (acc:List Int),RGood bs s->RGood bs (KiA bs k s acc).2
 | 0,s,acc,h=>by
  show RGood bs (if s.err=0 then (acc,s) else ([],s)).2
  split <;> exact h
 | k+1,s,acc,h=>by
  show RGood bs (if s.err=0 then KiA bs k (KqA bs s).2 (acc++[(KqA bs s).1]) else ([],s)).2
  split
  ·exact RGood.vecGo k _ h.num
  ·exact h
theorem RGood.vec {bs:List UInt8} {s:RSt} (h:RGood bs s) (most:Int):RGood bs (QDw bs s most).2:=RGood.vecGo _ _ (h.many most)
theorem Kak {n:Int} (h:n<192):KyO n=0:=by
 unfold KyO
 rw[if_pos h]
theorem zNu {bs:List UInt8} {s:RSt} (hs:s.err=0) (h:(KqA bs s).2.err=0) :
  Has bs s.pos (qkv (KqA bs s).1)/\(KqA bs s).2 = { s with pos:=s.pos+(qkv (KqA bs s).1).length }:=by
 unfold KqA at h ⊢
 rw[if_pos hs]at h ⊢
 cases hc:bs[s.pos]? with
 | none=>rw[hc]at h;cases h
 | some c =>
  rw[hc]at h
  have hlt:=(List.getElem?_eq_some_iff.1 hc)
  obtain ⟨hl,he⟩:=hlt
  have hd:bs.drop s.pos=c::bs.drop (s.pos+1):=by rw[List.drop_eq_getElem_cons hl,he]
  have hcl:=c.toNat_lt
  show Has bs s.pos (qkv (qUk bs s c.toNat).1)/\(qUk bs s c.toNat).2 = { s with pos:=s.pos+(qkv (qUk bs s c.toNat).1).length }
  have h':(qUk bs s c.toNat).2.err=0:=h
  clear h
  unfold qUk at h' ⊢
  by_cases h1:199<c.toNat
  ·rw[if_pos h1]at h'
   cases h'
  rw[if_neg h1]at h' ⊢
  by_cases h2:bs.length<s.pos+1+(c.toNat-191)
  ·rw[if_pos h2]at h'
   cases h'
  rw[if_neg h2]at h' ⊢
  by_cases h3:c.toNat<192
  ·rw[if_pos h3]at h' ⊢
   have e1:qkv (c.toNat:Int)=[c]:=by
    unfold qkv
    rw[if_pos (Kak (by omega))]
    have:=qTL (c.toNat:Int)
    congr 1
    apply UInt8.toNat_inj.1
    omega
   simp only[e1]
   exact ⟨⟨_,hd,by omega⟩,rfl⟩
  rw[if_neg h3]at h' ⊢
  simp only[]at h' ⊢
  have hlen:((bs.drop (s.pos+1)).take (c.toNat-191)).length=c.toNat-191:=by rw[List.length_take,List.length_drop];omega
  have hsplit:bs.drop (s.pos+1)=(bs.drop (s.pos+1)).take (c.toNat-191)++(bs.drop (s.pos+1)).drop (c.toNat-191):=(List.take_append_drop _ _).symm
  have hnb:=Jcf ((bs.drop (s.pos+1)).take (c.toNat-191))
  rw[hlen]at hnb
  generalize (bs.drop (s.pos+1)).take (c.toNat-191)=l at *
  by_cases h4:9223372036854775808<=QoH l\/KyO (QoH l)≠c.toNat-191
  ·rw[if_pos h4]at h'
   cases h'
  rw[if_neg h4]at h' ⊢
  have h5:KyO (QoH l)=c.toNat-191:=by
   apply Classical.byContradiction
   intro hne
   exact h4 (.inr hne)
  have e1:qkv (QoH l:Int)=c::l:=by
   unfold qkv
   have hc1:UInt8.ofInt (191+((c.toNat-191:Nat):Int))=c:=by
    apply UInt8.toNat_inj.1
    have:=qTL (191+((c.toNat-191:Nat):Int))
    omega
   rw[if_neg (by omega),h5,hnb,hc1]
  simp only[e1]
  refine ⟨⟨(bs.drop (s.pos+1)).drop (c.toNat-191),?_,by omega⟩,?_⟩
  ·rw[hd]
   exact congrArg (c :: ·) hsplit
  ·simp [hlen]
   omega
theorem K6Q {bs:List UInt8} {s:RSt} (n:Nat) (a:Int) (hs:s.err=0) (hg:RGood bs s) (h:(qwD bs s n a).2.err=0) :
  Has bs s.pos (qwD bs s n a).1/\(qwD bs s n a).1.length=n/\(qwD bs s n a).2 = { s with pos:=s.pos+n }:=by
 have h1:=hg.1
 unfold qwD at h ⊢
 rw[if_pos hs]at h ⊢
 split at h
 ·cases h
 ·rename_i hn
  rw[if_neg hn]
  refine ⟨⟨(bs.drop s.pos).drop n,(List.take_append_drop _ _).symm,h1⟩,?_,rfl⟩
  rw[List.length_take,List.length_drop]
  omega
theorem QRN {bs:List UInt8} {s:RSt} (most:Int) (hs:s.err=0) (h:(qlW bs s most).2.err=0) :
  Has bs s.pos (qkv (qlW bs s most).1)/\(qlW bs s most).2 = { s with pos:=s.pos+(qkv (qlW bs s most).1).length }/\(qlW bs s most).1<=most:=by
 unfold qlW at h ⊢
 rw[if_pos hs]at h ⊢
 by_cases hm:most<(KqA bs s).1
 ·rw[if_pos hm]at h
  exfalso
  unfold RSt.fail at h
  split at h
  ·cases h
  ·rename_i hne
   exact hne h
 ·rw[if_neg hm]at h ⊢
  exact ⟨(zNu hs h).1,(zNu hs h).2,by omega⟩
theorem Has.join {bs:List UInt8} {pos:Nat} {a b:List UInt8} (h:Has bs pos a) (h2:Has bs (pos+a.length) b):Has bs pos (a++b):=by
 obtain ⟨x,h1,h0⟩:=h
 obtain ⟨y,h3,_⟩:=h2
 refine ⟨y,?_,h0⟩
 rw[<-List.drop_drop,h1,List.drop_left]at h3
 rw[h1,h3,List.append_assoc]
theorem YiQ {bs:List UInt8} {s:RSt} (hs:s.err=0) (hg:RGood bs s) (h:(rdID bs s).2.err=0) :
  Has bs s.pos (rdID bs s).1/\(rdID bs s).2 = { s with pos:=s.pos+(rdID bs s).1.length }:=by
 obtain ⟨t1,t2,t3⟩:=K6Q 32 (Xis s) hs hg h
 unfold rdID
 rw[if_pos t2]
 exact ⟨t1,by rw[t2];exact t3⟩
structure De where
 media:Int
 id:List UInt8
 size:Int
 plat:List UInt8
deriving instance DecidableEq for De
structure Man where
 kind:Int
 title:List UInt8
 config:De
 layers:List De
 subs:List De
def wN (lim:Int) (r:List UInt8×Int) (n:Int):List UInt8×Int:=wput lim r.1 r.2 (qkv n) (decide (0<=n))
def wTx (lim:Int) (r:List UInt8×Int) (s:List UInt8):List UInt8×Int:=wput lim r.1 r.2 (qkv s.length++s) true
def wId (lim:Int) (r:List UInt8×Int) (d:List UInt8):List UInt8×Int:=wput lim r.1 r.2 d true
theorem zvB (lim:Int) (bs:List UInt8) (err:Int) (enc:List UInt8) (ok:Bool) (h:(bs.length:Int)<=lim):((wput lim bs err enc ok).1.length:Int)<=lim:=by
 unfold wput
 split
 ·split
  ·split
   ·exact h
   ·simp only[List.length_append]
    omega
  ·exact h
 ·exact h
theorem ZIz (bs:List UInt8) (s:RSt):(rdID bs s).1.length=32:=by
 unfold rdID
 split <;> simp_all
theorem ZBN (bs:List UInt8) (s:RSt):∃(N:Nat) (s':RSt),KqA bs s=((N:Int),s'):=⟨(KqA bs s).1.toNat,(KqA bs s).2,Prod.ext (Int.toNat_of_nonneg (zpc _ _).1).symm rfl⟩
end
section
section
variable {α β γ:Type}
def Rdr (f:List UInt8->RSt->α×RSt) (e:List UInt8) (v:α):Prop:=
 (∀bs s,s.err=0->Has bs s.pos e->f bs s=(v,{ s with pos:=s.pos+e.length })) /\
 (∀bs s,s.err=0->Short bs s.pos e->(f bs s).2.err=6) /\
 (∀bs s,s.err≠0->(f bs s).2=s)
theorem Rdr.map {f:List UInt8->RSt->α×RSt} {e:List UInt8} {v:α} (hf:Rdr f e v) (φ:α->β):Rdr (fun bs s=>(φ (f bs s).1,(f bs s).2)) e (φ v):=
 ⟨fun bs s hs h=>by dsimp only;rw[hf.1 bs s hs h],fun bs s hs h=>hf.2.1 bs s hs h,fun bs s hs=>hf.2.2 bs s hs⟩
theorem Zhm {l:List UInt8} (hl:l.length=32):Rdr rdID l l:=
 ⟨fun _ _ hs h=>YRC hs hl h,fun _ _ hs h=>qkt hs hl h,fun bs s h=>Y2T bs s h⟩
theorem KPv {l:List UInt8} {most:Int} (hl:l.length<=1048576) (hm:(l.length:Int)<=most):Rdr (fun bs s=>JrE bs s most) (qkv l.length++l) l:=by
 refine ⟨fun bs s hs h=>?_,fun bs s hs h=>?_,fun bs s h=>by dsimp only;rw[KtJ bs s most h]⟩
 ·dsimp only
  unfold JrE
  rw[QQw hs (by omega) (by omega) hm h.left]
  have:=YPT (bs:=bs) (s:={ s with pos:=s.pos+(qkv l.length).length }) (Xis s) hs h.right
  simp only[Int.toNat_natCast]
  rw[this]
  simp [Nat.add_assoc]
 ·dsimp only
  unfold JrE
  rcases h.cut with h1|⟨h1,h2⟩
  ·have:=X4x (most:=most) hs h1
   rw[z3v _ _ _ _ (by rw[this];decide),this]
  ·rw[QQw hs (by omega) (by omega) hm h1]
   exact zKt (s:={ s with pos:=s.pos+(qkv l.length).length }) _ hs h2
end
end
end Go.Proofs.YtekeoichmdiiiaaGreat
