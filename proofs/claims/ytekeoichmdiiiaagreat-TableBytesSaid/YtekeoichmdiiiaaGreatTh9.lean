/- Part 9 of what the laws' proofs rest on. No condition. -/
import Derived.Test.YtekeoichmdiiiaaGreatTh8
set_option linter.all false
namespace Go.Proofs.YtekeoichmdiiiaaGreat
section
open Go.RowKit
noncomputable def nthA (l:List AV):Nat->AV:=List.rec (motive:=fun _=>Nat->AV) (fun _=>.tu []) (fun a _ ih n=>Nat.rec (motive:=fun _=>AV) a (fun m _=>ih m) n) l
noncomputable def nthO (l:List AV):Nat->Option AV:=List.rec (motive:=fun _=>Nat->Option AV) (fun _=>none) (fun a _ ih n=>Nat.rec (motive:=fun _=>Option AV) (some a) (fun m _=>ih m) n) l
noncomputable def getB (l:List AB):Nat->Option AB:=List.rec (motive:=fun _=>Nat->Option AB) (fun _=>none) (fun a _ ih n=>Nat.rec (motive:=fun _=>Option AB) (some a) (fun m _=>ih m) n) l
noncomputable def setB (l:List AB):Nat->AB->List AB:=List.rec (motive:=fun _=>Nat->AB->List AB) (fun _ _=>[]) (fun a t ih n v=>Nat.rec (motive:=fun _=>List AB) (v::t) (fun m _=>a::ih m v) n) l
theorem QCq:∀(l:List AV) (n:Nat),nthA l n=l.getD n (.tu [])
 | [],_=>by simp [nthA]
 | _::_,0=>rfl
 | _::l,n+1=>by
  have:=QCq l n
  simpa [nthA] using this
theorem XVU:∀(l:List AV) (n:Nat),nthO l n=l[n]?
 | [],_=>by simp [nthO]
 | _::_,0=>rfl
 | _::l,n+1=>by
  have:=XVU l n
  simpa [nthO] using this
theorem YKr:∀(l:List AB) (n:Nat),getB l n=l[n]?
 | [],_=>by simp [getB]
 | _::_,0=>rfl
 | _::l,n+1=>by
  have:=YKr l n
  simpa [getB] using this
theorem XoF:∀(l:List AB) (n:Nat) (v:AB),setB l n v=l.set n v
 | [],_,_=>by simp [setB]
 | _::_,0,_=>rfl
 | a::l,n+1,v=>by
  have:=XoF l n v
  simpa [setB] using this
noncomputable def Q6b (h:List AB) (id:Nat):Option (List AV):=
 match getB h id with
 | some (.blk _ _ xs)=>some xs
 | _=>none
theorem Yy8 (h:List AB) (id:Nat):Q6b h id=zZU h id:=by
 unfold Q6b zZU
 rw[YKr]
 rfl
noncomputable def ldVF (h:List AB):Option Nat->AV->Option AV
 | none,.p id off=>(Q6b h id).bind fun xs=>nthO xs off
 | some n,.p id off=>(Q6b h id).bind fun xs=>if off+n<=xs.length then some (.ag ((xs.drop off).take n)) else none
 | _,_=>none
theorem Zut (h:List AB) (n:Option Nat) (x:AV):ldVF h n x=ldV h n x:=by
 unfold ldVF ldV
 simp only[Yy8,XVU]
 rfl
noncomputable def stBF (h:List AB) (id off:Nat) (l:List AV):Option (List AB):=
 match getB h id with
 | some (.blk fl true xs)=>if off+l.length<=xs.length/\l.all (wrOk fl)=true then some (setB h id (.blk fl true (over xs off l))) else none
 | _=>none
theorem QQa (h:List AB) (id off:Nat) (l:List AV):stBF h id off l=stB h id off l:=by
 unfold stBF stB
 simp only[YKr,XoF]
 rfl
noncomputable def stVF (h:List AB):Option Nat->AV->AV->Option (List AB)
 | none,.p id off,v=>if v.one then stBF h id off [v] else none
 | some n,.p id off,.ag l=>if l.length=n then stBF h id off l else none
 | _,_,_=>none
theorem Z8q (h:List AB) (n:Option Nat) (x y:AV):stVF h n x y=stV h n x y:=by
 unfold stVF stV
 simp only[QQa]
 rfl
noncomputable def JGa (h:List AB) (sz:Nat):AV->Option (Nat×List AV)
 | .ns=>some (0,[])
 | .se=>some (0,[])
 | .s l=>if sz=1 then some (l.length,l.map fun b=>.i .u8 b.toNat) else none
 | .sl id off len _ _=>if len=0 then some (0,[]) else (Q6b h id).bind fun xs=>if off+len*sz<=xs.length then some (len,(xs.drop off).take (len*sz)) else none
 | _=>none
theorem ZU2 (h:List AB) (sz:Nat) (x:AV):JGa h sz x=srcV h sz x:=by
 unfold JGa srcV
 simp only[Yy8]
 rfl
noncomputable def Q42 (h:List AB) (fl:Bool) (sz by_:Nat) (s x:AV):Option (AV×List AB):=
 (JGa h sz x).bind fun (m,ys) =>
  if ys.all (wrOk fl)=true then
   match s with
   | .ns=>if m=0 then some (.ns,h) else if m*by_<=140737488355328/\m<=maxLen then some (.sl h.length 0 m m (some sz),h++[.blk fl true ys]) else none
   | .sl id off len cap k =>
    if m=0 then some (.sl id off len cap k,h)
    else if len+m<=cap then (stBF h id (off+len*sz) ys).map fun h'=>(.sl id off (len+m) cap k,h')
    else match getB h id with
     | some (.blk fl' mu xs) =>
      if fl'=fl/\off+len*sz<=xs.length/\(len+m)*by_<=140737488355328/\len+m<=maxLen then
       if k=none then some (.sl h.length 0 (len+m) (len+m) (some sz),h++[.blk fl true ((xs.drop off).take (len*sz)++ys)])
       else if k=some sz/\sz≠0/\mu=true/\off+len*sz=xs.length then some (.sl h.length 0 (len+m) (len+m) (some sz),(setB h id .dead)++[.blk fl true (xs.drop off++ys)])
       else if k=some sz/\sz≠0/\mu=true then some (.sl h.length 0 (len+m) (len+m) (some sz),(setB h id .dead)++[.blk fl true ((xs.drop off).take (len*sz)++ys)])
       else none
      else none
     | _=>none
   | _=>none
  else none
theorem Xro (h:List AB) (fl:Bool) (sz by_:Nat) (s x:AV):Q42 h fl sz by_ s x=appV h fl sz by_ s x:=by
 unfold Q42 appV
 simp only[ZU2,QQa,YKr,XoF]
 rfl
noncomputable def X6D (h:List AB) (sz:Nat) (d s:AV):Option (AV×List AB):=
 (JGa h sz s).bind fun (m,ys) =>
  match d with
  | .sl id off len _ _=>if m<=len then (stBF h id off ys).map fun h'=>(.i .i64 m,h') else none
  | _=>none
theorem XvE (h:List AB) (sz:Nat) (d s:AV):X6D h sz d s=cpyV h sz d s:=by
 unfold X6D cpyV
 simp only[ZU2,QQa]
 rfl
noncomputable def r_mv (ev:Opd->AV) (h:List AB) (x:Opd):Option (AV×List AB):=
 some (ev x,h)
noncomputable def XHg (ev:Opd->AV) (h:List AB) (c a b:Opd):Option (AV×List AB):=
 match ev c with
  | .b t=>some (if t then ev a else ev b,h)
  | _=>none
noncomputable def QuP (ev:Opd->AV) (h:List AB) (op:BinOp) (x y:Opd):Option (AV×List AB):=
 (binV op (ev x) (ev y)).map (·,h)
noncomputable def Ynv (ev:Opd->AV) (h:List AB) (neg:Bool) (x y:Opd):Option (AV×List AB):=
 match ev x,ev y with
  | .b p,.b q=>some (.b ((p == q) ^^ neg),h)
  | _,_=>none
noncomputable def YOh (ev:Opd->AV) (h:List AB) (ks:List CK) (neg:Bool) (x y:Opd):Option (AV×List AB):=
 match ev x,ev y with
  | .ag l,.ag l'=>(JTs ks l l').map fun r=>(.b (r ^^ neg),h)
  | _,_=>none
noncomputable def QMK (ev:Opd->AV) (h:List AB) (neg:Bool) (x y:Opd):Option (AV×List AB):=
 (ZAx (ev x) (ev y)).map fun r=>(.b (r ^^ neg),h)
noncomputable def r_un (ev:Opd->AV) (h:List AB) (op:UnOp) (x:Opd):Option (AV×List AB):=
 (unV op (ev x)).map (·,h)
noncomputable def zqM (ev:Opd->AV) (h:List AB) (k:IntKind) (x:Opd):Option (AV×List AB):=
 (ev x).int?.map fun n=>(.i k (k.wrap n),h)
noncomputable def z68 (ev:Opd->AV) (h:List AB) (x:Opd):Option (AV×List AB):=
 match ev x with
  | .s l=>some (.s l,h)
  | _=>none
noncomputable def Xl1 (ev:Opd->AV) (h:List AB) (off:Nat) (x:Opd):Option (AV×List AB):=
 match ev x with
  | .p id o=>some (.p id (o+off),h)
  | _=>none
noncomputable def Zqy (ev:Opd->AV) (h:List AB) (off:Nat) (sz:Option Nat) (x:Opd):Option (AV×List AB):=
 match ev x with
  | .ag l=>match sz with
   | none=>(l[off]?).map (·,h)
   | some n=>some (.ag ((l.drop off).take n),h)
  | _=>none
noncomputable def ZRn (ev:Opd->AV) (h:List AB) (sz:Nat) (x i:Opd):Option (AV×List AB):=
 match ev x,ev i with
  | .sl id off k _ _,.i _ n=>if 0<=n/\n<k then some (.p id (off+n.toNat*sz),h) else none
  | _,_=>none
noncomputable def KVB (ev:Opd->AV) (h:List AB) (k sz:Nat) (x i:Opd):Option (AV×List AB):=
 match ev x,ev i with
  | .p id off,.i _ n=>if 0<=n/\n<k then some (.p id (off+n.toNat*sz),h) else none
  | _,_=>none
noncomputable def Xyk (ev:Opd->AV) (h:List AB) (x i:Opd):Option (AV×List AB):=
 match ev x,ev i with
  | .s l,.i _ n=>if 0<=n then (l[n.toNat]?).map fun b=>(.i .u8 b.toNat,h) else none
  | _,_=>none
noncomputable def KVC (ev:Opd->AV) (h:List AB) (k sz:Nat) (agg:Bool) (x i:Opd):Option (AV×List AB):=
 match ev x,ev i with
  | .ag l,.i _ n=>if 0<=n/\n<k then (if agg then some (.ag ((l.drop (n.toNat*sz)).take sz),h) else (l[n.toNat*sz]?).map (·,h)) else none
  | _,_=>none
noncomputable def Y9z (ev:Opd->AV) (h:List AB) (x:Opd) (lo hi:Option Opd):Option (AV×List AB):=
 match ev x with
  | .s l=>(slS l (lo.map ev) (hi.map ev)).map (·,h)
  | _=>none
noncomputable def Jkh (ev:Opd->AV) (h:List AB) (sz:Nat) (x:Opd) (lo hi mx:Option Opd):Option (AV×List AB):=
 (slL sz (ev x) (lo.map ev) (hi.map ev) (mx.map ev)).map (·,h)
noncomputable def Zs6 (ev:Opd->AV) (h:List AB) (n sz:Nat) (x:Opd) (lo hi mx:Option Opd):Option (AV×List AB):=
 (slA n sz (ev x) (lo.map ev) (hi.map ev) (mx.map ev)).map (·,h)
noncomputable def q0u (ev:Opd->AV) (h:List AB) (t:TypeId) (x:Opd):Option (AV×List AB):=
 some (.ifc t (ev x),h)
noncomputable def YSz (ev:Opd->AV) (h:List AB) (fn:Fn) (fst cap:List Opd):Option (AV×List AB):=
 some (.f fn (fst.map ev) (cap.map ev),h)
noncomputable def XNw (ev:Opd->AV) (h:List AB) (x:Opd) (i:Nat):Option (AV×List AB):=
 match ev x with
  | .tu l=>(l[i]?).map (·,h)
  | _=>none
noncomputable def zVz (ev:Opd->AV) (h:List AB) (str:Bool) (x:Opd):Option (AV×List AB):=
 if (ev x).isStr=str then (lenV (ev x)).map fun n=>(.i .i64 n,h) else none
noncomputable def qEr (_ev:Opd->AV) (h:List AB) (n:Nat):Option (AV×List AB):=
 some (.i .i64 n,h)
noncomputable def r_mm (ev:Opd->AV) (h:List AB) (mx:Bool) (x y:Opd):Option (AV×List AB):=
 (mmV mx (ev x) (ev y)).map (·,h)
noncomputable def zzA (ev:Opd->AV) (h:List AB) (x:Opd):Option (AV×List AB):=
 match ev x with
  | .p id off=>some (.p id off,h)
  | .f (.func f) fst cap=>some (.f (.func f) fst cap,h)
  | .f (.yield l) fst cap=>some (.f (.yield l) fst cap,h)
  | .ifc t v=>some (.ifc t v,h)
  | _=>none
noncomputable def QKQ (ev:Opd->AV) (h:List AB) (x:Opd) (t:TypeId) (ok:Bool) (z:AV):Option (AV×List AB):=
 match ev x with
  | .ifc t' v=>if t'=t then some (if ok then .tu [v,.b true] else v,h) else if ok then some (.tu [z,.b false],h) else none
  | .ni=>if ok then some (.tu [z,.b false],h) else none
  | _=>none
noncomputable def r_ld (ev:Opd->AV) (h:List AB) (n:Option Nat) (x:Opd):Option (AV×List AB):=
 (ldVF h n (ev x)).map (·,h)
noncomputable def r_st (ev:Opd->AV) (h:List AB) (n:Option Nat) (x v:Opd):Option (AV×List AB):=
 (stVF h n (ev x) (ev v)).map (.tu [],·)
noncomputable def Jzz (_ev:Opd->AV) (h:List AB) (fl:Bool) (zs:List AV):Option (AV×List AB):=
 newB h fl zs (fun n=>.p n 0)
noncomputable def ZBR (ev:Opd->AV) (h:List AB) (fl:Bool) (n:Nat) (x:Opd):Option (AV×List AB):=
 if (ev x).cells.length=n then newB h fl (ev x).cells (fun n=>.p n 0) else none
noncomputable def ZzA (ev:Opd->AV) (h:List AB) (zs:List AV) (ps:List (Nat×Nat×Opd)):Option (AV×List AB):=
 (zlr ev zs ps).map fun cs=>(.ag cs,h)
noncomputable def ZuV (ev:Opd->AV) (h:List AB) (fl:Bool) (k:Nat) (zs:List AV) (ps:List (Nat×Nat×Opd)):Option (AV×List AB):=
 (zlr ev zs ps).bind fun cs=>newB h fl cs (fun n=>.sl n 0 k k none)
noncomputable def Q0O (ev:Opd->AV) (h:List AB) (fl:Bool) (z:List AV) (by_:Nat) (le ca:Opd):Option (AV×List AB):=
 match ev le,ev ca with
  | .i _ l,.i _ c=>if 0<=l/\l<=c/\(by_:Int)*c<=2 ^ 47/\c<=maxLen then newB h fl ((List.replicate c.toNat z).flatten) (fun n=>.sl n 0 l.toNat c.toNat none) else none
  | _,_=>none
noncomputable def zIi (ev:Opd->AV) (h:List AB) (str fl:Bool) (sz by_:Nat) (s x:Opd):Option (AV×List AB):=
 if (ev x).isStr=str then Q42 h fl sz by_ (ev s) (ev x) else none
noncomputable def zId (ev:Opd->AV) (h:List AB) (str:Bool) (sz:Nat) (d s:Opd):Option (AV×List AB):=
 if (ev s).isStr=str then X6D h sz (ev d) (ev s) else none
noncomputable def QPl (ev:Opd->AV) (h:List AB) (x:Opd):Option (AV×List AB):=
 match ev x with
  | .ns=>some (.i .i64 0,h)
  | .sl _ _ _ c none=>some (.i .i64 c,h)
  | _=>none
noncomputable def qay (ev:Opd->AV) (h:List AB) (fl:Bool) (z:List AV) (by_:Nat) (s n:Opd):Option (AV×List AB):=
 match ev s,ev n with
  | .ns,.i _ m=>if m=0 then some (.ns,h) else if 0<m/\m.toNat*by_<=140737488355328/\m.toNat<=maxLen then newB h fl ((List.replicate m.toNat z).flatten) (fun k=>.sl k 0 m.toNat m.toNat (some z.length)) else none
  | _,_=>none
noncomputable def ZBu (_ev:Opd->AV) (_h:List AB)  : Option (AV×List AB):=
 none
noncomputable def K3q (ev:Opd->AV) (h:List AB) (x:Opd):Option (AV×List AB):=
 if (ev x).isStr then none else (JGa h 1 (ev x)).bind fun (_,cs)=>(bytesOf cs).map fun l=>(.s l,h)
noncomputable def qLH (ev:Opd->AV) (h:List AB) (z:List AV) (x:Opd):Option (AV×List AB):=
 match ev x with
  | .ns=>some (.tu [],h)
  | .se=>some (.tu [],h)
  | .sl id off n _ _=>if n=0 then some (.tu [],h) else (stBF h id off ((List.replicate n z).flatten)).map (.tu [],·)
  | _=>none
noncomputable def qKE (ev:Opd->AV) (h:List AB) (x y:Opd):Option (AV×List AB):=
 (JGa h 1 (ev x)).bind fun (_,xs)=>(JGa h 1 (ev y)).bind fun (_,ys)=>(bytesOf xs).bind fun l=>(bytesOf ys).map fun m=>(.i .i64 (Extern.BytealgCompare.cmp ⟨l.toArray⟩ ⟨m.toArray⟩),h)
noncomputable def Xvi (ev:Opd->AV) (h:List AB) (x:Opd):Option (AV×List AB):=
 match ev x with
  | .s l=>if l.length<=maxLen then some (.sl h.length 0 l.length l.length (some 1),h++[.blk true false (l.map fun b=>.i .u8 (b.toNat:Int))]) else none
  | _=>none
noncomputable def qC6 (ev:Opd->AV) (h:List AB) (x:Opd):Option (AV×List AB):=
 match ev x with
  | .s l=>some (.p h.length 0,h++[.iter ⟨l.toArray⟩ 0])
  | _=>none
noncomputable def qcA (ev:Opd->AV) (h:List AB) (x:Opd):Option (AV×List AB):=
 match ev x with
  | .p id 0=>match h[id]? with
   | some (.iter s pos)=>if pos<s.size then some (.tu [.b true,.i .i64 (pos:Int),.i .i32 ((Utf8.decode s pos).1:Int)],h.set id (.iter s (pos+(Utf8.decode s pos).2))) else some (.tu [.b false],h)
   | _=>none
  | _=>none
noncomputable def XQc (ev:Opd->AV) (h:List AB) (x:Opd):Option (AV×List AB):=
 match ev x with
  | .sl id off n c k=>if n=0 then none else match h[id]? with
   | some (.blk fl true xs)=>some (.sl id off n c k,h.set id (.blk fl false xs))
   | _=>none
  | _=>none
noncomputable def YXx (ev:Opd->AV) (h:List AB) (x y:Opd):Option (AV×List AB):=
 match ev x,ev y with
  | .s l,.i .u8 n=>some (.i .i64 (match (List.range l.length).find? fun i=>(⟨l.toArray⟩:ByteArray)[i]! == UInt8.ofNat n.toNat with|some i=>(i:Int)|none=>-1),h)
  | _,_=>none
noncomputable def zXf (_ev:Opd->AV) (h:List AB)  : Option (AV×List AB):=
 some (.m h.length,h++[.mo true (.map [] 0) []])
noncomputable def JYo (ev:Opd->AV) (h:List AB) (x:Opd):Option (AV×List AB):=
 (Jeg h (ev x)).map fun p=>(.i .i64 p.1.length,h)
noncomputable def zUU (ev:Opd->AV) (h:List AB) (ag:Bool) (ks:List CK) (ok:Bool) (z:AV) (x k:Opd):Option (AV×List AB):=
 (lkV h ag ks ok z (ev x) (ev k)).map (·,h)
noncomputable def QKE (ev:Opd->AV) (h:List AB) (ag:Bool) (ks:List CK) (x k v:Opd):Option (AV×List AB):=
 (muV h ag ks (ev x) (ev k) (ev v)).map (.tu [],·)
noncomputable def Qkd (ev:Opd->AV) (h:List AB) (ag:Bool) (ks:List CK) (x k:Opd):Option (AV×List AB):=
 (mdV h ag ks (ev x) (ev k)).map (.tu [],·)
noncomputable def JbY (ev:Opd->AV) (h:List AB) (x:Opd):Option (AV×List AB):=
 rgV h (ev x)
noncomputable def J8P (ev:Opd->AV) (h:List AB) (x:Opd):Option (AV×List AB):=
 (entV h (ev x)).map (·,h)
noncomputable def qS1 (ev:Opd->AV) (h:List AB) (x:Opd):Option (AV×List AB):=
 match mnxC h (ev x) with
  | some [r]=>some r
  | _=>none
noncomputable def KQ3 (ev:Opd->AV) (h:List AB) (x:Opd):Option (AV×List AB):=
 match ev x with
  | .i _ n=>if 0<=n/\n<128 then some (.s [UInt8.ofNat n.toNat],h) else none
  | _=>none
noncomputable def ZKk (_ev:Opd->AV) (_h:List AB) (_x0:Opd) (_x1:List Opd):Option (AV×List AB):=
 none
noncomputable def CO.runF (ev:Opd->AV) (h:List AB):CO->Option (AV×List AB)
 | .mv a0=>r_mv ev h a0
 | .pick a0 a1 a2=>XHg ev h a0 a1 a2
 | .bin a0 a1 a2=>QuP ev h a0 a1 a2
 | .eqb a0 a1 a2=>Ynv ev h a0 a1 a2
 | .eqc a0 a1 a2 a3=>YOh ev h a0 a1 a2 a3
 | .eqn a0 a1 a2=>QMK ev h a0 a1 a2
 | .un a0 a1=>r_un ev h a0 a1
 | .cvi a0 a1=>zqM ev h a0 a1
 | .cvs a0=>z68 ev h a0
 | .fad a0 a1=>Xl1 ev h a0 a1
 | .fld a0 a1 a2=>Zqy ev h a0 a1 a2
 | .iad a0 a1 a2=>ZRn ev h a0 a1 a2
 | .iaa a0 a1 a2 a3=>KVB ev h a0 a1 a2 a3
 | .ixs a0 a1=>Xyk ev h a0 a1
 | .ixa a0 a1 a2 a3 a4=>KVC ev h a0 a1 a2 a3 a4
 | .sls a0 a1 a2=>Y9z ev h a0 a1 a2
 | .sll a0 a1 a2 a3 a4=>Jkh ev h a0 a1 a2 a3 a4
 | .sla a0 a1 a2 a3 a4 a5=>Zs6 ev h a0 a1 a2 a3 a4 a5
 | .ifc a0 a1=>q0u ev h a0 a1
 | .mkf a0 a1 a2=>YSz ev h a0 a1 a2
 | .ext a0 a1=>XNw ev h a0 a1
 | .len a0 a1=>zVz ev h a0 a1
 | .lnc a0=>qEr ev h a0
 | .mm a0 a1 a2=>r_mm ev h a0 a1 a2
 | .nck a0=>zzA ev h a0
 | .tas a0 a1 a2 a3=>QKQ ev h a0 a1 a2 a3
 | .ld a0 a1=>r_ld ev h a0 a1
 | .st a0 a1 a2=>r_st ev h a0 a1 a2
 | .new a0 a1=>Jzz ev h a0 a1
 | .box a0 a1 a2=>ZBR ev h a0 a1 a2
 | .bld a0 a1=>ZzA ev h a0 a1
 | .bls a0 a1 a2 a3=>ZuV ev h a0 a1 a2 a3
 | .mks a0 a1 a2 a3 a4=>Q0O ev h a0 a1 a2 a3 a4
 | .app a0 a1 a2 a3 a4 a5=>zIi ev h a0 a1 a2 a3 a4 a5
 | .cpy a0 a1 a2 a3=>zId ev h a0 a1 a2 a3
 | .capo a0=>QPl ev h a0
 | .apz a0 a1 a2 a3 a4=>qay ev h a0 a1 a2 a3 a4
 | .stop=>ZBu ev h
 | .b2s a0=>K3q ev h a0
 | .clr a0 a1=>qLH ev h a0 a1
 | .bcmp a0 a1=>qKE ev h a0 a1
 | .s2b a0=>Xvi ev h a0
 | .rng a0=>qC6 ev h a0
 | .nxt a0=>qcA ev h a0
 | .s2s a0=>XQc ev h a0
 | .bix a0 a1=>YXx ev h a0 a1
 | .mkm=>zXf ev h
 | .mln a0=>JYo ev h a0
 | .lkp a0 a1 a2 a3 a4 a5=>zUU ev h a0 a1 a2 a3 a4 a5
 | .mup a0 a1 a2 a3 a4=>QKE ev h a0 a1 a2 a3 a4
 | .mdl a0 a1 a2 a3=>Qkd ev h a0 a1 a2 a3
 | .mrg a0=>JbY ev h a0
 | .ent a0=>J8P ev h a0
 | .mnx a0=>qS1 ev h a0
 | .r2s a0=>KQ3 ev h a0
 | .call a0 a1=>ZKk ev h a0 a1
theorem YNQ (ev:Opd->AV) (h:List AB) (o:CO):o.runF ev h=o.run ev h:=by
 cases o with
 | ld n x=>simp only[CO.runF,CO.run,r_ld,Zut]
 | st n x v=>simp only[CO.runF,CO.run,r_st,Z8q]
 | app str fl sz b s x=>simp only[CO.runF,CO.run,zIi,Xro]
 | cpy str sz d s=>simp only[CO.runF,CO.run,zId,XvE]
 | b2s x=>simp only[CO.runF,CO.run,K3q,ZU2]
 | clr z x=>simp only[CO.runF,CO.run,qLH,QQa];rfl
 | bcmp x y=>simp only[CO.runF,CO.run,qKE,ZU2]
 | _=>rfl
end
section
open Go.RowKit
inductive Job where
 | fn (cf:CF)
 | rd (id:Nat) (asg bd:CC)
noncomputable def q2n (fr:List AV):Option (Nat×Bool)->Option Bool
 | none=>some true
 | some (t,w)=>match nthA fr t with
  | .b x=>some (x == w)
  | .top=>none
  | _=>some false
structure Pt where
 k:Nat
 lo:Nat
 hi:Nat
 rs:List Nat
 ws:List Nat
def qRB (rs ws:List Nat):Nat->List AB->List AB
 | _,[]=>[]
 | i,B::l=>(if memN i ws then B else if memN i rs then B.freeze else .dead)::qRB rs ws (i+1) l
noncomputable def JkA (ws:List Nat) (G:List AB):Nat->List AB->List AB
 | i,[]=>G.drop i
 | i,B::l=>(if memN i ws then (getB G i).getD .dead else B)::JkA ws G (i+1) l
inductive MK where
 | free
 | ld (x:Opd)
 | call (f:Opd) (args:List Opd)
 | mem
def CO.mk:CO->MK
 | .ld _ x=>.ld x
 | .call f args=>.call f args
 | .b2s _ | .new _ _ | .box _ _ _ | .bls _ _ _ _ | .mks _ _ _ _ _ | .apz _ _ _ _ _ | .st _ _ _ | .app _ _ _ _ _ _ | .cpy _ _ _ _ | .clr _ _ | .bcmp _ _ | .s2b _ | .rng _ | .nxt _ | .s2s _ | .mkm | .mln _ | .lkp _ _ _ _ _ _ | .mup _ _ _ _ _ | .mdl _ _ _ _ | .mrg _ | .ent _ | .mnx _=>.mem
 | _=>.free
def idOf:AV->List Nat
 | .p id _=>[id]
 | .sl id _ _ _ _=>[id]
 | .m id=>[id]
 | _=>[]
def foot (ev:Opd->AV):CO->List Nat×List Nat
 | .b2s x=>(idOf (ev x),[])
 | .st _ x _=>([],idOf (ev x))
 | .app _ _ _ _ s x=>(idOf (ev x),idOf (ev s))
 | .cpy _ _ d s=>(idOf (ev s),idOf (ev d))
 | .clr _ x=>([],idOf (ev x))
 | .bcmp x y=>(idOf (ev x)++idOf (ev y),[])
 | .nxt x=>([],idOf (ev x))
 | .s2s x=>([],idOf (ev x))
 | .mln x=>(idOf (ev x),[])
 | .lkp _ _ _ _ x _=>(idOf (ev x),[])
 | .mup _ _ x _ _=>([],idOf (ev x))
 | .mdl _ _ x _=>([],idOf (ev x))
 | .mrg x=>(idOf (ev x),[])
 | .ent x=>(idOf (ev x),[])
 | .mnx x=>([],idOf (ev x))
 | _=>([],[])
def Zrs (p:Pt) (id:Nat):Bool:=memN id p.ws||(Nat.ble p.lo id&&Nat.blt id p.hi)
def QmL (anc:Nat) (rs ws:List Nat) (p:Pt):Bool:=
 if bit p.k anc then true else (rs++ws).all (fun id=>!Zrs p id)&&ws.all (fun id=>!memN id (p.rs++p.ws))
def qOk (len0 lo hi:Nat) (anc:Nat) (past:List Pt) (id:Nat):Bool:=
 Nat.blt id len0||(Nat.ble lo id&&Nat.blt id hi)||past.any fun p=>bit p.k anc&&Nat.ble p.lo id&&Nat.blt id p.hi
def okIn (lo:Nat) (id:Nat):Bool:=Nat.blt id lo
def okV (q:Nat->Bool) (v:AV):Bool:=
 match v with
 | .i _ _=>true
 | .b _=>true
 | v=>v.ok q
end
section
open Go.RowKit
theorem QPW (q:Nat->Bool) (v:AV):okV q v=v.ok q:=by
 cases v <;> simp [okV,AV.ok]
mutual
theorem AV.ok_mono {q q':Nat->Bool} (h:∀i,q i=true->q' i=true):∀a:AV,a.ok q=true->a.ok q'=true
 | .p id _,e=>by simp only[AV.ok]at e ⊢;exact h id e
 | .y id,e=>by simp only[AV.ok]at e ⊢;exact h id e
 | .m id,e=>by simp only[AV.ok]at e ⊢;exact h id e
 | .nm,_=>by simp [AV.ok]
 | .sl id _ len cap k,e=>by
  simp only[AV.ok,Bool.or_eq_true]at e ⊢
  exact e.imp (fun x=>x) (h _)
 | .f _ fst cap,e=>by
  simp only[AV.ok,Bool.and_eq_true]at e ⊢
  exact ⟨Yit h fst e.1,Yit h cap e.2⟩
 | .ifc _ v,e=>by
  simp only[AV.ok]at e ⊢
  exact AV.ok_mono h v e
 | .ag l,e=>by
  simp only[AV.ok]at e ⊢
  exact Yit h l e
 | .tu l,e=>by
  simp only[AV.ok]at e ⊢
  exact Yit h l e
 | .top,_=>by simp [AV.ok]
 | .b _,_=>by simp [AV.ok]
 | .i _ _,_=>by simp [AV.ok]
 | .s _,_=>by simp [AV.ok]
 | .np,_=>by simp [AV.ok]
 | .se,_=>by simp [AV.ok]
 | .ns,_=>by simp [AV.ok]
 | .nf,_=>by simp [AV.ok]
 | .ni,_=>by simp [AV.ok]
theorem Yit {q q':Nat->Bool} (h:∀i,q i=true->q' i=true):∀l:List AV,okL q l=true->okL q' l=true
 | [],_=>by simp [okL]
 | a::l,e=>by
  simp only[okL,Bool.and_eq_true]at e ⊢
  exact ⟨AV.ok_mono h a e.1,Yit h l e.2⟩
end
theorem AB.ok_mono {q q':Nat->Bool} (h:∀i,q i=true->q' i=true) (B:AB) (e:B.ok q=true):B.ok q'=true:=by
 cases B with
 | dead=>rfl
 | iter s p=>rfl
 | lp _ _ fr _ _ _=>exact Yit h fr e
 | mo _ _ fr=>exact Yit h fr e
 | blk fl m xs =>
  cases fl with
  | true=>rfl
  | false=>exact Yit h xs e
theorem VR.okLen {ρ:Mp} {a:AV} {v:Value} (h:VR ρ a v):a.ok (fun i=>decide (i<ρ.length))=true:=by
 induction h with
 | p id off b o n h =>
  have:=(List.getElem?_eq_some_iff.1 h).1
  simp [AV.ok,this]
 | sl id off len cap k b o n cap' h =>
  have:=(List.getElem?_eq_some_iff.1 h).1
  simp [AV.ok,this]
 | y id b o n h =>
  have:=(List.getElem?_eq_some_iff.1 h).1
  simp [AV.ok,this]
 | m id b o n h =>
  have:=(List.getElem?_eq_some_iff.1 h).1
  simp [AV.ok,this]
 | f fn fst cap fst' cap' h0 h _ _ ih0 ih =>
  simp only[AV.ok,Bool.and_eq_true]
  refine ⟨z7N.2 fun j a hj=>ih0 j a _ hj (Array.getElem?_eq_getElem ?_),z7N.2 fun j a hj=>ih j a _ hj (Array.getElem?_eq_getElem ?_)⟩
  ·rw[<-h0];exact (List.getElem?_eq_some_iff.1 hj).1
  ·rw[<-h];exact (List.getElem?_eq_some_iff.1 hj).1
 | ifc t v v' _ ih=>simpa only[AV.ok] using ih
 | ag l cs h _ ih =>
  simp only[AV.ok]
  exact z7N.2 fun j a hj=>ih j a _ hj (Array.getElem?_eq_getElem (by rw[<-h];exact (List.getElem?_eq_some_iff.1 hj).1))
 | tu l cs h _ ih =>
  simp only[AV.ok]
  exact z7N.2 fun j a hj=>ih j a _ hj (Array.getElem?_eq_getElem (by rw[<-h];exact (List.getElem?_eq_some_iff.1 hj).1))
 | _=>simp [AV.ok]
theorem VR.okLe {ρ:Mp} {a:AV} {v:Value} (h:VR ρ a v) {n:Nat} (hn:ρ.length<=n):a.ok (fun i=>decide (i<n))=true:=
 AV.ok_mono (fun i hi=>by simp at hi ⊢;omega) a h.okLen
theorem Rel.okLen {K:Code->CC->Prop} {ρ:Mp} {h:List AB} {w:World} (r:Rel K ρ h w) {i:Nat} {B:AB} (hi:h[i]?=some B):B.ok (fun i=>decide (i<ρ.length))=true:=by
 obtain ⟨b,o,n,h1,h2⟩:=r.at hi
 cases B with
 | dead=>rfl
 | iter s p=>rfl
 | lp st pd fr ps asg bd =>
  obtain ⟨r,_,_,_,h4,_⟩:=h2
  exact z7N.2 fun k a ha=>(h4.2 k a _ ha (Array.getElem?_eq_getElem (by rw[<-h4.1];exact (List.getElem?_eq_some_iff.1 ha).1))).okLen
 | mo m k fr =>
  obtain ⟨_,cs,_,h4⟩:=h2
  exact z7N.2 fun k a ha=>(h4.2 k a _ ha (Array.getElem?_eq_getElem (by rw[<-h4.1];exact (List.getElem?_eq_some_iff.1 ha).1))).okLen
 | blk fl m xs =>
  cases fl with
  | true=>rfl
  | false =>
   obtain ⟨cs,e,fz,_,_,h3,h4⟩:=h2
   exact z7N.2 fun k a ha=>(h4 k a _ ha (Array.getElem?_eq_getElem (by have:=(List.getElem?_eq_some_iff.1 ha).1;omega))).okLen
theorem Y4t {ev ev':Opd->AV}:∀(ps:List (Nat×Nat×Opd)) (cells:List AV),(∀x∈ps,ev x.2.2=ev' x.2.2)->zlr ev cells ps=zlr ev' cells ps
 | [],_,_=>rfl
 | (off,sz,x)::ps,cells,h=>by
  simp only[zlr]
  rw[h _ (List.mem_cons_self ..)]
  split
  ·exact Y4t ps _ fun y hy=>h y (List.mem_cons_of_mem _ hy)
  ·rfl
theorem zQS {ev ev':Opd->AV} (h:List AB) (c:CO) (hc:∀v,ev (.c v)=ev' (.c v)) (ht:∀t∈c.tmps,ev (.t t)=ev' (.t t)):c.run ev h=c.run ev' h:=by
 have o:∀x:Opd,(∀t∈x.tmps,ev (.t t)=ev' (.t t))->ev x=ev' x:=fun x hx=>by
  cases x with
  | t n=>exact hx n (by simp [Opd.tmps])
  | c v=>exact hc v
 have oo:∀x:Option Opd,(∀t∈optT x,ev (.t t)=ev' (.t t))->x.map ev=x.map ev':=fun x hx=>by
  cases x with
  | none=>rfl
  | some x=>exact congrArg some (o x hx)
 have ol:∀l:List Opd,(∀t∈l.flatMap Opd.tmps,ev (.t t)=ev' (.t t))->l.map ev=l.map ev':=fun l hl =>
  List.map_congr_left fun x hx=>o x fun t q=>hl t (List.mem_flatMap.2 ⟨x,hx,q⟩)
 have of:∀ps:List (Nat×Nat×Opd),(∀t∈ps.flatMap (fun x=>x.2.2.tmps),ev (.t t)=ev' (.t t))->∀cells,zlr ev cells ps=zlr ev' cells ps:=fun ps hp cells =>
  Y4t ps cells fun x hx=>o x.2.2 fun t q=>hp t (List.mem_flatMap.2 ⟨x,hx,q⟩)
 cases c with
 | mv a0 =>
  have h0:=o a0 fun t q=>ht t q
  simp only[CO.run,h0]
 | pick a0 a1 a2 =>
  have h0:=o a0 fun t q=>ht t (List.mem_append_left _ (List.mem_append_left _ q))
  have h1:=o a1 fun t q=>ht t (List.mem_append_left _ (List.mem_append_right _ q))
  have h2:=o a2 fun t q=>ht t (List.mem_append_right _ q)
  simp only[CO.run,h0,h1,h2]
 | bin _x0 a1 a2 =>
  have h0:=o a1 fun t q=>ht t (List.mem_append_left _ q)
  have h1:=o a2 fun t q=>ht t (List.mem_append_right _ q)
  simp only[CO.run,h0,h1]
 | eqb _x0 a1 a2 =>
  have h0:=o a1 fun t q=>ht t (List.mem_append_left _ q)
  have h1:=o a2 fun t q=>ht t (List.mem_append_right _ q)
  simp only[CO.run,h0,h1]
 | eqc _x0 _x1 a2 a3 =>
  have h0:=o a2 fun t q=>ht t (List.mem_append_left _ q)
  have h1:=o a3 fun t q=>ht t (List.mem_append_right _ q)
  simp only[CO.run,h0,h1]
 | eqn _x0 a1 a2 =>
  have h0:=o a1 fun t q=>ht t (List.mem_append_left _ q)
  have h1:=o a2 fun t q=>ht t (List.mem_append_right _ q)
  simp only[CO.run,h0,h1]
 | un _x0 a1 =>
  have h0:=o a1 fun t q=>ht t q
  simp only[CO.run,h0]
 | cvi _x0 a1 =>
  have h0:=o a1 fun t q=>ht t q
  simp only[CO.run,h0]
 | cvs a0 =>
  have h0:=o a0 fun t q=>ht t q
  simp only[CO.run,h0]
 | fad _x0 a1 =>
  have h0:=o a1 fun t q=>ht t q
  simp only[CO.run,h0]
 | fld _x0 _x1 a2 =>
  have h0:=o a2 fun t q=>ht t q
  simp only[CO.run,h0]
 | iad _x0 a1 a2 =>
  have h0:=o a1 fun t q=>ht t (List.mem_append_left _ q)
  have h1:=o a2 fun t q=>ht t (List.mem_append_right _ q)
  simp only[CO.run,h0,h1]
 | iaa _x0 _x1 a2 a3 =>
  have h0:=o a2 fun t q=>ht t (List.mem_append_left _ q)
  have h1:=o a3 fun t q=>ht t (List.mem_append_right _ q)
  simp only[CO.run,h0,h1]
 | ixs a0 a1 =>
  have h0:=o a0 fun t q=>ht t (List.mem_append_left _ q)
  have h1:=o a1 fun t q=>ht t (List.mem_append_right _ q)
  simp only[CO.run,h0,h1]
 | ixa _x0 _x1 _x2 a3 a4 =>
  have h0:=o a3 fun t q=>ht t (List.mem_append_left _ q)
  have h1:=o a4 fun t q=>ht t (List.mem_append_right _ q)
  simp only[CO.run,h0,h1]
 | sls a0 a1 a2 =>
  have h0:=o a0 fun t q=>ht t (List.mem_append_left _ (List.mem_append_left _ q))
  have h1:=oo a1 fun t q=>ht t (List.mem_append_left _ (List.mem_append_right _ q))
  have h2:=oo a2 fun t q=>ht t (List.mem_append_right _ q)
  simp only[CO.run,h0,h1,h2]
 | sll _x0 a1 a2 a3 a4 =>
  have h0:=o a1 fun t q=>ht t (List.mem_append_left _ (List.mem_append_left _ (List.mem_append_left _ q)))
  have h1:=oo a2 fun t q=>ht t (List.mem_append_left _ (List.mem_append_left _ (List.mem_append_right _ q)))
  have h2:=oo a3 fun t q=>ht t (List.mem_append_left _ (List.mem_append_right _ q))
  have h3:=oo a4 fun t q=>ht t (List.mem_append_right _ q)
  simp only[CO.run,h0,h1,h2,h3]
 | sla _x0 _x1 a2 a3 a4 a5 =>
  have h0:=o a2 fun t q=>ht t (List.mem_append_left _ (List.mem_append_left _ (List.mem_append_left _ q)))
  have h1:=oo a3 fun t q=>ht t (List.mem_append_left _ (List.mem_append_left _ (List.mem_append_right _ q)))
  have h2:=oo a4 fun t q=>ht t (List.mem_append_left _ (List.mem_append_right _ q))
  have h3:=oo a5 fun t q=>ht t (List.mem_append_right _ q)
  simp only[CO.run,h0,h1,h2,h3]
 | ifc _x0 a1 =>
  have h0:=o a1 fun t q=>ht t q
  simp only[CO.run,h0]
 | mkf _x0 a1 a2 =>
  have h0:=ol a1 fun t q=>ht t (List.mem_append_left _ q)
  have h1:=ol a2 fun t q=>ht t (List.mem_append_right _ q)
  simp only[CO.run,h0,h1]
 | ext a0 _x1 =>
  have h0:=o a0 fun t q=>ht t q
  simp only[CO.run,h0]
 | len _x0 a1 =>
  have h0:=o a1 fun t q=>ht t q
  simp only[CO.run,h0]
 | lnc _x0 =>
  rfl
 | mm _x0 a1 a2 =>
  have h0:=o a1 fun t q=>ht t (List.mem_append_left _ q)
  have h1:=o a2 fun t q=>ht t (List.mem_append_right _ q)
  simp only[CO.run,h0,h1]
 | nck a0 =>
  have h0:=o a0 fun t q=>ht t q
  simp only[CO.run,h0]
 | tas a0 _x1 _x2 _x3 =>
  have h0:=o a0 fun t q=>ht t q
  simp only[CO.run,h0]
 | ld _x0 a1 =>
  have h0:=o a1 fun t q=>ht t q
  simp only[CO.run,h0]
 | st _x0 a1 a2 =>
  have h0:=o a1 fun t q=>ht t (List.mem_append_left _ q)
  have h1:=o a2 fun t q=>ht t (List.mem_append_right _ q)
  simp only[CO.run,h0,h1]
 | new _x0 _x1 =>
  rfl
 | box _x0 _x1 a2 =>
  have h0:=o a2 fun t q=>ht t q
  simp only[CO.run,h0]
 | bld _x0 a1 =>
  have h0:=of a1 fun t q=>ht t q
  simp only[CO.run,h0]
 | bls _x0 _x1 _x2 a3 =>
  have h0:=of a3 fun t q=>ht t q
  simp only[CO.run,h0]
 | mks _x0 _x1 _x2 a3 a4 =>
  have h0:=o a3 fun t q=>ht t (List.mem_append_left _ q)
  have h1:=o a4 fun t q=>ht t (List.mem_append_right _ q)
  simp only[CO.run,h0,h1]
 | app _x0 _x1 _x2 _x3 a4 a5 =>
  have h0:=o a4 fun t q=>ht t (List.mem_append_left _ q)
  have h1:=o a5 fun t q=>ht t (List.mem_append_right _ q)
  simp only[CO.run,h0,h1]
 | cpy _x0 _x1 a2 a3 =>
  have h0:=o a2 fun t q=>ht t (List.mem_append_left _ q)
  have h1:=o a3 fun t q=>ht t (List.mem_append_right _ q)
  simp only[CO.run,h0,h1]
 | capo a0 =>
  have h0:=o a0 fun t q=>ht t q
  simp only[CO.run,h0]
 | apz _x0 _x1 _x2 a3 a4 =>
  have h0:=o a3 fun t q=>ht t (List.mem_append_left _ q)
  have h1:=o a4 fun t q=>ht t (List.mem_append_right _ q)
  simp only[CO.run,h0,h1]
 | stop =>
  rfl
 | b2s a0 =>
  have h0:=o a0 fun t q=>ht t q
  simp only[CO.run,h0]
 | clr _x0 a1 =>
  have h0:=o a1 fun t q=>ht t q
  simp only[CO.run,h0]
 | bcmp a0 a1 =>
  have h0:=o a0 fun t q=>ht t (List.mem_append_left _ q)
  have h1:=o a1 fun t q=>ht t (List.mem_append_right _ q)
  simp only[CO.run,h0,h1]
 | s2b a0 =>
  have h0:=o a0 fun t q=>ht t q
  simp only[CO.run,h0]
 | rng a0 =>
  have h0:=o a0 fun t q=>ht t q
  simp only[CO.run,h0]
 | nxt a0 =>
  have h0:=o a0 fun t q=>ht t q
  simp only[CO.run,h0]
 | s2s a0 =>
  have h0:=o a0 fun t q=>ht t q
  simp only[CO.run,h0]
 | bix a0 a1 =>
  have h0:=o a0 fun t q=>ht t (List.mem_append_left _ q)
  have h1:=o a1 fun t q=>ht t (List.mem_append_right _ q)
  simp only[CO.run,h0,h1]
 | mkm =>
  rfl
 | mln a0 =>
  have h0:=o a0 fun t q=>ht t q
  simp only[CO.run,h0]
 | lkp _x0 _x1 _x2 _x3 a4 a5 =>
  have h0:=o a4 fun t q=>ht t (List.mem_append_left _ q)
  have h1:=o a5 fun t q=>ht t (List.mem_append_right _ q)
  simp only[CO.run,h0,h1]
 | mup _x0 _x1 a2 a3 a4 =>
  have h0:=o a2 fun t q=>ht t (List.mem_append_left _ (List.mem_append_left _ q))
  have h1:=o a3 fun t q=>ht t (List.mem_append_left _ (List.mem_append_right _ q))
  have h2:=o a4 fun t q=>ht t (List.mem_append_right _ q)
  simp only[CO.run,h0,h1,h2]
 | mdl _x0 _x1 a2 a3 =>
  have h0:=o a2 fun t q=>ht t (List.mem_append_left _ q)
  have h1:=o a3 fun t q=>ht t (List.mem_append_right _ q)
  simp only[CO.run,h0,h1]
 | mrg a0 =>
  have h0:=o a0 fun t q=>ht t q
  simp only[CO.run,h0]
 | ent a0 =>
  have h0:=o a0 fun t q=>ht t q
  simp only[CO.run,h0]
 | mnx a0 =>
  have h0:=o a0 fun t q=>ht t q
  simp only[CO.run,h0]
 | r2s a0 =>
  have h0:=o a0 fun t q=>ht t q
  simp only[CO.run,h0]
 | call _ _ =>
  rfl
section
variable {P:Program}
theorem ZZw {fr:List AV} {g:Option (Nat×Bool)} {b:Bool} (h:q2n fr g=some b):qdw fr g=true/\zEb fr g=b:=by
 cases g with
 | none=>cases h;exact ⟨rfl,rfl⟩
 | some p =>
  obtain ⟨t,w⟩:=p
  simp only[q2n,QCq,List.getD_eq_getElem?_getD]at h
  simp only[qdw,zEb]
  cases hf:fr[t]? with
  | none =>
   rw[hf]at h
   cases h
   exact ⟨rfl,rfl⟩
  | some a =>
   rw[hf]at h
   cases a <;> cases h <;> exact ⟨rfl,rfl⟩
theorem KRk {ops:Array Oper} {i:Nat} {o:Oper} {c:COper} (ho:ops[i]?=some o) (hc:YXt P ops o=some c) {fr:List AV} (h:List AB) (hg:q2n fr c.guard=some false):OpOk P ops i c.dst fr h (.tu []) h:=
 let ⟨hk,hw⟩:=ZZw hg
 J7n ho hc hk hw
end
end
end Go.Proofs.YtekeoichmdiiiaaGreat
