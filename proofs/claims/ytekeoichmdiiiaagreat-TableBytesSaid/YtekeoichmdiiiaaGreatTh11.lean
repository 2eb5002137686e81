/- Part 11 of what the laws' proofs rest on. No condition. -/
import Derived.Test.YtekeoichmdiiiaaGreatTh10
set_option linter.all false
namespace Go.Proofs.YtekeoichmdiiiaaGreat
section
open Go.RowKit
inductive FT where
 | e
 | n (v:AV) (l r:FT)
noncomputable def FT.get (t:FT):Nat->AV:=
 FT.rec (motive:=fun _=>Nat->AV) (fun _=>.tu []) (fun v _ _ il ir n=>Nat.rec (motive:=fun _=>AV) v (fun m _=>Bool.rec (motive:=fun _=>AV) (il (Nat.div m 2)) (ir (Nat.div m 2)) (Nat.beq (Nat.mod m 2) 1)) n) t
noncomputable def FT.set (t:FT):Nat->AV->FT:=
 FT.rec (motive:=fun _=>Nat->AV->FT) (fun _ _=>.e) (fun v l r il ir n x=>Nat.rec (motive:=fun _=>FT) (.n x l r) (fun m _=>Bool.rec (motive:=fun _=>FT) (.n v (il (Nat.div m 2) x) r) (.n v l (ir (Nat.div m 2) x)) (Nat.beq (Nat.mod m 2) 1)) n) t
noncomputable def FT.full (d:Nat):FT:=Nat.rec (motive:=fun _=>FT) .e (fun _ t=>.n (.tu []) t t) d
structure FR where
 n:Nat
 t:FT
inductive HB where
 | b (B:AB)
 | lp (st:LoopState) (pd:XE) (fr:FR) (ps:List Nat) (asg bd:CC)
inductive HT where
 | e
 | n (v:Option HB) (l r:HT)
noncomputable def HT.get (t:HT):Nat->Option HB:=
 HT.rec (motive:=fun _=>Nat->Option HB) (fun _=>none) (fun v _ _ il ir n=>Nat.rec (motive:=fun _=>Option HB) v (fun m _=>Bool.rec (motive:=fun _=>Option HB) (il (Nat.div m 2)) (ir (Nat.div m 2)) (Nat.beq (Nat.mod m 2) 1)) n) t
noncomputable def HT.set (t:HT):Nat->Option HB->HT:=
 HT.rec (motive:=fun _=>Nat->Option HB->HT) (fun _ _=>.e) (fun v l r il ir n x=>Nat.rec (motive:=fun _=>HT) (.n x l r) (fun m _=>Bool.rec (motive:=fun _=>HT) (.n v (il (Nat.div m 2) x) r) (.n v l (ir (Nat.div m 2) x)) (Nat.beq (Nat.mod m 2) 1)) n) t
noncomputable def HT.full (d:Nat):HT:=Nat.rec (motive:=fun _=>HT) .e (fun _ t=>.n none t t) d
structure HP where
 len:Nat
 t:HT
noncomputable def HP.push (h:HP) (x:Option HB):Option HP:=
 Nat.rec (motive:=fun _=>Option HP) (some ⟨1,h.t.set 0 x⟩) (fun m _=>match Nat.blt m 16000 with|true=>some ⟨Nat.succ (Nat.succ m),h.t.set (Nat.succ m) x⟩|false=>none) h.len
inductive HE where
 | z
 | put (id:Nat) (B:AB)
 | new (B:AB)
 | kn (id:Nat) (B:AB)
noncomputable def HP.app (h:HP) (e:HE):Option HP:=
 match e with
 | .z=>some h
 | .put id B=>some ⟨h.len,h.t.set id (some (.b B))⟩
 | .new B=>h.push (some (.b B))
 | .kn id B=>HP.push ⟨h.len,h.t.set id none⟩ (some (.b B))
abbrev GT:=Nat->Option AB
def rdG (g:GT) (id:Nat):Option (List AV):=
 match g id with
 | some (.blk _ _ xs)=>some xs
 | _=>none
noncomputable def ldG (g:GT):Option Nat->AV->Option AV
 | none,.p id off=>(rdG g id).bind fun xs=>nthO xs off
 | some n,.p id off=>(rdG g id).bind fun xs=>if off+n<=xs.length then some (.ag ((xs.drop off).take n)) else none
 | _,_=>none
def stG (g:GT) (id off:Nat) (l:List AV):Option HE:=
 match g id with
 | some (.blk fl true xs)=>if off+l.length<=xs.length/\l.all (wrOk fl)=true then some (.put id (.blk fl true (over xs off l))) else none
 | _=>none
def stVG (g:GT):Option Nat->AV->AV->Option HE
 | none,.p id off,v=>if v.one then stG g id off [v] else none
 | some n,.p id off,.ag l=>if l.length=n then stG g id off l else none
 | _,_,_=>none
def newG (len:Nat) (fl:Bool) (cs:List AV) (v:Nat->AV):Option (AV×HE):=
 if cs.all (wrOk fl)=true then some (v len,.new (.blk fl true cs)) else none
def srcG (g:GT) (sz:Nat):AV->Option (Nat×List AV)
 | .ns=>some (0,[])
 | .se=>some (0,[])
 | .s l=>if sz=1 then some (l.length,l.map fun b=>.i .u8 b.toNat) else none
 | .sl id off len _ _=>if len=0 then some (0,[]) else (rdG g id).bind fun xs=>if off+len*sz<=xs.length then some (len,(xs.drop off).take (len*sz)) else none
 | _=>none
def appG (g:GT) (hl:Nat) (fl:Bool) (sz by_:Nat) (s x:AV):Option (AV×HE):=
 (srcG g sz x).bind fun (m,ys) =>
  if ys.all (wrOk fl)=true then
   match s with
   | .ns=>if m=0 then some (.ns,.z) else if m*by_<=140737488355328/\m<=maxLen then some (.sl hl 0 m m (some sz),.new (.blk fl true ys)) else none
   | .sl id off len cap k =>
    if m=0 then some (.sl id off len cap k,.z)
    else if len+m<=cap then (stG g id (off+len*sz) ys).map fun e=>(.sl id off (len+m) cap k,e)
    else match g id with
     | some (.blk fl' mu xs) =>
      if fl'=fl/\off+len*sz<=xs.length/\(len+m)*by_<=140737488355328/\len+m<=maxLen then
       if k=none then some (.sl hl 0 (len+m) (len+m) (some sz),.new (.blk fl true ((xs.drop off).take (len*sz)++ys)))
       else if k=some sz/\sz≠0/\mu=true/\off+len*sz=xs.length then some (.sl hl 0 (len+m) (len+m) (some sz),.kn id (.blk fl true (xs.drop off++ys)))
       else if k=some sz/\sz≠0/\mu=true then some (.sl hl 0 (len+m) (len+m) (some sz),.kn id (.blk fl true ((xs.drop off).take (len*sz)++ys)))
       else none
      else none
     | _=>none
   | _=>none
  else none
def cpyG (g:GT) (sz:Nat) (d s:AV):Option (AV×HE):=
 (srcG g sz s).bind fun (m,ys) =>
  match d with
  | .sl id off len _ _=>if m<=len then (stG g id off ys).map fun e=>(.i .i64 m,e) else none
  | _=>none
abbrev OpF:=(Opd->AV)->GT->Nat->Option (AV×HE)
def KFQ (r:Option (AV×List AB)):Option (AV×HE):=
 match r with
 | some (v,_)=>some (v,.z)
 | none=>none
def valG (r:Option AV):Option (AV×HE):=
 match r with
 | some v=>some (v,.z)
 | none=>none
def untG (r:Option HE):Option (AV×HE):=
 match r with
 | some e=>some (.tu [],e)
 | none=>none
noncomputable def g_ld (n:Option Nat) (x:Opd):OpF:=fun ev g _=>valG (ldG g n (ev x))
noncomputable def g_st (n:Option Nat) (x v:Opd):OpF:=fun ev g _=>untG (stVG g n (ev x) (ev v))
noncomputable def Qne (fl:Bool) (zs:List AV):OpF:=fun _ _ hl=>newG hl fl zs (fun n=>.p n 0)
noncomputable def XYG (fl:Bool) (n:Nat) (x:Opd):OpF:=fun ev _ hl=>if (ev x).cells.length=n then newG hl fl (ev x).cells (fun n=>.p n 0) else none
noncomputable def Qsk (fl:Bool) (k:Nat) (zs:List AV) (ps:List (Nat×Nat×Opd)):OpF:=fun ev _ hl=>(zlr ev zs ps).bind fun cs=>newG hl fl cs (fun n=>.sl n 0 k k none)
noncomputable def Ydb (fl:Bool) (z:List AV) (by_:Nat) (le ca:Opd):OpF:=fun ev _ hl=>match ev le,ev ca with
 | .i _ l,.i _ c=>if 0<=l/\l<=c/\(by_:Int)*c<=2 ^ 47/\c<=maxLen then newG hl fl ((List.replicate c.toNat z).flatten) (fun n=>.sl n 0 l.toNat c.toNat none) else none
 | _,_=>none
noncomputable def Je8 (str fl:Bool) (sz by_:Nat) (s x:Opd):OpF:=fun ev g hl=>if (ev x).isStr=str then appG g hl fl sz by_ (ev s) (ev x) else none
noncomputable def KEJ (str:Bool) (sz:Nat) (d s:Opd):OpF:=fun ev g _=>if (ev s).isStr=str then cpyG g sz (ev d) (ev s) else none
noncomputable def ZFz (fl:Bool) (z:List AV) (by_:Nat) (s n:Opd):OpF:=fun ev _ hl=>match ev s,ev n with
 | .ns,.i _ m=>if m=0 then some (.ns,.z) else if 0<m/\m.toNat*by_<=140737488355328/\m.toNat<=maxLen then newG hl fl ((List.replicate m.toNat z).flatten) (fun k=>.sl k 0 m.toNat m.toNat (some z.length)) else none
 | _,_=>none
noncomputable def Z3z (x:Opd):OpF:=fun ev g _=>if (ev x).isStr then none else (srcG g 1 (ev x)).bind fun (_,cs)=>(bytesOf cs).map fun l=>(.s l,.z)
noncomputable def K1N (z:List AV) (x:Opd):OpF:=fun ev g _=>match ev x with
 | .ns=>some (.tu [],.z)
 | .se=>some (.tu [],.z)
 | .sl id off n _ _=>if n=0 then some (.tu [],.z) else untG (stG g id off ((List.replicate n z).flatten))
 | _=>none
noncomputable def JHI (x y:Opd):OpF:=fun ev g _=>(srcG g 1 (ev x)).bind fun (_,xs)=>(srcG g 1 (ev y)).bind fun (_,ys)=>(bytesOf xs).bind fun l=>(bytesOf ys).map fun m=>(.i .i64 (Extern.BytealgCompare.cmp ⟨l.toArray⟩ ⟨m.toArray⟩),.z)
noncomputable def KJT (x:Opd):OpF:=fun ev _ hl=>match ev x with
 | .s l=>if l.length<=maxLen then some (.sl hl 0 l.length l.length (some 1),.new (.blk true false (l.map fun b=>.i .u8 (b.toNat:Int)))) else none
 | _=>none
noncomputable def Kwj (x:Opd):OpF:=fun ev _ hl=>match ev x with
 | .s l=>some (.p hl 0,.new (.iter ⟨l.toArray⟩ 0))
 | _=>none
noncomputable def Qlg (x:Opd):OpF:=fun ev g _=>match ev x with
 | .p id 0=>match g id with
  | some (.iter s pos)=>if pos<s.size then some (.tu [.b true,.i .i64 (pos:Int),.i .i32 ((Utf8.decode s pos).1:Int)],.put id (.iter s (pos+(Utf8.decode s pos).2))) else some (.tu [.b false],.z)
  | _=>none
 | _=>none
noncomputable def XzV (x:Opd):OpF:=fun ev g _=>match ev x with
 | .sl id off n c k=>if n=0 then none else match g id with
  | some (.blk fl true xs)=>some (.sl id off n c k,.put id (.blk fl false xs))
  | _=>none
 | _=>none
noncomputable def zMW (x y:Opd):OpF:=fun ev _ _=>match ev x,ev y with
 | .s l,.i .u8 n=>some (.i .i64 (match (List.range l.length).find? fun i=>(⟨l.toArray⟩:ByteArray)[i]! == UInt8.ofNat n.toNat with|some i=>(i:Int)|none=>-1),.z)
 | _,_=>none
noncomputable def JKW (g:GT) (x:AV):Option (List Nat×Nat×List AV):=
 match x with
 | .m id=>mapB (g id)
 | .nm=>some ([],0,[])
 | _=>none
noncomputable def lkG (g:GT) (ag:Bool) (ks:List CK) (ok:Bool) (z x k:AV):Option (AV×HE):=
 (K8D ag ks k k).bind fun _=>(JKW g x).bind fun p=>(Kq6 ag ks k p.2.2 0).map fun r=>(lkR ok z r,.z)
noncomputable def muG (g:GT) (ag:Bool) (ks:List CK) (x k v:AV):Option (AV×HE):=
 match x with
 | .m id=>(K8D ag ks k k).bind fun _=>(mapW (g id)).bind fun p=>(Kq6 ag ks k p.2.2 0).map fun r=>(.tu [],.put id (muB p.1 p.2.1 p.2.2 k v r))
 | _=>none
noncomputable def mdG (g:GT) (ag:Bool) (ks:List CK) (x k:AV):Option (AV×HE):=
 match x with
 | .m id=>(K8D ag ks k k).bind fun _=>(mapW (g id)).bind fun p=>(Kq6 ag ks k p.2.2 0).map fun r=>(.tu [],.put id (mdB p.1 p.2.1 p.2.2 r))
 | _=>none
noncomputable def XMK (id:Nat) (s:Nat) (seen:List Nat) (c:Nat) (x:AV) (L:List (Nat×AV×AV)):Option (AV×HE):=
 match L with
 | []=>some (.tu [.b false],.z)
 | [e]=>some (.tu [.b true,e.2.1,e.2.2],.put id (.mo true (.it s (seen++[e.1]) c) [x]))
 | _=>none
noncomputable def mnxG (g:GT) (x:AV):Option (AV×HE):=
 match x with
 | .p id 0=>match g id with
  | some (.mo true (.it _ _ _) [.nm])=>some (.tu [.b false],.z)
  | some (.mo true (.it s seen last) [.m mid])=>(mapB (g mid)).bind fun p =>
    if p.1.all (fun b=>decide (b<s))=true/\s<=last then XMK id s seen p.2.1 (.m mid) (Z1R seen (Qmg p.1 p.2.2)) else none
  | _=>none
 | _=>none
noncomputable def entG (g:GT) (x:AV):Option (AV×HE):=
 match x with
 | .p id 0=>match g id with
  | some (.mo _ (.it _ seen last) [.m mid])=>(mapB (g mid)).bind fun p=>if p.2.1=last then seen.getLast?.bind fun b=>((Qmg p.1 p.2.2).find? fun e=>e.1 == b).map fun e=>(.tu [e.2.1,e.2.2],.z) else none
  | _=>none
 | _=>none
noncomputable def rgG (g:GT) (hl:Nat) (x:AV):Option (AV×HE):=
 match x with
 | .m id=>(mapB (g id)).map fun p=>(.p hl 0,.new (.mo true (.it p.2.1 [] p.2.1) [.m id]))
 | .nm=>some (.p hl 0,.new (.mo true (.it 0 [] 0) [.nm]))
 | _=>none
noncomputable def qzk:OpF:=fun _ _ hl=>some (.m hl,.new (.mo true (.map [] 0) []))
noncomputable def z3e (x:Opd):OpF:=fun ev g _=>(JKW g (ev x)).map fun p=>(.i .i64 p.1.length,.z)
noncomputable def QlX (ag:Bool) (ks:List CK) (ok:Bool) (z:AV) (x k:Opd):OpF:=fun ev g _=>lkG g ag ks ok z (ev x) (ev k)
noncomputable def zSv (ag:Bool) (ks:List CK) (x k v:Opd):OpF:=fun ev g _=>muG g ag ks (ev x) (ev k) (ev v)
noncomputable def QxX (ag:Bool) (ks:List CK) (x k:Opd):OpF:=fun ev g _=>mdG g ag ks (ev x) (ev k)
noncomputable def XRJ (x:Opd):OpF:=fun ev g hl=>rgG g hl (ev x)
noncomputable def XVs (x:Opd):OpF:=fun ev g _=>entG g (ev x)
noncomputable def XOu (x:Opd):OpF:=fun ev g _=>mnxG g (ev x)
noncomputable def f_mv (a0:Opd):OpF:=fun ev _ _=>KFQ (r_mv ev [] a0)
noncomputable def Ya9 (a0 a1 a2:Opd):OpF:=fun ev _ _=>KFQ (XHg ev [] a0 a1 a2)
noncomputable def Ywj (a0:BinOp) (a1 a2:Opd):OpF:=fun ev _ _=>KFQ (QuP ev [] a0 a1 a2)
noncomputable def Zzy (a0:Bool) (a1 a2:Opd):OpF:=fun ev _ _=>KFQ (Ynv ev [] a0 a1 a2)
noncomputable def Ksh (a0:List CK) (a1:Bool) (a2 a3:Opd):OpF:=fun ev _ _=>KFQ (YOh ev [] a0 a1 a2 a3)
noncomputable def XVX (a0:Bool) (a1 a2:Opd):OpF:=fun ev _ _=>KFQ (QMK ev [] a0 a1 a2)
noncomputable def f_un (a0:UnOp) (a1:Opd):OpF:=fun ev _ _=>KFQ (r_un ev [] a0 a1)
noncomputable def Qpv (a0:IntKind) (a1:Opd):OpF:=fun ev _ _=>KFQ (zqM ev [] a0 a1)
noncomputable def Qrt (a0:Opd):OpF:=fun ev _ _=>KFQ (z68 ev [] a0)
noncomputable def Zaf (a0:Nat) (a1:Opd):OpF:=fun ev _ _=>KFQ (Xl1 ev [] a0 a1)
noncomputable def XME (a0:Nat) (a1:Option Nat) (a2:Opd):OpF:=fun ev _ _=>KFQ (Zqy ev [] a0 a1 a2)
noncomputable def zjx (a0:Nat) (a1 a2:Opd):OpF:=fun ev _ _=>KFQ (ZRn ev [] a0 a1 a2)
noncomputable def JZ2 (a0 a1:Nat) (a2 a3:Opd):OpF:=fun ev _ _=>KFQ (KVB ev [] a0 a1 a2 a3)
noncomputable def zMl (a0 a1:Opd):OpF:=fun ev _ _=>KFQ (Xyk ev [] a0 a1)
noncomputable def qyy (a0 a1:Nat) (a2:Bool) (a3 a4:Opd):OpF:=fun ev _ _=>KFQ (KVC ev [] a0 a1 a2 a3 a4)
noncomputable def QIC (a0:Opd) (a1 a2:Option Opd):OpF:=fun ev _ _=>KFQ (Y9z ev [] a0 a1 a2)
noncomputable def qdl (a0:Nat) (a1:Opd) (a2 a3 a4:Option Opd):OpF:=fun ev _ _=>KFQ (Jkh ev [] a0 a1 a2 a3 a4)
noncomputable def zoI (a0 a1:Nat) (a2:Opd) (a3 a4 a5:Option Opd):OpF:=fun ev _ _=>KFQ (Zs6 ev [] a0 a1 a2 a3 a4 a5)
noncomputable def Ysv (a0:TypeId) (a1:Opd):OpF:=fun ev _ _=>KFQ (q0u ev [] a0 a1)
noncomputable def zs3 (a0:Fn) (a1 a2:List Opd):OpF:=fun ev _ _=>KFQ (YSz ev [] a0 a1 a2)
noncomputable def qhB (a0:Opd) (a1:Nat):OpF:=fun ev _ _=>KFQ (XNw ev [] a0 a1)
noncomputable def Z23 (a0:Bool) (a1:Opd):OpF:=fun ev _ _=>KFQ (zVz ev [] a0 a1)
noncomputable def Joo (a0:Nat):OpF:=fun ev _ _=>KFQ (qEr ev [] a0)
noncomputable def f_mm (a0:Bool) (a1 a2:Opd):OpF:=fun ev _ _=>KFQ (r_mm ev [] a0 a1 a2)
noncomputable def Kkq (a0:Opd):OpF:=fun ev _ _=>KFQ (zzA ev [] a0)
noncomputable def QDF (a0:Opd) (a1:TypeId) (a2:Bool) (a3:AV):OpF:=fun ev _ _=>KFQ (QKQ ev [] a0 a1 a2 a3)
noncomputable def XkR (a0:List AV) (a1:List (Nat×Nat×Opd)):OpF:=fun ev _ _=>KFQ (ZzA ev [] a0 a1)
noncomputable def YUl (a0:Opd):OpF:=fun ev _ _=>KFQ (QPl ev [] a0)
noncomputable def K6s:OpF:=fun _ _ _=>none
noncomputable def Xq3 (a0:Opd):OpF:=fun ev _ _=>KFQ (KQ3 ev [] a0)
noncomputable def zMC (_a0:Opd) (_a1:List Opd):OpF:=fun _ _ _=>none
noncomputable def opE (op:CO):OpF:=CO.rec (motive:=fun _=>OpF) f_mv Ya9 Ywj Zzy Ksh XVX f_un Qpv Qrt Zaf XME zjx JZ2 zMl qyy QIC qdl zoI Ysv zs3 qhB Z23 Joo f_mm Kkq QDF g_ld g_st Qne XYG XkR Qsk Ydb Je8 KEJ YUl ZFz K6s Z3z K1N JHI KJT Kwj Qlg XzV zMW qzk z3e QlX zSv QxX XRJ XVs XOu Xq3 zMC op
noncomputable def HP.g (h:HP):Nat->Option AB:=fun id=>match h.t.get id with
 | some (.b B)=>some B
 | _=>none
noncomputable def Opd.evT (fr:FR):Opd->AV
 | .t n=>fr.t.get n
 | .c v=>v
noncomputable def FR.put (fr:FR) (d:Option Nat) (v:AV):FR:=
 match d with
 | some d=>match Nat.blt d fr.n with
  | true=>⟨fr.n,fr.t.set d v⟩
  | false=>fr
 | none=>fr
noncomputable def FR.full (n:Nat):FR:=⟨n,FT.full (Nat.succ (Nat.log2 n))⟩
abbrev RunT:=Job->FR->HP->Option (AV×HP)
noncomputable def Z4C (l:List AV):Nat->FR->FR:=List.rec (motive:=fun _=>Nat->FR->FR) (fun _ t=>t) (fun a _ ih n t=>ih (Nat.succ n) (t.put (some n) a)) l
noncomputable def psT (ps:List Nat):List AV->FR->FR:=List.rec (motive:=fun _=>List AV->FR->FR) (fun _ t=>t) (fun p _ ih az t=>match az with | []=>t|a::az=>ih az (t.put (some p) a)) ps
noncomputable def appR (h:HP) (r:Option (AV×HE)):Option (AV×HP):=
 match r with
 | some (v,e)=>match h.app e with
  | some h'=>some (v,h')
  | none=>none
 | none=>none
inductive TC where
 | cf (c:CF)
 | nv (f:List AV->GT->Nat->Option (AV×HE))
abbrev TB:=Nat->Option TC
noncomputable def TC.call (E:RunT) (c:TC) (args:List AV) (h:HP):Option (AV×HP):=
 TC.rec (motive:=fun _=>Option (AV×HP)) (fun cf=>match Nat.ble args.length cf.ntmps with
  | true=>E (.fn cf) (Z4C args 0 (FR.full cf.ntmps)) h
  | false=>none) (fun f=>appR h (f args h.g h.len)) c
noncomputable def Q9M (T:TB) (E:RunT) (f:AV) (args:List AV) (h:HP):Option (AV×HP):=
 match f with
 | .f (.func g) fst cap=>match T g with
  | some c=>c.call E (fst++args++cap) h
  | none=>none
 | .y id=>match h.t.get id with
  | some (.lp _ _ fr0 ps asg bd)=>match Nat.beq ps.length args.length with
   | true=>E (.rd id asg bd) (psT ps args fr0) h
   | false=>none
  | _=>none
 | _=>none
def CO.isCall:CO->Option (Opd×List Opd)
 | .call f args=>some (f,args)
 | _=>none
noncomputable def opT (T:TB) (E:RunT) (fr:FR) (h:HP) (op:CO):Option (AV×HP):=
 match op.isCall with
 | some (f,args)=>Q9M T E (Opd.evT fr f) (args.map (Opd.evT fr)) h
 | none=>appR h (opE op (Opd.evT fr) h.g h.len)
noncomputable def Jeu (fr:FR):Option (Nat×Bool)->Option Bool
 | none=>some true
 | some (t,w)=>match fr.t.get t with
  | .b x=>some (x == w)
  | .top=>none
  | _=>some false
abbrev OutR:=Option (FR×HP)
noncomputable def J1N (T:TB) (E:RunT) (o:COper) (ih:FR->HP->OutR) (fr:FR) (h:HP):OutR:=
 match opT T E fr h o.op with
 | none=>none
 | some (v,h')=>ih (fr.put o.dst v) h'
noncomputable def zWM (T:TB) (E:RunT) (o:COper) (ih:FR->HP->OutR) (fr:FR) (h:HP):OutR:=
 match Jeu fr o.guard with
 | none=>none
 | some b=>match b with
  | true=>J1N T E o ih fr h
  | false=>ih (fr.put o.dst (.tu [])) h
noncomputable def YOF (T:TB) (E:RunT) (l:List COper):FR->HP->OutR:=
 List.rec (motive:=fun _=>FR->HP->OutR) (fun fr h=>some (fr,h)) (fun o _ ih=>zWM T E o ih) l
def HB.freeze:HB->Option HB
 | .b B=>match B with
  | .blk fl _ xs=>some (.b (.blk fl false xs))
  | .mo _ k fr=>some (.b (.mo false k fr))
  | _=>none
 | .lp _ _ _ _ _ _=>none
noncomputable def KV8 (h:HT) (ws:List Nat) (t:HT):HT:=List.rec (motive:=fun _=>HT->HT) (fun t=>t) (fun id _ ih t=>ih (t.set id (h.get id))) ws t
noncomputable def zQb (h:HT) (rs:List Nat) (t:HT):HT:=List.rec (motive:=fun _=>HT->HT) (fun t=>t) (fun id _ ih t=>ih (t.set id ((h.get id).bind HB.freeze))) rs t
noncomputable def qEe (h:HP) (rs ws:List Nat):HP:=⟨h.len,KV8 h.t ws (zQb h.t rs (HT.full 14))⟩
noncomputable def QlY (g:HT) (lo n:Nat) (t:HT):HT:=Nat.rec (motive:=fun _=>HT->HT) (fun t=>t) (fun k ih t=>ih (match g.get (Nat.add lo k) with|some B=>t.set (Nat.add lo k) (some B)|none=>t)) n t
noncomputable def XKe (g:HT) (ws:List Nat) (t:HT):HT:=List.rec (motive:=fun _=>HT->HT) (fun t=>t) (fun id _ ih t=>ih (t.set id (g.get id))) ws t
noncomputable def qCL (ws:List Nat) (g:HP) (h:HP):HP:=⟨g.len,QlY g.t h.len (Nat.sub g.len h.len) (XKe g.t ws h.t)⟩
noncomputable def okT (q:Nat->Bool) (n:Nat) (t:FT):Bool:=Nat.rec (motive:=fun _=>Bool) true (fun k ih=>match okV q (t.get k) with|true=>ih|false=>false) n
noncomputable def HB.ok (q:Nat->Bool):Option HB->Bool
 | some (.b B)=>B.ok q
 | some (.lp _ _ fr _ _ _)=>okT q fr.n fr.t
 | none=>true
noncomputable def allN (p:Nat->Bool) (lo n:Nat):Bool:=Nat.rec (motive:=fun _=>Bool) true (fun k ih=>match p (Nat.add lo k) with|true=>ih|false=>false) n
noncomputable def idsT (n:Nat) (t:FT):List Nat:=Nat.rec (motive:=fun _=>List Nat) [] (fun k ih=>(t.get k).ids++ih) n
noncomputable def XJ1 (h:HT) (id:Nat):List Nat:=
 match h.get id with
 | some (.b (.blk false _ xs))=>idsL xs
 | some (.b (.mo _ _ fr))=>idsL fr
 | some (.lp _ _ fr _ _ _)=>idsT fr.n fr.t
 | _=>[]
noncomputable def XzQ (h:HT) (n:Nat):List Nat->List Nat->List Nat:=Nat.rec (motive:=fun _=>List Nat->List Nat->List Nat) (fun _ seen=>seen)
 (fun _ ih todo seen=>match todo with
  | []=>seen
  | id::todo=>match memN id seen with
   | true=>ih todo seen
   | false=>ih (XJ1 h id++todo) (id::seen)) n
noncomputable def zOq (lo:Nat) (fr:FR) (l:List Nat):Bool:=l.all fun t=>okV (okIn lo) (fr.t.get t)
noncomputable def attT (T:TB) (E:RunT) (len0 k:Nat) (anc:Nat) (past:List Pt) (fr:FR) (h:HP) (op:CO) (rs ws:List Nat):Option (AV×HP×List Pt):=
 match zOq h.len fr op.tmps&&((rs++ws).all fun id=>match h.t.get id with|some B=>HB.ok (okIn h.len) (some B)|none=>false)&&past.all (QmL anc rs ws) with
 | false=>none
 | true =>
  match opT T E fr (qEe h rs ws) op with
  | none=>none
  | some (v,G) =>
   match okV (qOk len0 h.len G.len anc past) v&&Nat.ble h.len G.len&&(ws.all fun id=>HB.ok (qOk len0 h.len G.len anc past) (G.t.get id))&&allN (fun id=>HB.ok (qOk len0 h.len G.len anc past) (G.t.get id)) h.len (Nat.sub G.len h.len) with
   | true=>some (v,qCL ws G h,⟨k,h.len,G.len,rs,ws⟩::past)
   | false=>none
noncomputable def qNX (T:TB) (E:RunT) (len0 k:Nat) (anc:Nat) (past:List Pt) (fr:FR) (h:HP) (op:CO) (R:List Nat):Option (AV×HP×List Pt):=
 match attT T E len0 k anc past fr h op R [] with
 | some x=>some x
 | none=>attT T E len0 k anc past fr h op [] R
noncomputable def XJJ (len0:Nat) (anc:Nat) (past:List Pt) (fr:FR) (h:HP) (op:CO):Option (AV×HP×List Pt):=
 match opE op (Opd.evT fr) h.g h.len with
 | some (v,.z)=>match okV (qOk len0 0 0 anc past) v with
  | true=>some (v,h,past)
  | false=>none
 | _=>none
noncomputable def ZUV (len0 k:Nat) (anc:Nat) (past:List Pt) (fr:FR) (h:HP) (op:CO) (rs:List Nat):Option (AV×HP×List Pt):=
 match past.all (QmL anc rs []) with
 | true =>
  match opE op (Opd.evT fr) h.g h.len with
  | some (v,.z)=>match okV (qOk len0 0 0 anc past) v with
   | true=>some (v,h,⟨k,0,0,rs,[]⟩::past)
   | false=>none
  | _=>none
 | false=>none
noncomputable def ZVR (T:TB) (E:RunT) (len0 k:Nat) (anc:Nat) (past:List Pt) (fr:FR) (h:HP) (op:CO):Option (AV×HP×List Pt):=
 match op.mk with
 | .free=>XJJ len0 anc past fr h op
 | .ld x=>ZUV len0 k anc past fr h op (idOf (Opd.evT fr x))
 | .call f args=>qNX T E len0 k anc past fr h op (XzQ h.t 10000 ((Opd.evT fr f).ids++idsL (args.map (Opd.evT fr))) [])
 | .mem=>attT T E len0 k anc past fr h op (foot (Opd.evT fr) op).1 (foot (Opd.evT fr) op).2
abbrev zZI:=Nat->List Pt->FR->HP->OutR
noncomputable def Z3U (T:TB) (E:RunT) (len0:Nat) (d:DOp) (ih:zZI) (k:Nat) (past:List Pt) (fr:FR) (h:HP):OutR:=
 match ZVR T E len0 k d.anc past fr h d.o.op with
 | none=>none
 | some (v,h',past')=>ih (Nat.succ k) past' (fr.put d.o.dst v) h'
noncomputable def zp6 (T:TB) (E:RunT) (len0:Nat) (d:DOp) (ih:zZI) (k:Nat) (past:List Pt) (fr:FR) (h:HP):OutR:=
 match Jeu fr d.o.guard with
 | none=>none
 | some b=>match b with
  | true=>Z3U T E len0 d ih k past fr h
  | false=>ih (Nat.succ k) past (fr.put d.o.dst (.tu [])) h
noncomputable def XQO (T:TB) (E:RunT) (len0:Nat) (l:List DOp):zZI:=
 List.rec (motive:=fun _=>zZI) (fun _ _ fr h=>some (fr,h)) (fun d _ ih=>zp6 T E len0 d ih) l
abbrev OutT:=Option (XE×FR×HP)
def outT (r:OutR):OutT:=
 match r with
 | some (fr,h)=>some (.n,fr,h)
 | none=>none
noncomputable def XSV (ia ib:FR->HP->OutT) (fr:FR) (h:HP):OutT:=
 match ia fr h with
 | none=>none
 | some (x,fr',h')=>match x with
  | .n=>ib fr' h'
  | .x id=>some (.x id,fr',h')
  | .r=>some (.r,fr',h')
noncomputable def KiL (q:Opd) (ia ib:FR->HP->OutT) (fr:FR) (h:HP):OutT:=
 match q.evT fr with
 | .b t=>match t with
  | true=>ia fr h
  | false=>ib fr h
 | _=>none
noncomputable def Q0j (id:Nat) (ia:FR->HP->OutT) (fr:FR) (h:HP):OutT:=
 match ia fr h with
 | none=>none
 | some (x,fr',h')=>match x with
  | .n=>some (.n,fr',h')
  | .x id'=>match Nat.beq id id' with|true=>some (.n,fr',h')|false=>some (.x id',fr',h')
  | .r=>some (.r,fr',h')
noncomputable def YrW (ia:FR->HP->OutT) (n:Nat):FR->HP->OutT:=
 Nat.rec (motive:=fun _=>FR->HP->OutT) (fun _ _=>none) (fun _ ih fr h=>match ia fr h with
  | none=>none
  | some (x,fr',h')=>match x with
   | .n=>ih fr' h'
   | .x id=>some (.x id,fr',h')
   | .r=>some (.r,fr',h')) n
noncomputable def TB.cfs (T:TB):TB:=fun g=>match T g with
 | some c=>TC.rec (motive:=fun _=>Option TC) (fun cf=>some (.cf cf)) (fun _=>none) c
 | none=>none
noncomputable def eRfT (T:TB) (E:RunT) (q:Opd) (ps:List Nat) (asg bd:CC) (fr:FR) (h:HP):OutT:=
 match q.evT fr with
 | .f f fst cap=>match h.push (some (.lp .ready .n fr ps asg bd)) with
  | none=>none
  | some h1=>match Q9M T.cfs E (.f f fst cap) [AV.y h.len] h1 with
   | none=>none
   | some (_,h2)=>match h2.t.get h.len with
    | some (.lp st pd _ _ _ _)=>match st with
     | .busy=>none
     | _=>some (pd,fr,⟨h2.len,h2.t.set h.len none⟩)
    | _=>none
 | _=>none
noncomputable def evCT (T:TB) (E:RunT) (rd:Bool) (c:CC):FR->HP->OutT:=
 CC.rec (motive:=fun _=>FR->HP->OutT) (fun fr h=>some (.n,fr,h)) (fun _ ops fr h=>outT (YOF T E ops fr h)) (fun _ ops fr h=>outT (XQO T E h.len ops 0 [] fr h))
  (fun _ _ ia ib fr h=>XSV ia ib fr h) (fun q _ _ ia ib fr h=>KiL q ia ib fr h) (fun id _ ia fr h=>Q0j id ia fr h) (fun _ ia fr h=>YrW ia 100000 fr h) (fun _ ia fr h=>ia fr h)
  (fun id fr h=>some (.x id,fr,h)) (fun fr h=>some (.r,fr,h)) (fun _ _=>none) (fun q ps a b _ _ fr h=>match rd with|true=>none|false=>eRfT T E q ps a b fr h) c
noncomputable def XJL (fr:FR) (h:HP):RC->Option AV
 | .t n=>some (fr.t.get n)
 | .cell n sz=>ldG h.g sz (fr.t.get n)
noncomputable def Zi8 (fr:FR) (h:HP):List RC->Option (List AV)
 | []=>some []
 | r::rs=>(XJL fr h r).bind fun a=>(Zi8 fr h rs).map (a :: ·)
noncomputable def resT (fr:FR) (h:HP) (rs:List RC):Option AV:=
 (Zi8 fr h rs).map fun
  | [a]=>a
  | l=>.tu l
noncomputable def finT (cf:CF) (r:OutT):Option (AV×HP):=
 match r with
 | none=>none
 | some (x,fr,h)=>match x with
  | .x _=>none
  | .n=>match resT fr h cf.res with
   | some v=>some (v,h)
   | none=>none
  | .r=>match resT fr h cf.res with
   | some v=>some (v,h)
   | none=>none
noncomputable def qim (id:Nat) (r:OutT):Option (AV×HP):=
 match r with
 | none=>none
 | some (x,_,h)=>match h.t.get id with
  | some (.lp _ _ fr0 ps asg bd)=>match x with
   | .n=>some (.b true,⟨h.len,h.t.set id (some (.lp .ready .n fr0 ps asg bd))⟩)
   | .x k=>some (.b false,⟨h.len,h.t.set id (some (.lp .done (.x k) fr0 ps asg bd))⟩)
   | .r=>some (.b false,⟨h.len,h.t.set id (some (.lp .done .r fr0 ps asg bd))⟩)
  | _=>none
noncomputable def Jak (T:TB) (E:RunT) (id:Nat) (asg bd:CC) (fr:FR) (h:HP):Option (AV×HP):=
 match evCT T E true asg fr h with
 | some (.n,fr1,h1)=>match h1.t.get id with
  | some (.lp .ready pd fr0 ps a b)=>qim id (evCT T E true bd fr1 ⟨h1.len,h1.t.set id (some (.lp .busy pd fr0 ps a b))⟩)
  | _=>none
 | _=>none
noncomputable def evTF (T:TB) (n:Nat):RunT:=
 Nat.rec (motive:=fun _=>RunT) (fun _ _ _=>none) (fun _ ih j fr h=>match j with
  | .fn cf=>finT cf (evCT T ih false cf.body fr h)
  | .rd id asg bd=>Jak T ih id asg bd fr h) n
def isTT:Option (AV×HP)->Bool
 | some (.b true,_)=>true
 | _=>false
noncomputable def runT (T:TB) (n:Nat) (cf:CF):Bool:=isTT (evTF T n (.fn cf) (FR.full cf.ntmps) ⟨0,HT.full 14⟩)
end
section
open Go.RowKit
theorem zrt {m k:Nat} (h:m≠k) (h2:Nat.beq (Nat.mod m 2) 1=Nat.beq (Nat.mod k 2) 1):Nat.div m 2≠Nat.div k 2:=by
 have e1:Nat.mod m 2=m % 2:=rfl
 have e2:Nat.mod k 2=k % 2:=rfl
 have e3:Nat.div m 2=m / 2:=rfl
 have e4:Nat.div k 2=k / 2:=rfl
 rw[e1,e2]at h2
 rw[e3,e4]
 have h3:(m % 2=1)↔(k % 2=1):=by
  rw[<-Nat.beq_eq (x:=m % 2) (y:=1),<-Nat.beq_eq (x:=k % 2) (y:=1),h2]
 omega
def FT.has:FT->Nat->Prop
 | .e,_=>False
 | .n _ _ _,0=>True
 | .n _ l r,m+1=>match Nat.beq (Nat.mod m 2) 1 with
  | true=>r.has (Nat.div m 2)
  | false=>l.has (Nat.div m 2)
theorem FT.get_ns (v:AV) (l r:FT) (m:Nat):(FT.n v l r).get (m+1)=match Nat.beq (Nat.mod m 2) 1 with|true=>r.get (Nat.div m 2)|false=>l.get (Nat.div m 2):=by
 change Bool.rec (motive:=fun _=>AV) (l.get (Nat.div m 2)) (r.get (Nat.div m 2)) (Nat.beq (Nat.mod m 2) 1)=_
 cases Nat.beq (Nat.mod m 2) 1 <;> rfl
theorem FT.set_n0 (v:AV) (l r:FT) (x:AV):(FT.n v l r).set 0 x=.n x l r:=rfl
theorem FT.set_ns (v:AV) (l r:FT) (m:Nat) (x:AV):(FT.n v l r).set (m+1) x=match Nat.beq (Nat.mod m 2) 1 with|true=>.n v l (r.set (Nat.div m 2) x)|false=>.n v (l.set (Nat.div m 2) x) r:=by
 change Bool.rec (motive:=fun _=>FT) (FT.n v (l.set (Nat.div m 2) x) r) (FT.n v l (r.set (Nat.div m 2) x)) (Nat.beq (Nat.mod m 2) 1)=_
 cases Nat.beq (Nat.mod m 2) 1 <;> rfl
theorem FT.get_same:∀(t:FT) (i:Nat) (x:AV),t.has i->(t.set i x).get i=x
 | .e,_,_,h=>h.elim
 | .n _ _ _,0,_,_=>rfl
 | .n v l r,m+1,x,h=>by
  rw[FT.set_ns]
  simp only[FT.has]at h
  cases hb:Nat.beq (Nat.mod m 2) 1 with
  | true =>
   rw[hb]at h
   simp only[FT.get_ns,hb]
   exact FT.get_same r _ x h
  | false =>
   rw[hb]at h
   simp only[FT.get_ns,hb]
   exact FT.get_same l _ x h
theorem FT.get_other:∀(t:FT) (i j:Nat) (x:AV),i≠j->(t.set i x).get j=t.get j
 | .e,_,_,_,_=>rfl
 | .n _ _ _,0,0,_,h=>absurd rfl h
 | .n v l r,0,j+1,x,_=>by rw[FT.set_n0,FT.get_ns,FT.get_ns]
 | .n v l r,m+1,0,x,_=>by
  rw[FT.set_ns]
  cases Nat.beq (Nat.mod m 2) 1 <;> rfl
 | .n v l r,m+1,k+1,x,h=>by
  rw[FT.set_ns]
  cases hb:Nat.beq (Nat.mod m 2) 1 with
  | true =>
   simp only[FT.get_ns]
   cases hk:Nat.beq (Nat.mod k 2) 1 with
   | true=>exact FT.get_other r _ _ x (zrt (by omega) (by rw[hb,hk]))
   | false=>rfl
  | false =>
   simp only[FT.get_ns]
   cases hk:Nat.beq (Nat.mod k 2) 1 with
   | true=>rfl
   | false=>exact FT.get_other l _ _ x (zrt (by omega) (by rw[hb,hk]))
theorem FT.has_set:∀(t:FT) (i:Nat) (x:AV) (j:Nat),(t.set i x).has j↔t.has j
 | .e,_,_,_=>Iff.rfl
 | .n _ _ _,0,_,0=>Iff.rfl
 | .n _ _ _,0,_,_+1=>Iff.rfl
 | .n v l r,m+1,x,0=>by
  rw[FT.set_ns]
  cases Nat.beq (Nat.mod m 2) 1 <;> exact Iff.rfl
 | .n v l r,m+1,x,k+1=>by
  rw[FT.set_ns]
  cases hb:Nat.beq (Nat.mod m 2) 1 with
  | true =>
   simp only[FT.has]
   cases hk:Nat.beq (Nat.mod k 2) 1 with
   | true=>exact FT.has_set r _ x _
   | false=>exact Iff.rfl
  | false =>
   simp only[FT.has]
   cases hk:Nat.beq (Nat.mod k 2) 1 with
   | true=>exact Iff.rfl
   | false=>exact FT.has_set l _ x _
theorem FT.full_s (d:Nat):FT.full (d+1)=.n (.tu []) (FT.full d) (FT.full d):=rfl
theorem FT.full_has:∀(d i:Nat),i+1<2 ^ d->(FT.full d).has i
 | 0,i,h=>by simp at h
 | d+1,0,_=>by rw[FT.full_s];trivial
 | d+1,m+1,h=>by
  rw[FT.full_s]
  simp only[FT.has]
  have hd:m / 2+1<2 ^ d:=by rw[Nat.pow_succ]at h;omega
  cases Nat.beq (Nat.mod m 2) 1 <;> exact FT.full_has d _ hd
theorem FT.full_get:∀(d i:Nat),(FT.full d).get i=.tu []
 | 0,_=>rfl
 | d+1,0=>rfl
 | d+1,m+1=>by
  rw[FT.full_s,FT.get_ns]
  cases Nat.beq (Nat.mod m 2) 1 <;> exact FT.full_get d _
def HT.has:HT->Nat->Prop
 | .e,_=>False
 | .n _ _ _,0=>True
 | .n _ l r,m+1=>match Nat.beq (Nat.mod m 2) 1 with
  | true=>r.has (Nat.div m 2)
  | false=>l.has (Nat.div m 2)
theorem HT.get_ns (v:Option HB) (l r:HT) (m:Nat):(HT.n v l r).get (m+1)=match Nat.beq (Nat.mod m 2) 1 with|true=>r.get (Nat.div m 2)|false=>l.get (Nat.div m 2):=by
 change Bool.rec (motive:=fun _=>Option HB) (l.get (Nat.div m 2)) (r.get (Nat.div m 2)) (Nat.beq (Nat.mod m 2) 1)=_
 cases Nat.beq (Nat.mod m 2) 1 <;> rfl
theorem HT.set_n0 (v:Option HB) (l r:HT) (x:Option HB):(HT.n v l r).set 0 x=.n x l r:=rfl
theorem HT.set_ns (v:Option HB) (l r:HT) (m:Nat) (x:Option HB):(HT.n v l r).set (m+1) x=match Nat.beq (Nat.mod m 2) 1 with|true=>.n v l (r.set (Nat.div m 2) x)|false=>.n v (l.set (Nat.div m 2) x) r:=by
 change Bool.rec (motive:=fun _=>HT) (HT.n v (l.set (Nat.div m 2) x) r) (HT.n v l (r.set (Nat.div m 2) x)) (Nat.beq (Nat.mod m 2) 1)=_
 cases Nat.beq (Nat.mod m 2) 1 <;> rfl
theorem HT.get_same:∀(t:HT) (i:Nat) (x:Option HB),t.has i->(t.set i x).get i=x
 | .e,_,_,h=>h.elim
 | .n _ _ _,0,_,_=>rfl
 | .n v l r,m+1,x,h=>by
  rw[HT.set_ns]
  simp only[HT.has]at h
  cases hb:Nat.beq (Nat.mod m 2) 1 with
  | true =>
   rw[hb]at h
   simp only[HT.get_ns,hb]
   exact HT.get_same r _ x h
  | false =>
   rw[hb]at h
   simp only[HT.get_ns,hb]
   exact HT.get_same l _ x h
theorem HT.get_other:∀(t:HT) (i j:Nat) (x:Option HB),i≠j->(t.set i x).get j=t.get j
 | .e,_,_,_,_=>rfl
 | .n _ _ _,0,0,_,h=>absurd rfl h
 | .n v l r,0,j+1,x,_=>by rw[HT.set_n0,HT.get_ns,HT.get_ns]
 | .n v l r,m+1,0,x,_=>by
  rw[HT.set_ns]
  cases Nat.beq (Nat.mod m 2) 1 <;> rfl
 | .n v l r,m+1,k+1,x,h=>by
  rw[HT.set_ns]
  cases hb:Nat.beq (Nat.mod m 2) 1 with
  | true =>
   simp only[HT.get_ns]
   cases hk:Nat.beq (Nat.mod k 2) 1 with
   | true=>exact HT.get_other r _ _ x (zrt (by omega) (by rw[hb,hk]))
   | false=>rfl
  | false =>
   simp only[HT.get_ns]
   cases hk:Nat.beq (Nat.mod k 2) 1 with
   | true=>rfl
   | false=>exact HT.get_other l _ _ x (zrt (by omega) (by rw[hb,hk]))
theorem HT.has_set:∀(t:HT) (i:Nat) (x:Option HB) (j:Nat),(t.set i x).has j↔t.has j
 | .e,_,_,_=>Iff.rfl
 | .n _ _ _,0,_,0=>Iff.rfl
 | .n _ _ _,0,_,_+1=>Iff.rfl
 | .n v l r,m+1,x,0=>by
  rw[HT.set_ns]
  cases Nat.beq (Nat.mod m 2) 1 <;> exact Iff.rfl
 | .n v l r,m+1,x,k+1=>by
  rw[HT.set_ns]
  cases hb:Nat.beq (Nat.mod m 2) 1 with
  | true =>
   simp only[HT.has]
   cases hk:Nat.beq (Nat.mod k 2) 1 with
   | true=>exact HT.has_set r _ x _
   | false=>exact Iff.rfl
  | false =>
   simp only[HT.has]
   cases hk:Nat.beq (Nat.mod k 2) 1 with
   | true=>exact Iff.rfl
   | false=>exact HT.has_set l _ x _
theorem HT.full_s (d:Nat):HT.full (d+1)=.n none (HT.full d) (HT.full d):=rfl
theorem HT.full_has:∀(d i:Nat),i+1<2 ^ d->(HT.full d).has i
 | 0,i,h=>by simp at h
 | d+1,0,_=>by rw[HT.full_s];trivial
 | d+1,m+1,h=>by
  rw[HT.full_s]
  simp only[HT.has]
  have hd:m / 2+1<2 ^ d:=by rw[Nat.pow_succ]at h;omega
  cases Nat.beq (Nat.mod m 2) 1 <;> exact HT.full_has d _ hd
theorem HT.full_get:∀(d i:Nat),(HT.full d).get i=none
 | 0,_=>rfl
 | d+1,0=>rfl
 | d+1,m+1=>by
  rw[HT.full_s,HT.get_ns]
  cases Nat.beq (Nat.mod m 2) 1 <;> exact HT.full_get d _
structure FRel (F:FR) (fr:List AV):Prop where
 len:F.n=fr.length
 get:∀t,F.t.get t=nthA fr t
 has:∀t,t<F.n->F.t.has t
theorem FRel.put {F:FR} {fr:List AV} (h:FRel F fr) (d:Option Nat) (v:AV):FRel (F.put d v) (put fr d v):=by
 cases d with
 | none=>exact h
 | some d =>
  simp only[FR.put,Go.Proofs.YtekeoichmdiiiaaGreat.put]
  cases hb:Nat.blt d F.n with
  | true =>
   have hd:d<F.n:=by simpa using hb
   refine ⟨by simp [h.len],fun t=>?_,fun t ht=>(FT.has_set _ _ _ _).2 (h.has t ht)⟩
   by_cases e:d=t
   ·subst e
    rw[FT.get_same _ _ _ (h.has d hd),qGQ,List.getElem?_set_self (by rw[<-h.len];exact hd)]
    rfl
   ·rw[FT.get_other _ _ _ _ e,h.get,qGQ,qGQ,List.getElem?_set_ne e]
  | false =>
   have hd:¬d<F.n:=fun q=>by
    have:Nat.blt d F.n=true:=by rw[Nat.blt_eq];exact q
    rw[this]at hb
    cases hb
   rw[List.set_eq_of_length_le (by rw[<-h.len];omega)]
   exact h
theorem FRel.full (n:Nat):FRel (FR.full n) (List.replicate n (.tu [])):=
 ⟨by simp [FR.full],fun t=>by
  simp only[FR.full]
  rw[FT.full_get,qGQ,List.getElem?_replicate]
  split <;> rfl,fun t ht=>by
  simp only[FR.full]at ht ⊢
  refine FT.full_has _ _ ?_
  have:n<2 ^ (Nat.log2 n+1):=Nat.lt_log2_self
  exact Nat.lt_of_le_of_lt ht this⟩
def BRel:Option HB->AB->Prop
 | none,B=>B=.dead
 | some (.b B'),B=>B=B'
 | some (.lp st pd F ps asg bd),B=>∃fr,FRel F fr/\B=.lp st pd fr ps asg bd
structure HRel (H:HP) (h:List AB):Prop where
 len:H.len=h.length
 top:H.len<=16001
 out:∀i,H.len<=i->H.t.get i=none
 blk:∀(i:Nat) (B:AB),h[i]?=some B->BRel (H.t.get i) B
 has:∀i,i<16001->H.t.has i
theorem HRel.lt {H:HP} {h:List AB} (r:HRel H h) {i:Nat} {X:HB} (e:H.t.get i=some X):i<h.length:=by
 rcases Nat.lt_or_ge i h.length with q|q
 ·exact q
 ·rw[r.out i (by rw[r.len];exact q)]at e
  cases e
theorem HRel.here {H:HP} {h:List AB} (r:HRel H h) {i:Nat} {X:HB} (e:H.t.get i=some X):∃B,h[i]?=some B/\BRel (some X) B:=by
 have hi:=r.lt e
 exact ⟨h[i],List.getElem?_eq_getElem hi,by rw[<-e];exact r.blk i _ (List.getElem?_eq_getElem hi)⟩
theorem HRel.set {H:HP} {h:List AB} (r:HRel H h) {i:Nat} (hi:i<h.length) {X:Option HB} {B:AB} (hb:BRel X B):HRel ⟨H.len,H.t.set i X⟩ (h.set i B):=by
 have ht:=r.top
 have hl:=r.len
 refine ⟨by simp [r.len],r.top,fun j hj=>?_,fun j C e=>?_,fun j hj=>(HT.has_set _ _ _ _).2 (r.has j hj)⟩
 ·dsimp only at hj
  rw[HT.get_other _ _ _ _ (by omega)]
  exact r.out j hj
 ·rw[List.getElem?_set]at e
  dsimp only
  by_cases q:i=j
  ·subst q
   rw[if_pos rfl,if_pos hi]at e
   cases e
   rw[HT.get_same _ _ _ (r.has i (by omega))]
   exact hb
  ·rw[if_neg q]at e
   rw[HT.get_other _ _ _ _ q]
   exact r.blk j C e
theorem HRel.push {H H':HP} {h:List AB} (r:HRel H h) {X:Option HB} {B:AB} (hb:BRel X B) (e:H.push X=Option.some H'):HRel H' (h++[B]):=by
 have hl:=r.len
 have key:∀k,H.len=k->k<16001->HRel ⟨k+1,H.t.set k X⟩ (h++[B]):=fun k hk hlt=>by
  refine ⟨by simp;omega,by simp;omega,fun j hj=>?_,fun j C q=>?_,fun j hj=>(HT.has_set _ _ _ _).2 (r.has j hj)⟩
  ·dsimp only at hj ⊢
   rw[HT.get_other _ _ _ _ (by omega)]
   exact r.out j (by omega)
  ·dsimp only
   by_cases hj:j<h.length
   ·rw[List.getElem?_append_left hj]at q
    rw[HT.get_other _ _ _ _ (by omega)]
    exact r.blk j C q
   ·rw[List.getElem?_append_right (by omega)]at q
    cases hz:j-h.length with
    | zero =>
     rw[hz]at q
     cases q
     have:j=k:=by omega
     subst this
     rw[HT.get_same _ _ _ (r.has j hlt)]
     exact hb
    | succ z=>rw[hz]at q;simp at q
 unfold HP.push at e
 cases hk:H.len with
 | zero =>
  rw[hk]at e
  cases e
  exact key 0 hk (by omega)
 | succ m =>
  rw[hk]at e
  dsimp only at e
  cases hb':Nat.blt m 16000 with
  | true =>
   rw[hb']at e
   cases e
   have hm:m<16000:=by simpa using hb'
   exact key (m+1) hk (by omega)
  | false =>
   rw[hb']at e
   cases e
def appL (h:List AB):HE->List AB
 | .z=>h
 | .put id B=>h.set id B
 | .new B=>h++[B]
 | .kn id B=>h.set id .dead++[B]
def HE.fits (g:GT):HE->Prop
 | .put id _ | .kn id _=>∃B,g id=some B
 | _=>True
theorem HP.g_some {H:HP} {h:List AB} (r:HRel H h) {id:Nat} {B:AB} (e:H.g id=some B):h[id]?=some B:=by
 unfold HP.g at e
 split at e
 ·rename_i C hC
  cases e
  obtain ⟨C',h1,h2⟩:=r.here hC
  rw[h1]
  exact congrArg _ h2
 ·cases e
theorem HRel.app {H H':HP} {h:List AB} (r:HRel H h) {e:HE} (hf:e.fits H.g) (q:H.app e=some H'):HRel H' (appL h e):=by
 cases e with
 | z=>cases q;exact r
 | put id B =>
  cases q
  obtain ⟨C,hC⟩:=hf
  exact r.set (List.getElem?_eq_some_iff.1 (HP.g_some r hC)).1 rfl
 | new B=>exact r.push (X:=some (.b B)) (B:=B) rfl q
 | kn id B =>
  obtain ⟨C,hC⟩:=hf
  exact (r.set (X:=none) (B:=.dead) (List.getElem?_eq_some_iff.1 (HP.g_some r hC)).1 rfl).push (X:=some (.b B)) (B:=B) rfl q
def blkO:Option AB->Option AB
 | some (.blk f m x)=>some (.blk f m x)
 | some (.iter t p)=>some (.iter t p)
 | some (.mo m k fr)=>some (.mo m k fr)
 | _=>none
theorem HP.g_blk {H:HP} {h:List AB} (r:HRel H h) (id:Nat):blkO (H.g id)=blkO (h[id]?):=by
 unfold HP.g
 cases hq:H.t.get id with
 | none =>
  cases hh:h[id]? with
  | none=>rfl
  | some B =>
   have:=r.blk id B hh
   rw[hq]at this
   rw[show B=.dead from this]
   rfl
 | some X =>
  obtain ⟨B,h1,h2⟩:=r.here hq
  rw[h1]
  cases X with
  | b C=>rw[show B=C from h2]
  | lp st pd F ps asg bd =>
   obtain ⟨fr,_,rfl⟩:=h2
   rfl
end
end Go.Proofs.YtekeoichmdiiiaaGreat
