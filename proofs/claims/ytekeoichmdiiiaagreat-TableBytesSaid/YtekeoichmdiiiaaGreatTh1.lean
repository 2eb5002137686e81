/- Part 1 of what the laws' proofs rest on. No condition. -/
import Derived.Test.YtekeoichmdiiiaaGreatRows
import Derived.ProofKit
import Derived.OpenShut
import Derived.Below
import Derived.Laws.StructEq
import Derived.Stop.BytesEq
import Derived.Test.YtekeoichmdiiiaaGreatTh0
set_option linter.all false
namespace Go.Proofs.YtekeoichmdiiiaaGreat
section
open Go.ChangeShapes Go.WideShapes Go.ChangeAt Go.RowKit
theorem Tryz.own:ownKnob Tryz.prog.godebug=none:=by kernel_rfl
theorem Tryz.laidOut:laidOutB Tryz.prog=true:=by kernel_rfl
section
variable {H:Type} {enc:TypeId×Value->H} {P:Program}
theorem XVG (hl:laidOutB P=true) {W W':World} (hb:Below W.heap.size W W'):∀(ts:List TypeId) (vs:List Value) (ds:List (DataW H)) (ps:List MemPlace),
  (∀t∈ts,P.readableRec t=true/\t<P.types.size)->DataW.TrodAll enc P W 0 (fun _=>true) true ts vs ds ps->(∀x∈ps,x.block<W.heap.size) ->
  DataW.TrodAll enc P W' 0 (fun b=>decide (b<W.heap.size)) true ts vs ds ps
 | [],vs,ds,ps,_,h,_=>by
  obtain ⟨rfl,rfl,rfl⟩:=trodAll_nil h
  exact trodAll_mk0
 | t::ts,vs,ds,ps,ht,h,hp=>by
  obtain ⟨v,vs',d,ds',p,p',rfl,rfl,rfl,h0,r0⟩:=trodAll_cons h
  exact trodAll_cons_mk (Below.trod hl (ht t (.head _)).1 (ht t (.head _)).2 h0 hb fun x hx=>hp x (List.mem_append.2 (.inl hx)))
   (XVG hl hb ts vs' ds' p' (fun t' h'=>ht t' (.tail _ h')) r0 fun x hx=>hp x (List.mem_append.2 (.inr hx)))
theorem KQ0 (hl:laidOutB P=true) {f:Func} {s:ChangeSpec} {W W':World} {args:Array Value} {ds gs:List (DataW H)} {before:List MemPlace} {tb:TypeId} (hb:P.underlying tb=some .bool)
  (hr:f.resultTypes = #[tb]) (hv:s.vars=[]) (hfn:s.fn H (ds++gs) = { results:=[.lit (.bool true)],args:=ds })
  (hp0:(f.params.toList.all fun t=>P.readableRec t&&decide (t<P.types.size))=true)
  (hW:DataW.Whole enc P f.params.toList s.vars false W args.toList ds gs before) (hk:Kept NoS W W') :
  s.post enc P f false true false false W args (.bool true) W':=by
 have hp:∀t∈f.params.toList,P.readableRec t=true/\t<P.types.size:=fun t ht=>by
  have:=List.all_eq_true.1 hp0 t ht
  simpa using this
 have hbw:Below W.heap.size W W':=hk.below (Nat.le_refl _) fun _ _ e=>e.elim
 have hlt:=hW.lt
 have hW':=hW
 obtain ⟨p,q,hA,hV,rfl,_,_⟩:=hW
 refine ⟨ds,gs,p++q,[],p,[],hW',?_,?_,?_,?_,fun h=>by cases h⟩
 ·rw[hfn,hr]
  exact trodAll_cons_mk (shut_bool hb _) trodAll_mk0
 ·rw[hfn]
  exact XVG hl hbw _ _ _ _ hp hA fun x hx=>hlt x (List.mem_append.2 (.inl hx))
 ·rw[hfn,hv] 
  rw[hv]at hV
  obtain ⟨rfl,rfl⟩:=trodVars_none hV
  exact hV
 ·exact hbw.frame _
end
end
end Go.Proofs.YtekeoichmdiiiaaGreat
section
namespace Go.Proofs.YtekeoichmdiiiaaGreat.tableBytes
open Go.ChangeShapes Go.WideShapes Go.ChangeAt Go.RowKit
set_option maxRecDepth 100000 in
theorem Ykn:joinedFacts Tryz.pinned.checked.prog 7 Tryz.f7 Rows.tableBytesSpec Rows.tableBytesRow=true:=by kernel_rfl
end Go.Proofs.YtekeoichmdiiiaaGreat.tableBytes
end
section

namespace Go.Proofs.YtekeoichmdiiiaaGreat
open Go.RowKit
inductive AV where
 | b (x:Bool)
 | i (k:IntKind) (n:Int)
 | s (l:List UInt8)
 | p (id off:Nat)
 | np
 | sl (id off len cap:Nat) (k:Option Nat)
 | se
 | ns
 | f (fn:Fn) (fst cap:List AV)
 | nf
 | ifc (t:TypeId) (v:AV)
 | ni
 | ag (l:List AV)
 | tu (l:List AV)
 | top
 | y (id:Nat)
 | m (id:Nat)
 | nm
abbrev oZ:AV:=.i .u8 0
theorem oQ {α β:Type} {b:β} {o:Option α} {f:α->Option β}:o.bind f=some b↔∃a,o=some a/\f a=some b:=Option.bind_eq_some_iff
theorem oI {p:Prop} (a:p):p:=a
theorem oD:(∀h:Decidable True,@decide True h=true)/\(∀h:Decidable False,@decide False h=false)/\(∀p:Prop,(False->p)=True):=⟨fun _=>decide_true ..,fun _=>decide_false ..,fun p=>false_implies p⟩
abbrev Mp:=List (Nat×Nat×Nat)
inductive VR (ρ:Mp):AV->Value->Prop
 | b (x:Bool):VR ρ (.b x) (.bool x)
 | i (k:IntKind) (n:Int):VR ρ (.i k n) (.int k n)
 | s (l:List UInt8) (bs:ByteArray) (h:bs.data.toList=l):VR ρ (.s l) (.string bs)
 | p (id off b o n:Nat) (h:ρ[id]?=some (b,o,n)):VR ρ (.p id off) (.pointer (some ⟨b,o+off,none⟩))
 | np:VR ρ .np (.pointer none)
 | sl (id off len cap:Nat) (k:Option Nat) (b o n cap':Nat) (h:ρ[id]?=some (b,o,n)) (h1:len<=cap) (h2:cap<=cap') (h3:cap'<=maxLen) (h4:k=none->cap'=cap) (h5:∀z,k=some z->z≠0->o+off+cap'*z<=n) :
   VR ρ (.sl id off len cap k) (.slice (some ⟨b,o+off,none⟩) len cap')
 | sz (id off:Nat) (a:Option Addr) (c:Nat) (h:c<=maxLen) (hn:a=none->c=0):VR ρ (.sl id off 0 0 (some 0)) (.slice a 0 c)
 | se (a:Addr) (c:Nat) (h:c<=maxLen):VR ρ .se (.slice (some a) 0 c)
 | ns:VR ρ .ns (.slice none 0 0)
 | f (fn:Fn) (fst cap:List AV) (fst' cap':Array Value) (h0:fst.length=fst'.size) (h:cap.length=cap'.size) (hv0:∀(j:Nat) a c,fst[j]?=some a->fst'[j]?=some c->VR ρ a c) (hv:∀(j:Nat) a c,cap[j]?=some a->cap'[j]?=some c->VR ρ a c):VR ρ (.f fn fst cap) (.func fn fst' cap')
 | nf:VR ρ .nf .nilFunc
 | ifc (t:TypeId) (v:AV) (v':Value) (h:VR ρ v v'):VR ρ (.ifc t v) (.iface t v')
 | ni:VR ρ .ni .nilIface
 | ag (l:List AV) (cs:Array Value) (h:l.length=cs.size) (hv:∀(j:Nat) a c,l[j]?=some a->cs[j]?=some c->VR ρ a c):VR ρ (.ag l) (.agg cs)
 | tu (l:List AV) (cs:Array Value) (h:l.length=cs.size) (hv:∀(j:Nat) a c,l[j]?=some a->cs[j]?=some c->VR ρ a c):VR ρ (.tu l) (.tuple cs)
 | top (v:Value):VR ρ .top v
 | y (id b o n:Nat) (h:ρ[id]?=some (b,o,n)):VR ρ (.y id) (.func (.yield b) #[] #[])
 | m (id b o n:Nat) (h:ρ[id]?=some (b,o,n)):VR ρ (.m id) (.map (some b))
 | nm:VR ρ .nm (.map none)
def Ext (ρ ρ':Mp):Prop:=∀(i:Nat) (x:Nat×Nat×Nat),ρ[i]?=some x->ρ'[i]?=some x
theorem Ext.refl (ρ:Mp):Ext ρ ρ:=fun _ _ h=>h
theorem Ext.push (ρ:Mp) (x:Nat×Nat×Nat):Ext ρ (ρ++[x]):=fun i y h=>by
 rw[List.getElem?_append_left (List.getElem?_eq_some_iff.1 h).1]
 exact h
theorem VR.ext {ρ ρ':Mp} (he:Ext ρ ρ') {a:AV} {v:Value} (h:VR ρ a v):VR ρ' a v:=by
 induction h with
 | b x=>exact .b x
 | i k n=>exact .i k n
 | s l bs h=>exact .s l bs h
 | p id off b o n h=>exact .p id off b o n (he _ _ h)
 | np=>exact .np
 | sl id off len cap k b o n cap' h h1 h2 h3 h4 h5=>exact .sl id off len cap k b o n cap' (he _ _ h) h1 h2 h3 h4 h5
 | sz id off a c h hn=>exact .sz id off a c h hn
 | se a c h=>exact .se a c h
 | ns=>exact .ns
 | f fn fst cap fst' cap' h0 h _ _ ih0 ih=>exact .f fn fst cap fst' cap' h0 h ih0 ih
 | nf=>exact .nf
 | ifc t v v' _ ih=>exact .ifc t v v' ih
 | ni=>exact .ni
 | ag l cs h _ ih=>exact .ag l cs h ih
 | tu l cs h _ ih=>exact .tu l cs h ih
 | top v=>exact .top v
 | y id b o n h=>exact .y id b o n (he _ _ h)
 | m id b o n h=>exact .m id b o n (he _ _ h)
 | nm=>exact .nm
def VL (ρ:Mp) (l:List AV) (cs:Array Value):Prop:=l.length=cs.size/\∀(j:Nat) a c,l[j]?=some a->cs[j]?=some c->VR ρ a c
theorem VL.ext {ρ ρ':Mp} (he:Ext ρ ρ') {l:List AV} {cs:Array Value} (h:VL ρ l cs):VL ρ' l cs:=⟨h.1,fun j a c h1 h2=>(h.2 j a c h1 h2).ext he⟩
theorem VL.get {ρ:Mp} {l:List AV} {cs:Array Value} (h:VL ρ l cs) {j:Nat} {a:AV} (ha:l[j]?=some a):∃c,cs[j]?=some c/\VR ρ a c:=by
 have hj:j<cs.size:=by rw[<-h.1];exact (List.getElem?_eq_some_iff.1 ha).1
 exact ⟨cs[j],Array.getElem?_eq_getElem hj,h.2 j a _ ha (Array.getElem?_eq_getElem hj)⟩
theorem VL.set {ρ:Mp} {l:List AV} {cs:Array Value} (h:VL ρ l cs) (d:Nat) {a:AV} {c:Value} (hv:VR ρ a c):VL ρ (l.set d a) (cs.setIfInBounds d c):=by
 refine ⟨by simp [h.1],fun j a' c' h1 h2=>?_⟩
 rw[List.getElem?_set]at h1
 rw[Array.getElem?_setIfInBounds]at h2
 by_cases hd:d=j
 ·subst hd
  simp only[↓reduceIte]at h1 h2
  split at h1
  ·split at h2
   ·cases h1;cases h2;exact hv
   ·cases h2
  ·cases h1
 ·rw[if_neg hd]at h1 h2
  exact h.2 j a' c' h1 h2
theorem VL.append {ρ:Mp} {l l':List AV} {cs cs':Array Value} (h:VL ρ l cs) (h':VL ρ l' cs'):VL ρ (l++l') (cs++cs'):=by
 refine ⟨by simp [h.1,h'.1],fun j a c h1 h2=>?_⟩
 by_cases hj:j<l.length
 ·rw[List.getElem?_append_left hj]at h1
  rw[Array.getElem?_append_left (by rw[<-h.1];exact hj)]at h2
  exact h.2 j a c h1 h2
 ·rw[List.getElem?_append_right (by omega)]at h1
  rw[Array.getElem?_append_right (by rw[<-h.1];omega),<-h.1]at h2
  exact h'.2 _ a c h1 h2
theorem VL.nil (ρ:Mp):VL ρ [] #[]:=⟨rfl,fun j a c h=>by simp at h⟩
theorem VL.cons {ρ:Mp} {a:AV} {c:Value} {l:List AV} {cs:List Value} (h:VR ρ a c) (hl:VL ρ l cs.toArray):VL ρ (a::l) (c::cs).toArray:=by
 have:=VL.append (l:=[a]) (cs:=#[c]) ⟨rfl,fun j x y h1 h2=>by
  cases j with
  | zero=>simp at h1 h2;cases h1;cases h2;exact h
  | succ j=>simp at h1⟩ hl
 simpa using this
theorem VL.one {ρ:Mp} {a:AV} {c:Value} (h:VR ρ a c):VL ρ [a] #[c]:=VL.cons h (VL.nil ρ)
inductive Opd where
 | t (n:Nat)
 | c (v:AV)
def Opd.ev (fr:List AV):Opd->AV
 | .t n=>fr.getD n (.tu [])
 | .c v=>v
inductive CK where
 | b|i|s
inductive CO where
 | mv (x:Opd)
 | pick (c a b:Opd)
 | bin (op:BinOp) (x y:Opd)
 | eqb (neg:Bool) (x y:Opd)
 | eqc (ks:List CK) (neg:Bool) (x y:Opd)
 | eqn (neg:Bool) (x y:Opd)
 | un (op:UnOp) (x:Opd)
 | cvi (k:IntKind) (x:Opd)
 | cvs (x:Opd)
 | fad (off:Nat) (x:Opd)
 | fld (off:Nat) (sz:Option Nat) (x:Opd)
 | iad (sz:Nat) (x i:Opd)
 | iaa (n sz:Nat) (x i:Opd)
 | ixs (x i:Opd)
 | ixa (n sz:Nat) (ag:Bool) (x i:Opd)
 | sls (x:Opd) (lo hi:Option Opd)
 | sll (sz:Nat) (x:Opd) (lo hi mx:Option Opd)
 | sla (n sz:Nat) (x:Opd) (lo hi mx:Option Opd)
 | ifc (t:TypeId) (x:Opd)
 | mkf (fn:Fn) (fst cap:List Opd)
 | ext (x:Opd) (i:Nat)
 | len (str:Bool) (x:Opd)
 | lnc (n:Nat)
 | mm (max:Bool) (x y:Opd)
 | nck (x:Opd)
 | tas (x:Opd) (t:TypeId) (ok:Bool) (z:AV)
 | ld (n:Option Nat) (x:Opd)
 | st (n:Option Nat) (x v:Opd)
 | new (fl:Bool) (zs:List AV)
 | box (fl:Bool) (n:Nat) (x:Opd)
 | bld (zs:List AV) (ps:List (Nat×Nat×Opd))
 | bls (fl:Bool) (len:Nat) (zs:List AV) (ps:List (Nat×Nat×Opd))
 | mks (fl:Bool) (z:List AV) (by_:Nat) (len cap:Opd)
 | app (str fl:Bool) (sz by_:Nat) (s x:Opd)
 | cpy (str:Bool) (sz:Nat) (d s:Opd)
 | capo (x:Opd)
 | apz (fl:Bool) (z:List AV) (by_:Nat) (s n:Opd)
 | stop
 | b2s (x:Opd)
 | clr (z:List AV) (x:Opd)
 | bcmp (x y:Opd)
 | s2b (x:Opd)
 | rng (x:Opd)
 | nxt (x:Opd)
 | s2s (x:Opd)
 | bix (x y:Opd)
 | mkm
 | mln (x:Opd)
 | lkp (ag:Bool) (ks:List CK) (ok:Bool) (z:AV) (x k:Opd)
 | mup (ag:Bool) (ks:List CK) (x k v:Opd)
 | mdl (ag:Bool) (ks:List CK) (x k:Opd)
 | mrg (x:Opd)
 | ent (x:Opd)
 | mnx (x:Opd)
 | r2s (x:Opd)
 | call (f:Opd) (args:List Opd)
structure COper where
 dst:Option Nat
 guard:Option (Nat×Bool)
 op:CO
structure DOp where
 o:COper
 anc:Nat
 us:Nat
inductive CC where
 | skip
 | reg (id:Nat) (ops:List COper)
 | drw (id:Nat) (ops:List DOp)
 | seq (a b:CC)
 | cond (c:Opd) (a b:CC)
 | block (id:Nat) (a:CC)
 | loop (a:CC)
 | scope (a:CC)
 | exit (id:Nat)
 | ret
 | stop
 | rf (g:Opd) (ps:List Nat) (a b:CC)
inductive XE where
 | n
 | x (id:Nat)
 | r
inductive MKd where
 | map (borns:List Nat) (clock:Nat)
 | it (since:Nat) (seen:List Nat) (last:Nat)
deriving DecidableEq
def zJU:List Nat->List Value->List MapEntry
 | b::bs,k::v::cs=>⟨k,v,b⟩::zJU bs cs
 | _,_=>[]
def MKd.obj:MKd->List Value->Obj
 | .map bs c,cs=>.map (zJU bs cs).toArray c
 | .it s seen l,cs=>.mapIter (match cs with | [.map (some b)]=>some b|_=>none) s seen.toArray l
inductive AB where
 | dead
 | blk (fl m:Bool) (xs:List AV)
 | iter (s:ByteArray) (pos:Nat)
 | lp (st:LoopState) (pd:XE) (fr:List AV) (ps:List Nat) (asg bd:CC)
 | mo (m:Bool) (k:MKd) (fr:List AV)
def AB.mut:AB->Bool
 | .dead=>false
 | .blk _ m _=>m
 | .iter _ _=>true
 | .lp _ _ _ _ _ _=>true
 | .mo m _ _=>m
def AB.live:AB->Bool
 | .dead=>false
 | _=>true
theorem AB.live_of_mut {B:AB} (h:B.mut=true):B.live=true:=by
 cases B with
 | dead=>simp [AB.mut]at h
 | blk _ _ _=>rfl
 | iter _ _=>rfl
 | lp _ _ _ _ _ _=>rfl
 | mo _ _ _=>rfl
def flm (fl:Bool) (ρ:Mp):Mp:=if fl then [] else ρ
theorem Z7k (fl:Bool) {ρ ρ':Mp} (h:Ext ρ ρ'):Ext (flm fl ρ) (flm fl ρ'):=by
 unfold flm
 split
 ·exact Ext.refl _
 ·exact h
theorem z1N (ρ:Mp):Ext [] ρ:=fun i x h=>by simp at h
theorem Jzd (fl:Bool) (ρ:Mp):Ext (flm fl ρ) ρ:=by
 unfold flm
 split
 ·exact z1N ρ
 ·exact Ext.refl _
def XE.jump:XE->Option Code
 | .n=>none
 | .x id=>some (.exit id)
 | .r=>some .ret
def BR (K:Code->CC->Prop) (ρ:Mp) (w:World) (b o n:Nat):AB->Prop
 | .dead=>True
 | .blk fl m xs=>∃(cs:Array Value) (e:TypeId) (fz:Nat×Nat),w.heap[b]?=some (.cells cs e fz)/\(m=true->(fz.2=0\/cs.size<=fz.1)/\n<=cs.size)/\o+xs.length<=cs.size/\∀(k:Nat) a c,xs[k]?=some a->cs[o+k]?=some c->VR (flm fl ρ) a c
 | .iter s pos=>o=0/\w.heap[b]?=some (.stringIter s pos)
 | .lp st pd fr ps asg bd=>∃r:Loop,w.heap[b]?=some (.loop r)/\r.state=st/\r.pending=pd.jump/\VL ρ fr r.tmps/\r.params.toList=ps/\K r.assign asg/\K r.body bd
 | .mo _ k fr=>o=0/\∃cs:Array Value,w.heap[b]?=some (k.obj cs.toList)/\VL ρ fr cs
def GG (N:Nat) (w:World):Prop:=N<=w.heap.size
theorem Q6Z {N:Nat} {w:World} (g:GG N w):N<=w.heap.size:=g
theorem zCY {N:Nat} {w w':World} (g:GG N w) (hs:w.heap.size<=w'.heap.size) (_:∀b cs e fz,b<N->w.heap[b]?=some (.cells cs e fz)->w'.heap[b]?=some (.cells cs e fz)):GG N w':=Nat.le_trans g hs
theorem ZqE (w:World):∃N,GG N w:=⟨0,Nat.zero_le _⟩
variable {K:Code->CC->Prop}
def Own (ρ:Mp) (h:List AB) (b:Nat):Prop:=∃(i:Nat) (B:AB) (o:Nat×Nat),h[i]?=some B/\B.mut=true/\ρ[i]?=some (b,o)
def GL (ρ:Mp) (h:List AB) (w:World):Prop:=∃N,GG N w/\∀b,Own ρ h b->N<=b
theorem GL.keepC {ρ ρ':Mp} {h h':List AB} {w w':World} (g:GL ρ h w) (hs:w.heap.size<=w'.heap.size) (hk:∀b cs e fz,b<w.heap.size->¬Own ρ h b->w.heap[b]?=some (.cells cs e fz)->w'.heap[b]?=some (.cells cs e fz)) (ho:∀b,Own ρ' h' b->Own ρ h b\/w.heap.size<=b):GL ρ' h' w':=by
 obtain ⟨N,g1,g2⟩:=g
 have hN:=Q6Z g1
 refine ⟨N,zCY g1 hs fun b cs e fz hb hc=>hk b cs e fz (Nat.lt_of_lt_of_le hb hN) (fun z=>?_) hc,fun b hb=>?_⟩
 ·have:=g2 b z
  omega
 ·rcases ho b hb with q|q
  ·exact g2 b q
  ·omega
theorem GL.keep {ρ ρ':Mp} {h h':List AB} {w w':World} (g:GL ρ h w) (hs:w.heap.size<=w'.heap.size) (hk:∀b,b<w.heap.size->¬Own ρ h b->w'.heap[b]?=w.heap[b]?) (ho:∀b,Own ρ' h' b->Own ρ h b\/w.heap.size<=b):GL ρ' h' w':=
 g.keepC hs (fun b cs e fz hb hn hc=>(hk b hb hn).trans hc) ho
theorem GL.sub {ρ ρ':Mp} {h h':List AB} {w:World} (g:GL ρ h w) (ho:∀b,Own ρ' h' b->Own ρ h b):GL ρ' h' w:=g.keep (Nat.le_refl _) (fun _ _ _=>rfl) fun b hb=>.inl (ho b hb)
theorem GL.nil {w:World} (g:∃N,GG N w):GL [] [] w:=by
 obtain ⟨N,g⟩:=g
 exact ⟨N,g,fun b ⟨i,B,o,h1,_⟩=>by simp at h1⟩
theorem GL.some {ρ:Mp} {h:List AB} {w:World} (g:GL ρ h w):∃N,GG N w:=by
 obtain ⟨N,g,_⟩:=g
 exact ⟨N,g⟩
structure RelC (K:Code->CC->Prop) (ρ:Mp) (h:List AB) (w:World):Prop where
 len:ρ.length=h.length
 blk:∀(i:Nat) B b o n,h[i]?=some B->ρ[i]?=some (b,o,n)->BR K ρ w b o n B
 sep:∀(i j:Nat) bi (oi:Nat×Nat) bj (oj:Nat×Nat) Bi Bj,i≠j->h[i]?=some Bi->h[j]?=some Bj->ρ[i]?=some (bi,oi)->ρ[j]?=some (bj,oj)->Bi.mut=true->Bj.live=true->bi≠bj
structure Rel (K:Code->CC->Prop) (ρ:Mp) (h:List AB) (w:World):Prop where
 len:ρ.length=h.length
 blk:∀(i:Nat) B b o n,h[i]?=some B->ρ[i]?=some (b,o,n)->BR K ρ w b o n B
 sep:∀(i j:Nat) bi (oi:Nat×Nat) bj (oj:Nat×Nat) Bi Bj,i≠j->h[i]?=some Bi->h[j]?=some Bj->ρ[i]?=some (bi,oi)->ρ[j]?=some (bj,oj)->Bi.mut=true->Bj.live=true->bi≠bj
 gl:GL ρ h w
def At (ρ:Mp) (h:List AB) (i b:Nat):Prop:=∃(B:AB) (o:Nat×Nat),h[i]?=some B/\B.live=true/\ρ[i]?=some (b,o)
def dr (_w:World):Nat:=_w.drawn
theorem Z37 (w:World):dr w<=dr w.drew:=Nat.le_succ _
theorem ql6 (w:World):dr w<=dr { w with drawn:=w.drawn+1 }:=Nat.le_succ _
structure Eff (ρ:Mp) (h:List AB) (w:World) (ρ':Mp) (h':List AB) (w':World):Prop where
 os:w'.os=w.os
 tape:w'.tape=w.tape
 output:w'.output=w.output/\dr w<=dr w'
 size:w.heap.size<=w'.heap.size
 keep:∀b,b<w.heap.size->¬Own ρ h b->w'.heap[b]?=w.heap[b]?
 own:∀b,Own ρ' h' b->Own ρ h b\/w.heap.size<=b
 liv:∀(i:Nat) (b:Nat),At ρ' h' i b->At ρ h i b\/Own ρ h b\/w.heap.size<=b
theorem Rel.to {ρ ρ':Mp} {h h':List AB} {w w':World} (r:Rel K ρ h w) (c:RelC K ρ' h' w') (e:Eff ρ h w ρ' h' w'):Rel K ρ' h' w'/\Eff ρ h w ρ' h' w':=
 ⟨⟨c.len,c.blk,c.sep,r.gl.keep e.size e.keep e.own⟩,e⟩
theorem Eff.refl (ρ:Mp) (h:List AB) (w:World):Eff ρ h w ρ h w:=⟨rfl,rfl,⟨rfl,Nat.le_refl _⟩,Nat.le_refl _,fun _ _ _=>rfl,fun _ h=>.inl h,fun _ _ h=>.inl h⟩
theorem Eff.trans {ρ1 ρ2 ρ3:Mp} {h1 h2 h3:List AB} {w1 w2 w3:World} (a:Eff ρ1 h1 w1 ρ2 h2 w2) (c:Eff ρ2 h2 w2 ρ3 h3 w3):Eff ρ1 h1 w1 ρ3 h3 w3:=
  ⟨c.os.trans a.os,c.tape.trans a.tape,⟨c.output.1.trans a.output.1,Nat.le_trans a.output.2 c.output.2⟩,Nat.le_trans a.size c.size,
   fun b hb hn=>(c.keep b (Nat.lt_of_lt_of_le hb a.size) (fun ho=>by
     rcases a.own b ho with h|h
     · exact hn h
     · omega)).trans (a.keep b hb hn),
   fun b hb=>by
     rcases c.own b hb with h|h
     · exact a.own b h
     · exact .inr (Nat.le_trans a.size h),
   fun i b hb=>by
     rcases c.liv i b hb with h|h|h
     · exact a.liv i b h
     · exact .inr (a.own b h)
     · exact .inr (.inr (Nat.le_trans a.size h))⟩
theorem BR.lt {ρ:Mp} {w:World} {b o n:Nat} {B:AB} (h:BR K ρ w b o n B) (hl:B.live=true):b<w.heap.size:=by
 cases B with
 | dead=>simp [AB.live]at hl
 | blk fl m xs =>
  obtain ⟨cs,e,fz,h,_⟩:=h
  exact (Array.getElem?_eq_some_iff.1 h).1
 | iter s pos=>exact (Array.getElem?_eq_some_iff.1 h.2).1
 | lp st pd fr ps asg bd =>
  obtain ⟨r,h,_⟩:=h
  exact (Array.getElem?_eq_some_iff.1 h).1
 | mo m k fr =>
  obtain ⟨_,cs,h,_⟩:=h
  exact (Array.getElem?_eq_some_iff.1 h).1
theorem BR.same {ρ ρ':Mp} (he:Ext ρ ρ') {w w':World} {b o n:Nat} {B:AB} (h:BR K ρ w b o n B) (hw:B.live=true->w'.heap[b]?=w.heap[b]?):BR K ρ' w' b o n B:=by
 cases B with
 | dead=>trivial
 | blk fl m xs =>
  obtain ⟨cs,e,fz,h1,h2,h3,h4⟩:=h
  exact ⟨cs,e,fz,(hw rfl).trans h1,h2,h3,fun k a c ha hc=>(h4 k a c ha hc).ext (Z7k fl he)⟩
 | iter s pos=>exact ⟨h.1,(hw rfl).trans h.2⟩
 | lp st pd fr ps asg bd =>
  obtain ⟨r,h1,h2,h3,h4,h5⟩:=h
  exact ⟨r,(hw rfl).trans h1,h2,h3,h4.ext he,h5⟩
 | mo m k fr =>
  obtain ⟨h0,cs,h1,h2⟩:=h
  exact ⟨h0,cs,(hw rfl).trans h1,h2.ext he⟩
theorem Rel.at {ρ:Mp} {h:List AB} {w:World} (r:Rel K ρ h w) {i:Nat} {B:AB} (hi:h[i]?=some B):∃b o n,ρ[i]?=some (b,o,n)/\BR K ρ w b o n B:=by
 have hlt:i<ρ.length:=by rw[r.len];exact (List.getElem?_eq_some_iff.1 hi).1
 exact ⟨(ρ[i]).1,(ρ[i]).2.1,(ρ[i]).2.2,List.getElem?_eq_getElem hlt,r.blk i B _ _ _ hi (List.getElem?_eq_getElem hlt)⟩
theorem Rel.heap {ρ:Mp} {h:List AB} {w w':World} (r:Rel K ρ h w) (e:w'.heap=w.heap):Rel K ρ h w':=
 ⟨r.len,fun i B b o n h1 h2=>(r.blk i B b o n h1 h2).same (Ext.refl _) (fun _=>by rw[e]),r.sep,r.gl.keep (by rw[e];exact Nat.le_refl _) (fun b _ _=>by rw[e]) fun _ q=>.inl q⟩
theorem Rel.drew {ρ:Mp} {h:List AB} {w:World} (r:Rel K ρ h w):Rel K ρ h w.drew:=r.heap rfl
theorem Eff.drew (ρ:Mp) (h:List AB) (w:World):Eff ρ h w ρ h w.drew:=⟨rfl,rfl,⟨rfl,Z37 w⟩,Nat.le_refl _,fun _ _ _=>rfl,fun _ h=>.inl h,fun _ _ h=>.inl h⟩
theorem Rel.new {ρ:Mp} {h:List AB} {w:World} (r:Rel K ρ h w) (o:Obj) (B:AB) (n:Nat) (hB:BR K (ρ++[(w.heap.size,0,n)]) (w.alloc o) w.heap.size 0 n B) :
  Rel K (ρ++[(w.heap.size,0,n)]) (h++[B]) (w.alloc o)/\Eff ρ h w (ρ++[(w.heap.size,0,n)]) (h++[B]) (w.alloc o):=by
 have old:∀(i:Nat) x,i<h.length->(ρ++[(w.heap.size,0,n)])[i]?=some x->ρ[i]?=some x:=fun i x hi hx=>by
  rw[List.getElem?_append_left (by rw[r.len];exact hi)]at hx
  exact hx
 have last:∀(i:Nat) x,¬i<h.length->(ρ++[(w.heap.size,0,n)])[i]?=some x->x=(w.heap.size,0,n):=fun i x hi hx=>by
  rw[List.getElem?_append_right (by rw[r.len];omega)]at hx
  cases hq:i-ρ.length with
  | zero=>rw[hq]at hx;simp at hx;exact hx.symm
  | succ n'=>rw[hq]at hx;simp at hx
 have oldB:∀(i:Nat) C,i<h.length->(h++[B])[i]?=some C->h[i]?=some C:=fun i C hi hx=>by
  rw[List.getElem?_append_left hi]at hx
  exact hx
 have lastB:∀(i:Nat) (C:AB),¬i<h.length->(h++[B])[i]?=some C->i=h.length/\C=B:=fun i C hi hx=>by
  rw[List.getElem?_append_right (by omega)]at hx
  cases hq:i-h.length with
  | zero=>rw[hq]at hx;simp at hx;exact ⟨by omega,hx.symm⟩
  | succ n=>rw[hq]at hx;simp at hx
 have live:∀(i:Nat) C b (o':Nat×Nat),h[i]?=some C->ρ[i]?=some (b,o')->C.live=true->b<w.heap.size:=fun i C b o' h1 h2 hl=>(r.blk i C b o'.1 o'.2 h1 h2).lt hl
 refine r.to ⟨by simp [r.len],fun i C b o' n' h1 h2=>?_,fun i j bi oi bj oj Bi Bj hne h1 h2 h3 h4 hm hl=>?_⟩ ⟨rfl,rfl,⟨rfl,Nat.le_refl _⟩,by simp,fun b hb _=>Below.heap_alloc _ _ _ hb,fun b hb=>?_,fun i b hb=>?_⟩
 ·by_cases hi:i<h.length
  ·have h1':=oldB i C hi h1
   have h2':=old i _ hi h2
   exact (r.blk i C b o' n' h1' h2').same (Ext.push _ _) fun hl=>Below.heap_alloc _ _ _ (live i C b (o',n') h1' h2' hl)
  ·have:=last i _ hi h2
   cases this
   obtain ⟨_,rfl⟩:=lastB i C hi h1
   exact hB
 ·by_cases hi:i<h.length
  ·by_cases hj:j<h.length
   ·exact r.sep i j bi oi bj oj Bi Bj hne (oldB i _ hi h1) (oldB j _ hj h2) (old i _ hi h3) (old j _ hj h4) hm hl
   ·have:=last j _ hj h4
    cases this
    have:=live i Bi bi oi (oldB i _ hi h1) (old i _ hi h3) (AB.live_of_mut hm)
    omega
  ·have:=last i _ hi h3
   cases this
   by_cases hj:j<h.length
   ·have:=live j Bj bj oj (oldB j _ hj h2) (old j _ hj h4) hl
    omega
   ·have:=(lastB i _ hi h1).1
    have:=(lastB j _ hj h2).1
    omega
 ·obtain ⟨i,C,o',h1,hm,h2⟩:=hb
  by_cases hi:i<h.length
  ·exact .inl ⟨i,C,o',oldB i C hi h1,hm,old i _ hi h2⟩
  ·have:=last i _ hi h2
   cases this
   exact .inr (Nat.le_refl _)
 ·obtain ⟨C,o',h1,hm,h2⟩:=hb
  by_cases hi:i<h.length
  ·exact .inl ⟨C,o',oldB i C hi h1,hm,old i _ hi h2⟩
  ·have:=last i _ hi h2
   cases this
   exact .inr (.inr (Nat.le_refl _))
theorem Rel.put {ρ:Mp} {h:List AB} {w w':World} (r:Rel K ρ h w) {i:Nat} {B B':AB} {b o n:Nat} (hi:h[i]?=some B) (hm:B.mut=true) (hρ:ρ[i]?=some (b,o,n)) (hB:BR K ρ w' b o n B')
  (hos:w'.os=w.os) (ht:w'.tape=w.tape) (hou:w'.output=w.output/\dr w<=dr w') (hs:w'.heap.size=w.heap.size) (hk:∀k,k≠b->w'.heap[k]?=w.heap[k]?) (hl:B'.live=true->B.live=true) :
  Rel K ρ (h.set i B') w'/\Eff ρ h w ρ (h.set i B') w':=by
 have hlt:i<h.length:=(List.getElem?_eq_some_iff.1 hi).1
 have here:∀(j:Nat) C,(h.set i B')[j]?=some C->(j=i/\C=B')\/(j≠i/\h[j]?=some C):=fun j C hj=>by
  rw[List.getElem?_set]at hj
  by_cases hij:i=j
  ·subst hij
   simp [hlt]at hj
   exact .inl ⟨rfl,hj.symm⟩
  ·rw[if_neg hij]at hj
   exact .inr ⟨fun e=>hij e.symm,hj⟩
 have liveB:B.live=true:=AB.live_of_mut hm
 refine r.to ⟨by simp [r.len],fun j C b' o' n' h1 h2=>?_,fun j k bi oi bj oj Bi Bj hne h1 h2 h3 h4 hm' hl'=>?_⟩ ⟨hos,ht,hou,by omega,fun b' hb' hn=>hk b' (fun e=>hn (e▸⟨i,B,(o,n),hi,hm,hρ⟩)),fun b' hb'=>?_,fun j b' hb'=>?_⟩
 ·rcases here j C h1 with ⟨rfl,rfl⟩|⟨hne,h1⟩
  ·rw[hρ]at h2
   cases h2
   exact hB
  ·refine (r.blk j C b' o' n' h1 h2).same (Ext.refl _) fun hl'=>hk b' fun e=>?_
   subst e
   exact r.sep i j _ _ _ _ B C (fun e=>hne e.symm) hi h1 hρ h2 hm hl' rfl
 ·rcases here j Bi h1 with ⟨rfl,rfl⟩|⟨hj,h1'⟩
  ·rcases here k Bj h2 with ⟨rfl,rfl⟩|⟨hk',h2'⟩
   ·exact absurd rfl hne
   ·exact r.sep j k bi oi bj oj B Bj hne hi h2' h3 h4 hm hl'
  ·rcases here k Bj h2 with ⟨rfl,rfl⟩|⟨hk',h2'⟩
   ·exact r.sep j k bi oi bj oj Bi B hne h1' hi h3 h4 hm' (hl hl')
   ·exact r.sep j k bi oi bj oj Bi Bj hne h1' h2' h3 h4 hm' hl'
 ·obtain ⟨j,C,o',h1,hm',h2⟩:=hb'
  rcases here j C h1 with ⟨rfl,rfl⟩|⟨hne,h1⟩
  ·exact .inl ⟨j,B,o',hi,hm,h2⟩
  ·exact .inl ⟨j,C,o',h1,hm',h2⟩
 ·obtain ⟨C,o',h1,hm',h2⟩:=hb'
  rcases here j C h1 with ⟨rfl,rfl⟩|⟨hne,h1⟩
  ·exact .inl ⟨B,o',hi,liveB,h2⟩
  ·exact .inl ⟨C,o',h1,hm',h2⟩
end Go.Proofs.YtekeoichmdiiiaaGreat
end
namespace Go.Proofs.YtekeoichmdiiiaaGreat
section
def AV.int? : AV->Option Int
 | .i _ n=>some n
 | _=>none
def AV.flat:AV->Bool
 | .b _ | .i _ _ | .s _ | .np | .ns | .nf | .ni=>true
 | _=>false
def AV.one:AV->Bool
 | .ag _ | .tu _ | .top=>false
 | _=>true
def AV.cells:AV->List AV
 | .ag l=>l
 | v=>[v]
def AV.known:AV->Bool
 | .top=>false
 | _=>true
def binI (op:BinOp) (k:IntKind) (a b:Int):Option AV:=
 match op with
 | .add=>some (.i k (k.wrap (a+b)))
 | .sub=>some (.i k (k.wrap (a-b)))
 | .mul=>some (.i k (k.wrap (a*b)))
 | .quo=>if b=0 then none else some (.i k (k.wrap (a.tdiv b)))
 | .rem=>if b=0 then none else some (.i k (a.tmod b))
 | .and=>some (.i k (k.wrap (BitVec.ofInt k.bits a &&& BitVec.ofInt k.bits b).toNat))
 | .or=>some (.i k (k.wrap (BitVec.ofInt k.bits a ||| BitVec.ofInt k.bits b).toNat))
 | .xor=>some (.i k (k.wrap (BitVec.ofInt k.bits a ^^^ BitVec.ofInt k.bits b).toNat))
 | .andNot=>some (.i k (k.wrap (BitVec.ofInt k.bits a &&& ~~~ BitVec.ofInt k.bits b).toNat))
 | .eql=>some (.b (a == b))
 | .neq=>some (.b (a != b))
 | .lss=>some (.b (a<b))
 | .leq=>some (.b (a<=b))
 | .gtr=>some (.b (a > b))
 | .geq=>some (.b (a ≥ b))
 | .shl | .shr=>none
def binS (op:BinOp) (x y:List UInt8):Option AV:=
 match op with
 | .add=>if ((x.length+y.length:Nat):Int) > IntKind.i64.max then none else some (.s (x++y))
 | .eql=>some (.b (x == y))
 | .neq=>some (.b (!(x == y)))
 | .lss=>some (.b (Op.bytesLess x y))
 | .leq=>some (.b (Op.bytesLess x y||x == y))
 | .gtr=>some (.b (!(Op.bytesLess x y||x == y)))
 | .geq=>some (.b (!(Op.bytesLess x y)))
 | _=>none
def binV (op:BinOp):AV->AV->Option AV
 | .i k a,.i k' b=>match op with
  | .shl=>if b<0 then none else some (.i k (k.wrap (a*2 ^ (min b.toNat k.bits))))
  | .shr=>if b<0 then none else some (.i k (a.fdiv (2 ^ (min b.toNat k.bits))))
  | op=>if k=k' then binI op k a b else none
 | .s x,.s y=>binS op x y
 | _,_=>none
def QsB:CK->AV->AV->Option Bool
 | .b,.b x,.b y=>some (x == y)
 | .i,.i k a,.i k' b=>if k=k' then some (a == b) else none
 | .s,.s x,.s y=>some (x == y)
 | _,_,_=>none
def JTs:List CK->List AV->List AV->Option Bool
 | [],[],[]=>some true
 | k::ks,x::xs,y::ys=>(QsB k x y).bind fun r=>(JTs ks xs ys).map (r && ·)
 | _,_,_=>none
def ZAx:AV->AV->Option Bool
 | .ns,.ns | .np,.np | .nf,.nf=>some true
 | .sl _ _ n _ k,.ns | .ns,.sl _ _ n _ k=>if n=0/\k=some 0 then none else some false
 | .se,.ns | .ns,.se | .p _ _,.np | .np,.p _ _ | .f _ _ _,.nf | .nf,.f _ _ _ | .ifc _ _,.ni | .ni,.ifc _ _=>some false
 | _,_=>none
def unV (op:UnOp):AV->Option AV
 | .i k n=>match op with
  | .neg=>some (.i k (k.wrap (0-n)))
  | .xor=>some (.i k (k.wrap (BitVec.ofInt k.bits (if k.signed then -1 else k.max) ^^^ BitVec.ofInt k.bits n).toNat))
  | _=>none
 | .b x=>match op with
  | .not=>some (.b (!x))
  | _=>none
 | _=>none
def kcut (k:Option Nat) (sz:Nat):Option Nat:=
 match k with
 | none=>none
 | some z=>if z=sz then some z else some 0
def bnd (d:Nat) (top:Nat):Option AV->Option Nat
 | none=>some d
 | some (.i _ n)=>if 0<=n/\n<=top then some n.toNat else none
 | some _=>none
def slS (s:List UInt8) (lo hi:Option AV):Option AV:=
 (bnd s.length s.length hi).bind fun h=>(bnd 0 h lo).map fun l=>.s ((s.take h).drop l)
def slL (sz:Nat) (x:AV) (lo hi mx:Option AV):Option AV:=
 match x,mx with
 | .sl id off len cap k,none=>(bnd len cap hi).bind fun h=>(bnd 0 h lo).map fun l =>
   if l=0 then .sl id off h cap k
   else if l<cap then .sl id (off+l*sz) (h-l) (cap-l) (kcut k sz)
   else if k=none then .sl id off 0 0 none else .se
 | .sl id off _ cap k,some v=>(bnd 0 cap (some v)).bind fun m=>(hi.bind fun hv=>bnd 0 m (some hv)).bind fun h=>(bnd 0 h lo).map fun l =>
   if m=l then (if cap=0/\k=some 0 then .sl id off 0 0 (some 0) else .sl id off 0 0 none) else .sl id (off+l*sz) (h-l) (m-l) none
 | .ns,none=>(bnd 0 0 hi).bind fun h=>(bnd 0 h lo).map fun _=>.ns
 | .se,none=>(bnd 0 0 hi).bind fun h=>(bnd 0 h lo).map fun _=>.se
 | _,_=>none
def slA (n sz:Nat) (x:AV) (lo hi mx:Option AV):Option AV:=
 match x,mx with
 | .p id off,none=>(bnd n n hi).bind fun h=>(bnd 0 h lo).map fun l=>if n=l then .sl id off (h-l) 0 none else .sl id (off+l*sz) (h-l) (n-l) none
 | _,_=>none
def zZU (h:List AB) (id:Nat):Option (List AV):=
 match h[id]? with
 | some (.blk _ _ xs)=>some xs
 | _=>none
def ldV (h:List AB):Option Nat->AV->Option AV
 | none,.p id off=>(zZU h id).bind fun xs=>xs[off]?
 | some n,.p id off=>(zZU h id).bind fun xs=>if off+n<=xs.length then some (.ag ((xs.drop off).take n)) else none
 | _,_=>none
def wrOk (fl:Bool) (v:AV):Bool:=if fl then v.flat else v.one
def over (xs:List AV) (off:Nat) (l:List AV):List AV:=xs.take off++l++xs.drop (off+l.length)
def stB (h:List AB) (id off:Nat) (l:List AV):Option (List AB):=
 match h[id]? with
 | some (.blk fl true xs)=>if off+l.length<=xs.length/\l.all (wrOk fl)=true then some (h.set id (.blk fl true (over xs off l))) else none
 | _=>none
def stV (h:List AB):Option Nat->AV->AV->Option (List AB)
 | none,.p id off,v=>if v.one then stB h id off [v] else none
 | some n,.p id off,.ag l=>if l.length=n then stB h id off l else none
 | _,_,_=>none
def zlr (ev:Opd->AV) (cells:List AV):List (Nat×Nat×Opd)->Option (List AV)
 | []=>some cells
 | (off,sz,x)::rest=>if (ev x).cells.length=sz/\off+sz<=cells.length/\(ev x).known=true then zlr ev (over cells off (ev x).cells) rest else none
def newB (h:List AB) (fl:Bool) (cs:List AV) (v:Nat->AV):Option (AV×List AB):=
 if cs.all (wrOk fl)=true then some (v h.length,h++[.blk fl true cs]) else none
def srcV (h:List AB) (sz:Nat):AV->Option (Nat×List AV)
 | .ns=>some (0,[])
 | .se=>some (0,[])
 | .s l=>if sz=1 then some (l.length,l.map fun b=>.i .u8 b.toNat) else none
 | .sl id off len _ _=>if len=0 then some (0,[]) else (zZU h id).bind fun xs=>if off+len*sz<=xs.length then some (len,(xs.drop off).take (len*sz)) else none
 | _=>none
def appV (h:List AB) (fl:Bool) (sz by_:Nat) (s x:AV):Option (AV×List AB):=
 (srcV h sz x).bind fun (m,ys) =>
  if ys.all (wrOk fl)=true then
   match s with
   | .ns=>if m=0 then some (.ns,h) else if m*by_<=140737488355328/\m<=maxLen then some (.sl h.length 0 m m (some sz),h++[.blk fl true ys]) else none
   | .sl id off len cap k =>
    if m=0 then some (.sl id off len cap k,h)
    else if len+m<=cap then (stB h id (off+len*sz) ys).map fun h'=>(.sl id off (len+m) cap k,h')
    else match h[id]? with
     | some (.blk fl' mu xs) =>
      if fl'=fl/\off+len*sz<=xs.length/\(len+m)*by_<=140737488355328/\len+m<=maxLen then
       if k=none then some (.sl h.length 0 (len+m) (len+m) (some sz),h++[.blk fl true ((xs.drop off).take (len*sz)++ys)])
       else if k=some sz/\sz≠0/\mu=true/\off+len*sz=xs.length then some (.sl h.length 0 (len+m) (len+m) (some sz),h.set id .dead++[.blk fl true (xs.drop off++ys)])
       else if k=some sz/\sz≠0/\mu=true then some (.sl h.length 0 (len+m) (len+m) (some sz),h.set id .dead++[.blk fl true ((xs.drop off).take (len*sz)++ys)])
       else none
      else none
     | _=>none
   | _=>none
  else none
def cpyV (h:List AB) (sz:Nat) (d s:AV):Option (AV×List AB):=
 (srcV h sz s).bind fun (m,ys) =>
  match d with
  | .sl id off len _ _=>if m<=len then (stB h id off ys).map fun h'=>(.i .i64 m,h') else none
  | _=>none
def bytesOf:List AV->Option (List UInt8)
 | []=>some []
 | .i .u8 n::rest=>(bytesOf rest).map (UInt8.ofNat n.toNat :: ·)
 | _=>none
def mmV (mx:Bool):AV->AV->Option AV
 | .i k x,.i _ y=>some (.i k (if mx then (if y > x then y else x) else (if y<x then y else x)))
 | _,_=>none
def AV.isStr:AV->Bool
 | .s _=>true
 | _=>false
def lenV:AV->Option Int
 | .s l=>some l.length
 | .sl _ _ n _ _=>some n
 | .ns | .se=>some 0
 | _=>none
def XHe (ag:Bool) (k:AV):Option (List AV):=
 match k with
 | .ag l=>if ag then some l else none
 | k=>if ag then none else some [k]
def K8D (ag:Bool) (ks:List CK) (k key:AV):Option Bool:=(XHe ag k).bind fun a=>(XHe ag key).bind fun b=>JTs ks a b
def Kq6 (ag:Bool) (ks:List CK) (k:AV):List AV->Nat->Option (Option (Nat×AV))
 | key::v::r,i=>(K8D ag ks k key).bind fun b=>if b then some (some (i,v)) else Kq6 ag ks k r (i+1)
 | [],_=>some none
 | [_],_=>none
def mapB (B:Option AB):Option (List Nat×Nat×List AV):=
 match B with
 | some (.mo _ (.map bs c) kv)=>if kv.length=2*bs.length then some (bs,c,kv) else none
 | _=>none
def Jeg (h:List AB) (x:AV):Option (List Nat×Nat×List AV):=
 match x with
 | .m id=>mapB h[id]?
 | .nm=>some ([],0,[])
 | _=>none
def lkR (ok:Bool) (z:AV) (r:Option (Nat×AV)):AV:=
 match r with
 | some (_,v)=>if ok then .tu [v,.b true] else v
 | none=>if ok then .tu [z,.b false] else z
def lkV (h:List AB) (ag:Bool) (ks:List CK) (ok:Bool) (z x k:AV):Option AV:=
 (K8D ag ks k k).bind fun _=>(Jeg h x).bind fun p=>(Kq6 ag ks k p.2.2 0).map (lkR ok z)
def mapW (B:Option AB):Option (List Nat×Nat×List AV):=
 match B with
 | some (.mo true (.map bs c) kv)=>if kv.length=2*bs.length then some (bs,c,kv) else none
 | _=>none
def muB (bs:List Nat) (c:Nat) (kv:List AV) (k v:AV) (r:Option (Nat×AV)):AB:=
 match r with
 | some (i,_)=>.mo true (.map bs c) (kv.set (2*i+1) v)
 | none=>.mo true (.map (bs++[c]) (c+1)) (kv++[k,v])
def mdB (bs:List Nat) (c:Nat) (kv:List AV) (r:Option (Nat×AV)):AB:=
 match r with
 | some (i,_)=>.mo true (.map (bs.eraseIdx i) c) (kv.take (2*i)++kv.drop (2*i+2))
 | none=>.mo true (.map bs c) kv
def muV (h:List AB) (ag:Bool) (ks:List CK) (x k v:AV):Option (List AB):=
 match x with
 | .m id=>(K8D ag ks k k).bind fun _=>(mapW h[id]?).bind fun p=>(Kq6 ag ks k p.2.2 0).map fun r=>h.set id (muB p.1 p.2.1 p.2.2 k v r)
 | _=>none
def mdV (h:List AB) (ag:Bool) (ks:List CK) (x k:AV):Option (List AB):=
 match x with
 | .m id=>(K8D ag ks k k).bind fun _=>(mapW h[id]?).bind fun p=>(Kq6 ag ks k p.2.2 0).map fun r=>h.set id (mdB p.1 p.2.1 p.2.2 r)
 | _=>none
def Qmg:List Nat->List AV->List (Nat×AV×AV)
 | b::bs,k::v::kv=>(b,k,v)::Qmg bs kv
 | _,_=>[]
def Z1R (seen:List Nat) (L:List (Nat×AV×AV)):List (Nat×AV×AV):=L.filter fun e=>!seen.contains e.1
def z4i (id:Nat) (s:Nat) (seen:List Nat) (c:Nat) (x:AV) (h:List AB) (L:List (Nat×AV×AV)):List (AV×List AB):=
 match L with
 | []=>[(.tu [.b false],h)]
 | _::_=>L.map fun e=>(.tu [.b true,e.2.1,e.2.2],h.set id (.mo true (.it s (seen++[e.1]) c) [x]))
def mnxC (h:List AB) (x:AV):Option (List (AV×List AB)):=
 match x with
 | .p id 0=>match h[id]? with
  | some (.mo true (.it _ _ _) [.nm])=>some [(.tu [.b false],h)]
  | some (.mo true (.it s seen last) [.m mid])=>(mapB h[mid]?).bind fun p =>
    if p.1.all (fun b=>decide (b<s))=true/\s<=last then some (z4i id s seen p.2.1 (.m mid) h (Z1R seen (Qmg p.1 p.2.2))) else none
  | _=>none
 | _=>none
def entV (h:List AB) (x:AV):Option AV:=
 match x with
 | .p id 0=>match h[id]? with
  | some (.mo _ (.it _ seen last) [.m mid])=>(mapB h[mid]?).bind fun p=>if p.2.1=last then seen.getLast?.bind fun b=>((Qmg p.1 p.2.2).find? fun e=>e.1 == b).map fun e=>.tu [e.2.1,e.2.2] else none
  | _=>none
 | _=>none
def rgV (h:List AB) (x:AV):Option (AV×List AB):=
 match x with
 | .m id=>(mapB h[id]?).map fun p=>(.p h.length 0,h++[.mo true (.it p.2.1 [] p.2.1) [.m id]])
 | .nm=>some (.p h.length 0,h++[.mo true (.it 0 [] 0) [.nm]])
 | _=>none
def CO.run (ev:Opd->AV) (h:List AB):CO->Option (AV×List AB)
 | .mv x=>some (ev x,h)
 | .pick c a b=>match ev c with
  | .b t=>some (if t then ev a else ev b,h)
  | _=>none
 | .bin op x y=>(binV op (ev x) (ev y)).map (·,h)
 | .eqb neg x y=>match ev x,ev y with
  | .b p,.b q=>some (.b ((p == q) ^^ neg),h)
  | _,_=>none
 | .eqc ks neg x y=>match ev x,ev y with
  | .ag l,.ag l'=>(JTs ks l l').map fun r=>(.b (r ^^ neg),h)
  | _,_=>none
 | .eqn neg x y=>(ZAx (ev x) (ev y)).map fun r=>(.b (r ^^ neg),h)
 | .un op x=>(unV op (ev x)).map (·,h)
 | .cvi k x=>(ev x).int?.map fun n=>(.i k (k.wrap n),h)
 | .cvs x=>match ev x with
  | .s l=>some (.s l,h)
  | _=>none
 | .fad off x=>match ev x with
  | .p id o=>some (.p id (o+off),h)
  | _=>none
 | .fld off sz x=>match ev x with
  | .ag l=>match sz with
   | none=>(l[off]?).map (·,h)
   | some n=>some (.ag ((l.drop off).take n),h)
  | _=>none
 | .iad sz x i=>match ev x,ev i with
  | .sl id off k _ _,.i _ n=>if 0<=n/\n<k then some (.p id (off+n.toNat*sz),h) else none
  | _,_=>none
 | .iaa k sz x i=>match ev x,ev i with
  | .p id off,.i _ n=>if 0<=n/\n<k then some (.p id (off+n.toNat*sz),h) else none
  | _,_=>none
 | .ixs x i=>match ev x,ev i with
  | .s l,.i _ n=>if 0<=n then (l[n.toNat]?).map fun b=>(.i .u8 b.toNat,h) else none
  | _,_=>none
 | .ixa k sz agg x i=>match ev x,ev i with
  | .ag l,.i _ n=>if 0<=n/\n<k then (if agg then some (.ag ((l.drop (n.toNat*sz)).take sz),h) else (l[n.toNat*sz]?).map (·,h)) else none
  | _,_=>none
 | .sls x lo hi=>match ev x with
  | .s l=>(slS l (lo.map ev) (hi.map ev)).map (·,h)
  | _=>none
 | .sll sz x lo hi mx=>(slL sz (ev x) (lo.map ev) (hi.map ev) (mx.map ev)).map (·,h)
 | .sla n sz x lo hi mx=>(slA n sz (ev x) (lo.map ev) (hi.map ev) (mx.map ev)).map (·,h)
 | .ifc t x=>some (.ifc t (ev x),h)
 | .mkf fn fst cap=>some (.f fn (fst.map ev) (cap.map ev),h)
 | .ext x i=>match ev x with
  | .tu l=>(l[i]?).map (·,h)
  | _=>none
 | .len str x=>if (ev x).isStr=str then (lenV (ev x)).map fun n=>(.i .i64 n,h) else none
 | .lnc n=>some (.i .i64 n,h)
 | .mm mx x y=>(mmV mx (ev x) (ev y)).map (·,h)
 | .nck x=>match ev x with
  | .p id off=>some (.p id off,h)
  | .f (.func f) fst cap=>some (.f (.func f) fst cap,h)
  | .f (.yield l) fst cap=>some (.f (.yield l) fst cap,h)
  | .ifc t v=>some (.ifc t v,h)
  | _=>none
 | .tas x t ok z=>match ev x with
  | .ifc t' v=>if t'=t then some (if ok then .tu [v,.b true] else v,h) else if ok then some (.tu [z,.b false],h) else none
  | .ni=>if ok then some (.tu [z,.b false],h) else none
  | _=>none
 | .ld n x=>(ldV h n (ev x)).map (·,h)
 | .st n x v=>(stV h n (ev x) (ev v)).map (.tu [],·)
 | .new fl zs=>newB h fl zs (fun n=>.p n 0)
 | .box fl n x=>if (ev x).cells.length=n then newB h fl (ev x).cells (fun n=>.p n 0) else none
 | .bld zs ps=>(zlr ev zs ps).map fun cs=>(.ag cs,h)
 | .bls fl k zs ps=>(zlr ev zs ps).bind fun cs=>newB h fl cs (fun n=>.sl n 0 k k none)
 | .mks fl z by_ le ca=>match ev le,ev ca with
  | .i _ l,.i _ c=>if 0<=l/\l<=c/\(by_:Int)*c<=2 ^ 47/\c<=maxLen then newB h fl ((List.replicate c.toNat z).flatten) (fun n=>.sl n 0 l.toNat c.toNat none) else none
  | _,_=>none
 | .app str fl sz by_ s x=>if (ev x).isStr=str then appV h fl sz by_ (ev s) (ev x) else none
 | .cpy str sz d s=>if (ev s).isStr=str then cpyV h sz (ev d) (ev s) else none
 | .capo x=>match ev x with
  | .ns=>some (.i .i64 0,h)
  | .sl _ _ _ c none=>some (.i .i64 c,h)
  | _=>none
 | .apz fl z by_ s n=>match ev s,ev n with
  | .ns,.i _ m=>if m=0 then some (.ns,h) else if 0<m/\m.toNat*by_<=140737488355328/\m.toNat<=maxLen then newB h fl ((List.replicate m.toNat z).flatten) (fun k=>.sl k 0 m.toNat m.toNat (some z.length)) else none
  | _,_=>none
 | .stop=>none
 | .b2s x=>if (ev x).isStr then none else (srcV h 1 (ev x)).bind fun (_,cs)=>(bytesOf cs).map fun l=>(.s l,h)
 | .clr z x=>match ev x with
  | .ns=>some (.tu [],h)
  | .se=>some (.tu [],h)
  | .sl id off n _ _=>if n=0 then some (.tu [],h) else (stB h id off ((List.replicate n z).flatten)).map (.tu [],·)
  | _=>none
 | .bcmp x y=>(srcV h 1 (ev x)).bind fun (_,xs)=>(srcV h 1 (ev y)).bind fun (_,ys)=>(bytesOf xs).bind fun l=>(bytesOf ys).map fun m=>(.i .i64 (Extern.BytealgCompare.cmp ⟨l.toArray⟩ ⟨m.toArray⟩),h)
 | .s2b x=>match ev x with
  | .s l=>if l.length<=maxLen then some (.sl h.length 0 l.length l.length (some 1),h++[.blk true false (l.map fun b=>.i .u8 (b.toNat:Int))]) else none
  | _=>none
 | .rng x=>match ev x with
  | .s l=>some (.p h.length 0,h++[.iter ⟨l.toArray⟩ 0])
  | _=>none
 | .nxt x=>match ev x with
  | .p id 0=>match h[id]? with
   | some (.iter s pos)=>if pos<s.size then some (.tu [.b true,.i .i64 (pos:Int),.i .i32 ((Utf8.decode s pos).1:Int)],h.set id (.iter s (pos+(Utf8.decode s pos).2))) else some (.tu [.b false],h)
   | _=>none
  | _=>none
 | .s2s x=>match ev x with
  | .sl id off n c k=>if n=0 then none else match h[id]? with
   | some (.blk fl true xs)=>some (.sl id off n c k,h.set id (.blk fl false xs))
   | _=>none
  | _=>none
 | .bix x y=>match ev x,ev y with
  | .s l,.i .u8 n=>some (.i .i64 (match (List.range l.length).find? fun i=>(⟨l.toArray⟩:ByteArray)[i]! == UInt8.ofNat n.toNat with|some i=>(i:Int)|none=>-1),h)
  | _,_=>none
 | .mkm=>some (.m h.length,h++[.mo true (.map [] 0) []])
 | .mln x=>(Jeg h (ev x)).map fun p=>(.i .i64 p.1.length,h)
 | .lkp ag ks ok z x k=>(lkV h ag ks ok z (ev x) (ev k)).map (·,h)
 | .mup ag ks x k v=>(muV h ag ks (ev x) (ev k) (ev v)).map (.tu [],·)
 | .mdl ag ks x k=>(mdV h ag ks (ev x) (ev k)).map (.tu [],·)
 | .mrg x=>rgV h (ev x)
 | .ent x=>(entV h (ev x)).map (·,h)
 | .mnx x=>match mnxC h (ev x) with
  | some [r]=>some r
  | _=>none
 | .r2s x=>match ev x with
  | .i _ n=>if 0<=n/\n<128 then some (.s [UInt8.ofNat n.toNat],h) else none
  | _=>none
 | .call _ _=>none
def put (fr:List AV) (d:Option Nat) (v:AV):List AV:=
 match d with
 | some d=>fr.set d v
 | none=>fr
def zEb (fr:List AV):Option (Nat×Bool)->Bool
 | none=>true
 | some (t,w)=>match fr[t]? with
  | some (.b x)=>x == w
  | _=>false
def qdw (fr:List AV):Option (Nat×Bool)->Bool
 | none=>true
 | some (t,_)=>match fr[t]? with
  | some v=>v.known
  | none=>true
end
section
open Go.RowKit
section
variable {P:Program}
def Ans (P:Program) (ρ:Mp) (s:Sem Value) (a:AV):Prop:=∀w,∃v,s.run P w=.ok v w/\VR ρ a v
theorem Ans.mk {ρ:Mp} {s:Sem Value} {a:AV} {v:Value} (h:∀w,s.run P w=.ok v w) (hv:VR ρ a v):Ans P ρ s a:=fun w=>⟨v,h w,hv⟩
theorem zfI (b:ByteArray):b.toList=b.data.toList:=ByteArray.toList_eq b
theorem data_append (a b:ByteArray):(a++b).data.toList=a.data.toList++b.data.toList:=by
 rw[ByteArray.data_append,Array.toList_append]
theorem KPM (b:ByteArray):b.size=b.data.toList.length:=Array.length_toList.symm
theorem Yut {ρ:Mp} (op:BinOp) (t:TypeId) (X Y:Operand) {x y r:AV} {vx vy:Value} (hx:VR ρ x vx) (hy:VR ρ y vy) (e:binV op x y=some r):Ans P ρ (do eqGuard op t X Y vx vy;binOp op t vx vy) r:=by
  cases hx with
  | i k a =>
    cases hy with
    | i k' b =>
      have hg:∀w,(eqGuard op t X Y (.int k a) (.int k' b)).run P w=.ok () w:=fun w=>by cases op <;> simp [eqGuard]
      cases op <;> simp only[binV]at e
      case shl|shr =>
        split at e
        · cases e
        · cases e
          refine Ans.mk (fun w=>?_) (.i _ _)
          simp [binOp,Op.shift, *]
      all_goals
        split at e
        · rename_i hk
          subst hk
          simp only[binI]at e
          first
          | (split at e
             · cases e
             · cases e
               refine Ans.mk (fun w=>?_) (.i _ _)
               simp [binOp,Op.intDiv, *];done)
          | (cases e
             refine Ans.mk (fun w=>?_) (.i _ _)
             simp [hg,binOp,Op.intArith,Op.intBits];done)
          | (cases e
             refine Ans.mk (fun w=>?_) (.b _)
             simp [hg,binOp,Op.intCmp];done)
        · cases e
    | _=>simp [binV]at e
  | s l bs h =>
    cases hy with
    | s l' bs' h' =>
      subst h h'
      have hg:∀w,(eqGuard op t X Y (.string bs) (.string bs')).run P w=.ok () w:=fun w=>by cases op <;> simp [eqGuard]
      cases op <;> simp only[binV,binS]at e
      case add =>
        split at e
        · cases e
        · rename_i hs
          cases e
          refine Ans.mk (v:=.string (bs++bs')) (fun w=>?_) (.s _ _ (data_append _ _))
          have hs':¬(((bs.size+bs'.size:Nat):Int) > IntKind.i64.max):=by rw[KPM bs,KPM bs'];exact hs
          simp only[hg,binOp,Op.stringOp,Sem.run_bind,Result.andThen_ok]
          rw[if_neg hs']
          rfl
      all_goals
        first
        | (cases e
           refine Ans.mk (fun w=>?_) (.b _)
           simp [hg,binOp,Op.stringOp,zfI];done)
        | cases e
    | _=>simp [binV]at e
  | _=>simp [binV]at e
theorem Xaq {ρ:Mp} (op:UnOp) {x r:AV} {vx:Value} (hx:VR ρ x vx) (e:unV op x=some r):Ans P ρ (Op.unary op vx) r:=by
 cases hx with
 | i k n =>
  cases op <;> simp only[unV]at e
  case neg=>cases e;exact Ans.mk (fun w=>by simp [Op.unary,Op.intArith]) (.i _ _)
  case xor=>cases e;exact Ans.mk (fun w=>by simp [Op.unary,Op.intBits]) (.i _ _)
  all_goals cases e
 | b x =>
  cases op <;> simp only[unV]at e
  case not=>cases e;exact Ans.mk (fun w=>by simp [Op.unary]) (.b _)
  all_goals cases e
 | _=>simp [unV]at e
theorem J3a {ρ:Mp} (neg:Bool) (t:TypeId) (ht:P.underlying t=some .bool) (X Y:Operand) (x y:Bool):Ans P ρ (do eqGuard (if neg then .neq else .eql) t X Y (.bool x) (.bool y);binOp (if neg then .neq else .eql) t (.bool x) (.bool y)) (.b ((x == y) ^^ neg)):=by
 refine Ans.mk (fun w=>?_) (.b _)
 cases neg
 ·simp [eqGuard,binOp,Op.equal,Op.maxDepth,run_equalIn_bool' w 9999 t x y ht]
 ·simp [eqGuard,binOp,Op.equal,Op.maxDepth,run_equalIn_bool' w 9999 t x y ht]
theorem Xpj {ρ:Mp} (src dst:TypeId) (k:IntKind) {ds:TypeDesc} (hs:P.underlying src=some ds) (hd:P.underlying dst=some (.int k)) {x:AV} {n:Int} {vx:Value} (hx:VR ρ x vx) (e:x.int?=some n):Ans P ρ (convert src dst vx) (.i k (k.wrap n)):=by
 cases hx with
 | i k' m =>
  cases e
  exact Ans.mk (fun w=>by simp [convert,run_underlying hs,run_underlying hd,Conv.intToInt]) (.i _ _)
 | _=>simp [AV.int?]at e
theorem Jkx {ρ:Mp} (src dst:TypeId) {ds:TypeDesc} (hs:P.underlying src=some ds) (hd:P.underlying dst=some .string) {l:List UInt8} {vx:Value} (hx:VR ρ (.s l) vx):Ans P ρ (convert src dst vx) (.s l):=by
 cases hx with
 | s l bs h=>exact Ans.mk (fun w=>by cases ds <;> simp [convert,run_underlying hs,run_underlying hd]) (.s _ _ h)
theorem KjF {ρ:Mp} (s:TypeId) (f:Nat) {fs:Array Field} {fd:Field} {i:TypeInfo} (hs:P.underlying s=some (.struct fs)) (hf:fs[f]?=some fd) (hi:P.info? fd.type=some i) (hz:i.size≠0) {id o:Nat} {vx:Value} (hx:VR ρ (.p id o) vx):Ans P ρ (Instr.fieldAt s vx f) (.p id (o+fd.offset)):=by
 cases hx with
 | p id off b o' n h =>
  refine Ans.mk (fun w=>?_) (.p id _ b o' n h)
  simp [Instr.fieldAt,run_underlying hs,hf,Instr.sureAddr,fieldPlace,sizeOf,typeInfo,hi,hz]
  unfold Addr.add
  split
  ·simp_all
  ·simp [Nat.add_assoc]
theorem XC9 {ρ:Mp} {l:List AV} {cs:Array Value} (h:VL ρ l cs):VR ρ (.ag l) (.agg cs):=.ag l cs h.1 h.2
theorem zef {ρ:Mp} {l:List AV} {v:Value} (h:VR ρ (.ag l) v):∃cs,v=.agg cs/\VL ρ l cs:=by
 cases h with
 | ag l cs h hv=>exact ⟨cs,rfl,h,hv⟩
theorem qg5 {ρ:Mp} {l:List AV} {v:Value} (h:VR ρ (.tu l) v):∃cs,v=.tuple cs/\VL ρ l cs:=by
 cases h with
 | tu l cs h hv=>exact ⟨cs,rfl,h,hv⟩
theorem VL.extract {ρ:Mp} {l:List AV} {cs:Array Value} (h:VL ρ l cs) (a n:Nat):VL ρ ((l.drop a).take n) (cs.extract a (a+n)):=by
 refine ⟨by simp [h.1];omega,fun j x c h1 h2=>?_⟩
 rw[List.getElem?_take]at h1
 split at h1
 ·rw[List.getElem?_drop]at h1
  rw[Array.getElem?_extract]at h2
  split at h2
  ·exact h.2 _ x c h1 h2
  ·cases h2
 ·cases h1
def isAg:TypeDesc->Bool
 | .struct _ | .array _ _=>true
 | _=>false
def qyF (ag:Bool) (off n:Nat) (l:List AV):Option AV:=if ag then some (.ag ((l.drop off).take n)) else l[off]?
theorem JeZ {t:TypeId} {d:TypeDesc} (h:P.underlying t=some d) (w:World):(isAgg t).run P w=.ok (isAg d) w:=by
 unfold isAgg
 cases d <;> simp [run_underlying h,isAg]
theorem Qtv {ρ:Mp} (t:TypeId) {d:TypeDesc} {i:TypeInfo} (h:P.underlying t=some d) (hi:P.info? t=some i) (off:Nat) {l:List AV} {cs:Array Value} (hl:VL ρ l cs) {r:AV}
  (e:qyF (isAg d) off i.size l=some r):Ans P ρ (part t cs off) r:=by
 unfold qyF at e
 split at e
 ·rename_i hd
  cases e
  exact Ans.mk (v:=.agg (cs.extract off (off+i.size))) (fun w=>by
   unfold part
   simp [JeZ h,hd,sizeOf,typeInfo,hi]) (XC9 (hl.extract _ _))
 ·rename_i hd
  obtain ⟨c,hc,hv⟩:=hl.get e
  refine Ans.mk (v:=c) (fun w=>?_) hv
  unfold part
  simp [JeZ h,hd,hc]
theorem JKt {ρ:Mp} (s:TypeId) (f:Nat) {fs:Array Field} {fd:Field} {i:TypeInfo} {d:TypeDesc} (hs:P.underlying s=some (.struct fs)) (hf:fs[f]?=some fd) (hi:P.info? fd.type=some i) (hd:P.underlying fd.type=some d) {l:List AV} {vx:Value} (hx:VR ρ (.ag l) vx) {r:AV}
  (e:qyF (isAg d) fd.offset i.size l=some r):Ans P ρ (Instr.field s vx f) r:=by
 obtain ⟨cs,rfl,hl⟩:=zef hx
 intro w
 obtain ⟨v,hr,hv⟩:=Qtv fd.type hd hi fd.offset hl e w
 exact ⟨v,by simp [Instr.field,run_underlying hs,hf,asAgg,hr],hv⟩
theorem Xnp {ρ:Mp} (t e:TypeId) {i:TypeInfo} (ht:P.underlying t=some (.slice e)) (hi:P.info? e=some i) {id off k cap:Nat} {kc:Option Nat} {kk:IntKind} {n:Int} {vx:Value} (hx:VR ρ (.sl id off k cap kc) vx) (h0:0<=n) (h1:n<k):Ans P ρ (Instr.indexAt t vx (.int kk n)) (.p id (off+n.toNat*i.size)):=by
 cases hx with
 | sl id off k cap kc b o m cap' h h1' h2 h3 h4 h5 =>
  refine Ans.mk (fun w=>?_) (.p id _ b o m h)
  simp [Instr.indexAt,asIntOf,run_underlying ht,h0,h1,sizeOf,typeInfo,hi]
  unfold Addr.add
  split
  ·simp_all
  ·simp [Nat.add_assoc]
 | sz _ _ a c hc hn=>omega
theorem YL3 {ρ:Mp} (t e:TypeId) {i:TypeInfo} {k:Nat} (ht:P.underlying t=some (.array k e)) (hi:P.info? e=some i) {id off:Nat} {kk:IntKind} {n:Int} {vx:Value} (hx:VR ρ (.p id off) vx) (h0:0<=n) (h1:n<k):Ans P ρ (Instr.indexAt t vx (.int kk n)) (.p id (off+n.toNat*i.size)):=by
 cases hx with
 | p id off b o m h =>
  refine Ans.mk (fun w=>?_) (.p id _ b o m h)
  simp [Instr.indexAt,asIntOf,run_underlying ht,Instr.sureAddr,h0,h1,sizeOf,typeInfo,hi]
  unfold Addr.add
  split
  ·simp_all
  ·simp [Nat.add_assoc]
theorem Xla {ρ:Mp} (t:TypeId) (ht:P.underlying t=some .string) {l:List UInt8} {kk:IntKind} {n:Int} {u:UInt8} {vx:Value} (hx:VR ρ (.s l) vx) (h0:0<=n) (h1:l[n.toNat]?=some u):Ans P ρ (Instr.index t vx (.int kk n)) (.i .u8 u.toNat):=by
 cases hx with
 | s l bs h =>
  subst h
  have hb:bs[n.toNat]?=some u:=by
   rw[Array.getElem?_toList]at h1
   obtain ⟨hlt,rfl⟩:=Array.getElem?_eq_some_iff.1 h1
   exact getElem?_pos bs n.toNat hlt
  refine Ans.mk (fun w=>?_) (.i _ _)
  simp [Instr.index,asIntOf,run_underlying ht,h0,hb]
theorem z8a {ρ:Mp} (t e:TypeId) {i:TypeInfo} {d:TypeDesc} {k:Nat} (ht:P.underlying t=some (.array k e)) (hi:P.info? e=some i) (hd:P.underlying e=some d) {l:List AV} {kk:IntKind} {n:Int} {vx:Value} (hx:VR ρ (.ag l) vx) (h0:0<=n) (h1:n<k) {r:AV}
  (er:qyF (isAg d) (n.toNat*i.size) i.size l=some r):Ans P ρ (Instr.index t vx (.int kk n)) r:=by
 obtain ⟨cs,rfl,hl⟩:=zef hx
 intro w
 obtain ⟨v,hr,hv⟩:=Qtv e hd hi (n.toNat*i.size) hl er w
 exact ⟨v,by simp [Instr.index,asIntOf,run_underlying ht,h0,h1,sizeOf,typeInfo,hi,hr],hv⟩
end
end
end Go.Proofs.YtekeoichmdiiiaaGreat
