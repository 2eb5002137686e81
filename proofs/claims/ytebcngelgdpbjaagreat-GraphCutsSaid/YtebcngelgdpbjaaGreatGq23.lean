/- Part 23 of what the laws' proofs rest on. No condition. -/
import Derived.Test.YtebcngelgdpbjaaGreatGq22
set_option linter.all false
namespace Go.Proofs.YtebcngelgdpbjaaGreat
section
set_option maxRecDepth 100000
set_option maxHeartbeats 4000000
section
variable {P:Program} {h:List AB} {id n:Nat}
def topB (n:Nat):AB:=.blk true true (List.replicate n .top)
theorem Bt.top {p:Nat} {fr:List AV} {xs:List AV} (hi:h[id]?=some (.blk true true xs)) (hn:xs.length=n):Bt P p fr h fr (h.set id (topB n)):=by
 refine Bt.less hi (fun ρ w b o m hb=>?_) (fun _=>rfl) (fun _=>rfl)
 obtain ⟨cs,e,fz,h1,h2,h3,_⟩:=hb
 refine ⟨cs,e,fz,h1,h2,by rw[List.length_replicate];omega,fun k a c ha _=>?_⟩
 rw[List.getElem?_replicate]at ha
 split at ha
 ·cases ha
  exact .top c
 ·cases ha
theorem JI7 (hid:id<h.length) (x:List AB) (o:Nat) (w:AV) (hw:w.one=true) (hf:wrOk true w=true) (ho:o<n):stV (h.set id (topB n)++x) none (.p id o) w=some (h.set id (.blk true true (over (List.replicate n .top) o [w]))++x):=by
 have hb:(h.set id (.blk true true (List.replicate n .top))++x)[id]?=some (.blk true true (List.replicate n .top)):=by
  rw[List.getElem?_append_left (by rw[List.length_set];exact hid),List.getElem?_set_self hid]
 simp only[stV,hw,if_true,stB,topB,hb]
 rw[if_pos ⟨by simp;omega,by simp [hf]⟩]
 congr 1
 rw[List.set_append_left _ _ (by rw[List.length_set];exact hid),List.set_set]
theorem ZwE (hid:id<h.length) (x:List AB) (o m:Nat) (l:List AV) (hl:l.length=m) (hf:l.all (wrOk true)=true) (ho:o+m<=n):stV (h.set id (topB n)++x) (some m) (.p id o) (.ag l)=some (h.set id (.blk true true (over (List.replicate n .top) o l))++x):=by
 have hb:(h.set id (.blk true true (List.replicate n .top))++x)[id]?=some (.blk true true (List.replicate n .top)):=by
  rw[List.getElem?_append_left (by rw[List.length_set];exact hid),List.getElem?_set_self hid]
 simp only[stV,hl,if_true,stB,topB,hb]
 rw[if_pos ⟨by simp;omega,hf⟩]
 congr 1
 rw[List.set_append_left _ _ (by rw[List.length_set];exact hid),List.set_set]
theorem YJ6 {p:Nat} {fr fr':List AV} (hid:id<h.length) (o:Nat) (l:List AV) (ho:o+l.length<=n) (hw:WkL fr' fr):Bt P p fr (h.set id (.blk true true (over (List.replicate n .top) o l))++[]) fr' (h.set id (topB n)++[]):=by
 rw[List.append_nil,List.append_nil]
 refine Bt.trans (Bt.wk hw) ?_
 have:=Bt.top (P:=P) (p:=p) (fr:=fr') (h:=h.set id (.blk true true (over (List.replicate n .top) o l))) (id:=id) (n:=n) (xs:=over (List.replicate n .top) o l) (by rw[List.getElem?_set_self hid]) (by rw[KIA _ _ _ (by simp;omega)];simp)
 rwa [List.set_set]at this
theorem Yeb {p:Nat} {fr fr':List AV} {xs:List AV} (hi:h[id]?=some (.blk true true xs)) (hn:xs.length=n) (hw:WkL fr' fr):Bt P p fr (h++[]) fr' (h.set id (topB n)++[]):=by
 rw[List.append_nil,List.append_nil]
 exact Bt.trans (Bt.wk hw) (Bt.top hi hn)
theorem J11 {p:Nat} {fr:List AV} (hid:id<h.length):Bt P p fr (h.set id (topB n)++[]) fr (h.set id .dead):=by
 rw[List.append_nil]
 have:=Bt.less (P:=P) (p:=p) (fr:=fr) (h:=h.set id (topB n)) (i:=id) (B:=topB n) (B':=.dead) (by rw[List.getElem?_set_self hid]) (fun _ _ _ _ _ _=>trivial) (fun q=>by cases q) (fun q=>by cases q)
 rwa [List.set_set]at this
end
open Classical in
noncomputable def qPz {α:Type} (r:Row α):List AV->List AB->Option (AV×List AB)
 | [s],h=>if s.isNs=true then some (.tu [],h) else (getS r h s).bind fun l=>match idOf s with
   | [id]=>if s=rsl r id l/\h[id]?=some (resB r true l)/\l.length<=1000000 then some (.tu [],h.set id .dead) else none
   | _=>none
 | _,_=>none
theorem XRT {h:List AB} {id:Nat} (e:h[id]?=some .dead):h.set id .dead=h:=by
 apply List.ext_getElem?
 intro j
 rw[List.getElem?_set]
 split
 ·rename_i hij
  subst hij
  first|rw[if_pos (List.getElem?_eq_some_iff.1 e).1,e] | rw[e]
 ·rfl
theorem zNG:Spec Tryz.prog 21 (qPz intR):=by
 intro args h v h' e
 unfold qPz at e
 split at e
 ·rename_i s
  split at e
  ·rename_i hns
   cases e
   cases s <;> first|(cases hns;done)|skip
   refine FnAt.c (FnAt.run (by kernel_rfl) (T:=⟨[],[]⟩) ⟨trivial,trivial⟩ Tryz.func21 sw21 fun ho hh=>?_)
   unfold w21
   simp only[QhU,YqB,z16,Xq6,simprocAttr]
   refine zXM (S:=Unit) (fun _=>0) (fun _=>[.ns]++tp 1++[.i .i64 0]++tp 9) (fun _=>True) () trivial (by simp only[z16,Xq6,simprocAttr]) fun _ _=>?_
   simp only[z16,Xq6,simprocAttr,Int.lt_irrefl,false_implies]
   exact Bt.eq rfl (List.append_nil h)
  ·obtain ⟨l,hs,e⟩:=zZy e
   split at e
   ·rename_i id hid
    split at e
    ·rename_i hc
     cases e
     obtain ⟨h1,h2,h3⟩:=hc
     have hlt:=(List.getElem?_eq_some_iff.1 h2).1
     by_cases h0:l.length=0
     ·have e2:h.set id .dead=h:=XRT (by rw[h2];unfold resB;rw[if_pos h0])
      rw[e2,h1]
      unfold rsl
      rw[if_pos h0]
      refine FnAt.c (FnAt.run (by kernel_rfl) (T:=⟨[],[]⟩) ⟨trivial,trivial⟩ Tryz.func21 sw21 fun ho hh=>?_)
      unfold w21
      simp only[QhU,YqB,z16,Xq6,simprocAttr]
      refine zXM (S:=Unit) (fun _=>0) (fun _=>[.sl id 0 0 0 (some 0)]++tp 1++[.i .i64 0]++tp 9) (fun _=>True) () trivial (by simp only[z16,Xq6,simprocAttr]) fun _ _=>?_
      simp only[z16,Xq6,simprocAttr,Int.natCast_zero,Int.lt_irrefl,false_implies,lenV]
      exact Bt.eq rfl (List.append_nil h)
     ·rw[h1]
      unfold rsl
      rw[if_neg h0]
      have hb:h[id]?=some (.blk true true (intR.cells l)):=by rw[h2];unfold resB;rw[if_neg h0]
      refine FnAt.c (FnAt.run (by kernel_rfl) (T:=⟨[],[]⟩) ⟨trivial,trivial⟩ Tryz.func21 sw21 fun ho hh=>?_)
      unfold w21
      simp only[QhU,YqB,z16,Xq6,simprocAttr]
      refine q2X (S:=Nat) (fun k=>l.length-k) (fun k=>[.sl id 0 l.length l.length (some intR.sz)]++tp 1++[.i .i64 k]++tp 9) (fun _=>h.set id (topB l.length)++[]) (fun k=>k<=l.length) 0 (Nat.zero_le _) (Yeb hb (by simp [Row.cells_len,K39]) (by simp only[z16,Xq6,simprocAttr])) fun k hk=>?_
      by_cases hlk:k<l.length
      ·have g1:((k:Int)<(l.length:Int))=True:=eq_true (by omega)
       have e1:IntKind.i64.wrap ((k:Int)+1)=((k+1:Nat):Int):=ZWm (by unfold In64;omega)
       have e3:=JI7 (n:=l.length) hlt [] (0+k*1) (.i .i64 (-77)) rfl rfl (by omega)
       simp only[z16,Xq6,simprocAttr,lenV,g1,e1,iadV,hlk,e3,false_implies]
       exact ⟨k+1,by omega,by dsimp only;omega,YJ6 hlt _ _ (by simp;omega) (by simp only[z16,Xq6,simprocAttr])⟩
      ·have g1:((k:Int)<(l.length:Int))=False:=eq_false (by omega)
       simp only[z16,Xq6,simprocAttr,lenV,g1,false_implies]
       exact J11 hlt
    ·cases e
   ·cases e
 ·cases e
theorem ZcB:Spec Tryz.prog 36 (qPz dotR):=by
 intro args h v h' e
 unfold qPz at e
 split at e
 ·rename_i s
  split at e
  ·rename_i hns
   cases e
   cases s <;> first|(cases hns;done)|skip
   refine FnAt.c (FnAt.run (by kernel_rfl) (T:=⟨[],[]⟩) ⟨trivial,trivial⟩ Tryz.func36 sw36 fun ho hh=>?_)
   unfold w36
   simp only[QhU,YqB,z16,Xq6,simprocAttr]
   refine zXM (S:=Unit) (fun _=>0) (fun _=>[.ns]++tp 1++[.i .i64 0]++tp 10) (fun _=>True) () trivial (by simp only[z16,Xq6,simprocAttr]) fun _ _=>?_
   simp only[z16,Xq6,simprocAttr,Int.lt_irrefl,false_implies]
   exact Bt.eq rfl (List.append_nil h)
  ·obtain ⟨l,hs,e⟩:=zZy e
   split at e
   ·rename_i id hid
    split at e
    ·rename_i hc
     cases e
     obtain ⟨h1,h2,h3⟩:=hc
     have hlt:=(List.getElem?_eq_some_iff.1 h2).1
     by_cases h0:l.length=0
     ·have e2:h.set id .dead=h:=XRT (by rw[h2];unfold resB;rw[if_pos h0])
      rw[e2,h1]
      unfold rsl
      rw[if_pos h0]
      refine FnAt.c (FnAt.run (by kernel_rfl) (T:=⟨[],[]⟩) ⟨trivial,trivial⟩ Tryz.func36 sw36 fun ho hh=>?_)
      unfold w36
      simp only[QhU,YqB,z16,Xq6,simprocAttr]
      refine zXM (S:=Unit) (fun _=>0) (fun _=>[.sl id 0 0 0 (some 0)]++tp 1++[.i .i64 0]++tp 10) (fun _=>True) () trivial (by simp only[z16,Xq6,simprocAttr]) fun _ _=>?_
      simp only[z16,Xq6,simprocAttr,Int.natCast_zero,Int.lt_irrefl,false_implies,lenV]
      exact Bt.eq rfl (List.append_nil h)
     ·rw[h1]
      unfold rsl
      rw[if_neg h0]
      have hb:h[id]?=some (.blk true true (dotR.cells l)):=by rw[h2];unfold resB;rw[if_neg h0]
      refine FnAt.c (FnAt.run (by kernel_rfl) (T:=⟨[],[]⟩) ⟨trivial,trivial⟩ Tryz.func36 sw36 fun ho hh=>?_)
      unfold w36
      simp only[QhU,YqB,z16,Xq6,simprocAttr]
      refine q2X (S:=Nat) (fun k=>l.length-k) (fun k=>[.sl id 0 l.length l.length (some dotR.sz)]++tp 1++[.i .i64 k]++tp 10) (fun _=>h.set id (topB (l.length*2))++[]) (fun k=>k<=l.length) 0 (Nat.zero_le _) (Yeb hb (by simp [Row.cells_len,zKP]) (by simp only[z16,Xq6,simprocAttr])) fun k hk=>?_
      by_cases hlk:k<l.length
      ·have g1:((k:Int)<(l.length:Int))=True:=eq_true (by omega)
       have e1:IntKind.i64.wrap ((k:Int)+1)=((k+1:Nat):Int):=ZWm (by unfold In64;omega)
       have e3:=ZwE (n:=l.length*2) hlt [] (0+k*2) 2 [.i .i64 (-7),.i .i64 0] rfl rfl (by omega)
       simp only[z16,Xq6,simprocAttr,lenV,g1,e1,iadV,hlk,e3,false_implies]
       exact ⟨k+1,by omega,by dsimp only;omega,YJ6 hlt _ _ (by simp only[List.length_cons,List.length_nil];omega) (by simp only[z16,Xq6,simprocAttr])⟩
      ·have g1:((k:Int)<(l.length:Int))=False:=eq_false (by omega)
       simp only[z16,Xq6,simprocAttr,lenV,g1,false_implies]
       exact J11 hlt
    ·cases e
   ·cases e
 ·cases e
end
section
set_option maxRecDepth 100000
structure KeyR (α:Type) where
 ag:Bool
 ks:List CK
 f:α->AV
 dec:DecidableEq α
 eq:∀a b,YnD ag ks (f a) (f b)=some (decide (a=b))
section
variable {α:Type} (r:KeyR α)
def kvF:List (α×AV)->List AV
 | []=>[]
 | e::l=>r.f e.1::e.2::kvF l
theorem qIq:∀l:List (α×AV),(kvF r l).length=2*l.length
 | []=>rfl
 | e::l=>by
  have:=qIq l
  simp only[kvF,List.length_cons,this]
  omega
theorem qVj:∀l l':List (α×AV),kvF r (l++l')=kvF r l++kvF r l'
 | [],_=>rfl
 | e::l,l'=>by simp only[List.cons_append,kvF,qVj l l']
def mpB (m:Bool) (l:List (α×AV)):AB:=.mo m (.map (List.range l.length) l.length) (kvF r l)
def fndM (d:α):List (α×AV)->Nat->Option (Nat×AV)
 | [],_=>none
 | e::l,i=>letI:=r.dec;if d=e.1 then some (i,e.2) else fndM d l (i+1)
theorem z5x (d:α):∀(l:List (α×AV)) (i:Nat),qWS r.ag r.ks (r.f d) (kvF r l) i=some (fndM r d l i)
 | [],i=>rfl
 | e::l,i=>by
  letI:=r.dec
  show (YnD r.ag r.ks (r.f d) (r.f e.1)).bind _=_
  rw[r.eq,Option.bind_some]
  by_cases h:d=e.1
  ·rw[fndM,if_pos h,if_pos (by simpa using h)]
  ·rw[fndM,if_neg h,if_neg (by simpa using h)]
   exact z5x d l (i+1)
theorem XzS (m:Bool) (l:List (α×AV)):mapB (some (mpB r m l))=some (List.range l.length,l.length,kvF r l):=by
 unfold mpB mapB
 simp only[qIq,List.length_range,if_true]
theorem Q92 (l:List (α×AV)):mapW (some (mpB r true l))=some (List.range l.length,l.length,kvF r l):=by
 unfold mpB mapW
 simp only[qIq,List.length_range,if_true]
def putM (l:List (α×AV)) (d:α) (v:AV):List (α×AV):=match fndM r d l 0 with
 | some (i,_)=>l.set i (d,v)
 | none=>l++[(d,v)]
theorem Jp7 {d:α} {v:AV}:∀ {l:List (α×AV)} {i j:Nat},fndM r d l i=some (j,v)->i<=j/\l[j-i]?=some (d,v)
 | [],i,j,h=>by cases h
 | e::l,i,j,h=>by
  letI:=r.dec
  rw[fndM]at h
  split at h
  ·rename_i hd
   cases h
   exact ⟨Nat.le_refl _,by rw[Nat.sub_self,hd];rfl⟩
  ·obtain ⟨h1,h2⟩:=Jp7 h
   exact ⟨by omega,by rw[show j-i=(j-(i+1))+1 by omega];exact h2⟩
theorem zr4 {d:α}:∀ {l:List (α×AV)} {i:Nat},fndM r d l i=none↔∀e∈l,e.1≠d
 | [],i=>⟨fun _ e h=>by simp at h,fun _=>rfl⟩
 | e::l,i=>by
  letI:=r.dec
  rw[fndM]
  split
  ·rename_i hd
   exact ⟨fun h=>(by cases h),fun h=>absurd hd.symm (h e (List.mem_cons_self ..))⟩
  ·rename_i hd
   rw[zr4]
   exact ⟨fun h x hx=>by rcases List.mem_cons.1 hx with rfl|hx;exact fun z=>hd z.symm;exact h x hx,fun h x hx=>h x (List.mem_cons_of_mem _ hx)⟩
theorem QRR (d:α) (v:AV):∀(l:List (α×AV)) (i:Nat),(l[i]?).map (·.1)=some d->kvF r (l.set i (d,v))=(kvF r l).set (2*i+1) v
 | [],i,h=>by cases h
 | e::l,0,h=>by
  obtain rfl:e.1=d:=Option.some.inj h
  rfl
 | e::l,i+1,h=>by
  have:=QRR d v l i h
  rw[show 2*(i+1)+1=(2*i+1)+2 by omega]
  simp only[List.set_cons_succ,kvF,this]
theorem Y4k (l:List (α×AV)) (d:α) (v:AV):muB (List.range l.length) l.length (kvF r l) (r.f d) v (fndM r d l 0)=mpB r true (putM r l d v):=by
 unfold putM
 cases h:fndM r d l 0 with
 | none =>
  dsimp only
  unfold muB mpB
  rw[List.length_append,List.length_singleton,qVj,<-List.range_succ]
  rfl
 | some p =>
  obtain ⟨i,u⟩:=p
  dsimp only
  have h2:=(Jp7 r h).2
  rw[Nat.sub_zero]at h2
  unfold muB mpB
  dsimp only
  rw[List.length_set,QRR r d v l i (by rw[h2];rfl)]
variable {T:Env} {fr:List AV} {h:List AB}
theorem q41:opR T .mkm fr h=some (.m h.length,h++[.mo true (.map [] 0) []]):=oI rfl
theorem qlG (ag ks ok z) (x k:Opd):opR T (.lkp ag ks ok z x k) fr h=(lkV h ag ks ok z (x.ev fr) (k.ev fr)).map (·,h):=oI rfl
theorem KhU (ag ks) (x k v:Opd):opR T (.mup ag ks x k v) fr h=(muV h ag ks (x.ev fr) (k.ev fr) (v.ev fr)).map (.tu [],·):=oI rfl
theorem zWs (x:Opd):opR T (.mrg x) fr h=rgV h (x.ev fr):=oI rfl
theorem Qcs (x:Opd):opR T (.ent x) fr h=(entV h (x.ev fr)).map (·,h):=oI rfl
theorem JMn {id:Nat} {m:Bool} {l:List (α×AV)} (hi:h[id]?=some (mpB r m l)) (ok:Bool) (z:AV) (d:α):lkV h r.ag r.ks ok z (.m id) (r.f d)=some (lkR ok z (fndM r d l 0)):=by
 unfold lkV KfE
 rw[r.eq,Option.bind_some]
 dsimp only
 rw[hi,XzS,Option.bind_some]
 dsimp only
 rw[z5x]
 rfl
theorem YOF {id:Nat} {l:List (α×AV)} (hi:h[id]?=some (mpB r true l)) (d:α) (v:AV):muV h r.ag r.ks (.m id) (r.f d) v=some (h.set id (mpB r true (putM r l d v))):=by
 unfold muV
 dsimp only
 rw[r.eq,Option.bind_some,hi,Q92,Option.bind_some]
 dsimp only
 rw[z5x,Option.map_some,Y4k]
theorem Ygz {id:Nat} {m:Bool} {l:List (α×AV)} (hi:h[id]?=some (mpB r m l)):rgV h (.m id)=some (.p h.length 0,h++[.mo true (.it l.length [] l.length) [.m id]]):=by
 unfold rgV
 dsimp only
 rw[hi,XzS]
 rfl
def itM (n:Nat) (seen:List Nat) (mid:Nat):AB:=.mo true (.it n seen n) [.m mid]
theorem J1R:∀(l:List (α×AV)) (k:Nat),qLR (List.range' k l.length) (kvF r l)=(l.zipIdx k).map fun e=>(e.2,r.f e.1.1,e.1.2)
 | [],_=>rfl
 | e::l,k=>by
  rw[List.length_cons,List.range'_succ,kvF,qLR,J1R l (k+1),List.zipIdx_cons]
  rfl
theorem Xd2 {l:List (α×AV)} {e:Nat×AV×AV} (he:e∈qLR (List.range l.length) (kvF r l)):∃(hi:e.1<l.length),e.2=(r.f (l[e.1]).1,(l[e.1]).2):=by
 rw[List.range_eq_range',J1R]at he
 obtain ⟨⟨x,i⟩,hx,rfl⟩:=List.mem_map.1 he
 have:=List.mem_zipIdx_iff_getElem?.1 hx
 obtain ⟨hi,h2⟩:=List.getElem?_eq_some_iff.1 this
 exact ⟨hi,by dsimp only;rw[h2]⟩
theorem ZeU {l:List (α×AV)} {i:Nat} (hi:i<l.length):(i,r.f (l[i]).1,(l[i]).2)∈qLR (List.range l.length) (kvF r l):=by
 rw[List.range_eq_range',J1R]
 exact List.mem_map.2 ⟨(l[i],i),List.mem_zipIdx_iff_getElem?.2 (List.getElem?_eq_getElem hi),rfl⟩
theorem zoI {k mid:Nat} {m:Bool} {seen:List Nat} {l:List (α×AV)} (hk:h[k]?=some (itM l.length seen mid)) (hm:h[mid]?=some (mpB r m l)) :
  ∃cands,mnxC h (.p k 0)=some cands/\∀c∈cands,((∀i<l.length,i∈seen)/\c=(.tu [.b false],h))\/∃(i:Nat) (hi:i<l.length),i∉seen/\c=(.tu [.b true,r.f (l[i]).1,(l[i]).2],h.set k (itM l.length (seen++[i]) mid)):=by
 refine ⟨Zvb k l.length seen l.length (.m mid) h (JCJ seen (qLR (List.range l.length) (kvF r l))),?_,fun c hc=>?_⟩
 ·simp only[mnxC,hk,itM,hm,XzS,Option.bind_some]
  rw[if_pos ⟨List.all_eq_true.2 fun b hb=>decide_eq_true (List.mem_range.1 hb),Nat.le_refl _⟩]
 ·generalize hL:JCJ seen (qLR (List.range l.length) (kvF r l))=L at hc
  cases L with
  | nil =>
   rw[Zvb]at hc
   refine .inl ⟨fun i hi=>?_,List.mem_singleton.1 hc⟩
   by_cases hs:i∈seen
   ·exact hs
   ·have:(i,r.f (l[i]).1,(l[i]).2)∈JCJ seen (qLR (List.range l.length) (kvF r l)):=List.mem_filter.2 ⟨ZeU r hi,by simpa using hs⟩
    rw[hL]at this
    cases this
  | cons e0 L0 =>
   rw[Zvb]at hc
   obtain ⟨e,he,rfl⟩:=List.mem_map.1 hc
   rw[<-hL]at he
   obtain ⟨he1,he2⟩:=List.mem_filter.1 he
   obtain ⟨hi,h2⟩:=Xd2 r he1
   refine .inr ⟨e.1,hi,by simpa using he2,?_⟩
   rw[h2]
   rfl
theorem X2J {k mid:Nat} {m:Bool} {seen:List Nat} {l:List (α×AV)} {i:Nat} (hi:i<l.length) (hk:h[k]?=some (itM l.length (seen++[i]) mid)) (hm:h[mid]?=some (mpB r m l)):entV h (.p k 0)=some (.tu [r.f (l[i]).1,(l[i]).2]):=by
 simp only[entV,hk,itM,hm,XzS,Option.bind_some]
 rw[if_pos trivial,List.getLast?_append,List.getLast?_singleton]
 simp only[Option.some_or,Option.bind_some]
 have:(qLR (List.range l.length) (kvF r l)).find? (fun e=>e.1 == i)=some (i,r.f (l[i]).1,(l[i]).2):=by
  rw[List.range_eq_range',J1R,List.find?_map]
  have:(l.zipIdx 0).find? ((fun e:Nat×AV×AV=>e.1 == i)∘fun e:(α×AV)×Nat=>(e.2,r.f e.1.1,e.1.2))=some (l[i],i):=by
   rw[List.find?_eq_some_iff_getElem]
   refine ⟨by simp,i,by simpa using hi,by simp,fun j hj=>?_⟩
   simp
   omega
  rw[this]
  rfl
 rw[this]
 rfl
end
theorem FnAtS.run {P:Program} (hm:P.follows .mixedOrders=true) {T:Env} (hT:T.Ok P) {g:Nat} {fn:Func} {cf:CF} (hf:P.funcs[g]?=some fn) (hc:KVl P fn=some cf) {args:List AV} {h:List AB} {X:AV->List AB->Prop}
  (w:okL (fun i=>decide (i<h.length)) args=true->HOk h->W ⟨P,T,false,h.length,FinS P h.length cf.res X⟩ [.code cf.body] (args++List.replicate (cf.ntmps-args.length) (.tu [])) (h++[])):FnAtS P g args h X:=by
 refine FnAtS.fin (YZU hm hT) hf hc fun h1 h2=>?_
 have:=w h1 h2
 rw[List.append_nil]at this
 exact this
theorem zMi {P:Program} {p:Nat} {res:List RC} {X:AV->List AB->Prop} {fr:List AV} {h:List AB}:FinS P p res X .r fr h=∃v a h',resV fr h res=some v/\Bt P p [v] h [a] h'/\X a h':=oI rfl
theorem zOX {P:Program} {p:Nat} {res:List RC} {X:AV->List AB->Prop} {fr:List AV} {h:List AB}:FinS P p res X .n fr h=∃v a h',resV fr h res=some v/\Bt P p [v] h [a] h'/\X a h':=oI rfl
end
section
set_option maxRecDepth 100000
set_option maxHeartbeats 4000000
def dotK:KeyR (Int×Int):=⟨true,[.i,.i],fun d=>.ag (dotR.f d),inferInstance,zlA⟩
theorem Yzk (q:Nat->Bool) (f:Nat->Nat) (n:Nat) (s:List Nat) (mid:Nat):BWk q f (itM n s mid) (itM n s mid)=(q mid=true/\Wk (.m (f mid)) (.m mid)):=by
 simp [BWk,itM,okL,AV.ok,renL,AV.ren,WkL]
def kA:CC:=.reg 2 [⟨some 5,none,.new true [.i .i64 0,.i .i64 0]⟩,⟨none,none,.st (some 2) (.t 5) (.t 7)⟩]
def kB:CC:=.block 1 (.reg 3 [⟨some 8,none,.ld none (.t 2)⟩,⟨some 9,none,.ld (some 2) (.t 5)⟩,⟨some 10,none,.bls true 1 [.i .i64 0,.i .i64 0] [(0,2,.t 9)]⟩,⟨some 11,none,.app false true 2 16 (.t 8) (.t 10)⟩,⟨none,none,.st none (.t 2) (.t 11)⟩])
def kFr (p:Nat) (f:AV):List AV:=[.ns,f,.p (p+0) 0,.tu [],.ns,.tu [],f,.tu [],.tu [],.tu [],.tu [],.tu [],.tu []]
def kL (p:Nat) (f acc:AV) (B C:AB):List AB:=[.blk false true [acc],.lp .ready .n (kFr p f) [7] kA kB,B,C]
def kR (p:Nat) (f:AV) (B:AB) (l:List (Int×Int)) (x:Int×Int):List AB:=kL p f (.sl (p+7) 0 (l.length+1) (l.length+1) (some 2)) B .dead++[.blk true true (dotR.f x),.blk true true (dotR.f x),.blk true true (dotR.f x),.blk true true (dotR.cells l++dotR.f x)]
theorem Z70 {h:List AB} {f:AV} {B:AB} (x:Int×Int) :
  RdAt' Tryz.prog (h.length+1) [.ag (dotR.f x)] (h++(kL h.length f .ns B .dead++[.blk true true (dotR.f x)])) (.b true) (h++kR h.length f B [] x):=by
 refine RdAt'.run (by kernel_rfl) (T:=⟨[],[]⟩) ⟨trivial,trivial⟩ (by rw[qu4];rfl) rfl ?_
 have z3:(1*16<=140737488355328/\1<=maxLen)=True:=eq_true ⟨by decide,by unfold maxLen;omega⟩
 simp only[kFr,ZuR,kA,kL,zBU,z16,Xq6,simprocAttr,List.length_cons,List.length_nil]
 refine ⟨_,_,_,_,_,by rw[qu4];rfl,?_⟩
 simp only[kB,z16,Xq6,simprocAttr,zBU,List.length_cons,List.length_nil,z3]
 exact ⟨by unfold maxLen;omega,_,_,_,_,_,_,by rw[qu4];rfl,rfl,by unfold qZF;dsimp only;rw[Yie];rfl⟩
theorem Zb2 {h:List AB} {f:AV} {B:AB} {l:List (Int×Int)} (h0:l≠[]) (x:Int×Int) (hl:l.length<=1000000) :
  RdAt' Tryz.prog (h.length+1) [.ag (dotR.f x)] (h++(kL h.length f (apS dotR (h.length+3) l) B (resB dotR true l)++[.blk true true (dotR.f x)])) (.b true) (h++kR h.length f B l x):=by
 refine RdAt'.run (by kernel_rfl) (T:=⟨[],[]⟩) ⟨trivial,trivial⟩ (by rw[qu4];rfl) rfl ?_
 have hn:l.length≠0:=fun q=>h0 (List.eq_nil_of_length_eq_zero q)
 have gr:∀id,apS dotR id l=rsl dotR id l:=fun id=>YM0 _ hn
 have fa:=fun L k ys hb=>q9y (h:=h) (p:=h.length) rfl (r:=dotR) (sz:=2) rfl L k l 16 1 ys hn hb (by decide) (by omega) (by unfold maxLen;omega)
 simp only[gr,kFr,ZuR,kA,kL,zBU,z16,Xq6,simprocAttr,List.length_cons,List.length_nil]
 refine ⟨_,_,_,_,_,by rw[qu4];rfl,?_⟩
 simp only[kB,z16,Xq6,simprocAttr,zBU,List.length_cons,List.length_nil,fa]
 exact ⟨_,_,_,_,_,_,by rw[qu4];rfl,rfl,by unfold qZF;dsimp only;rw[Yie];rfl⟩
def kQ (h:List AB) (f:AV) (x:Int×Int) (hh r:List AB):Prop:=
 ∃l B,l.length<=1000000/\hh=h++(kL h.length f (apS dotR (h.length+3) l) B (resB dotR true l)++[.blk true true (dotR.f x)])/\r=h++kR h.length f B l x
open Classical in
noncomputable def kT (h:List AB) (f:AV):List AV->List AB->Option (AV×List AB)
 | [.ag [.i .i64 a,.i .i64 b]],hh=>if c:∃r,kQ h f (a,b) hh r then some (.b true,c.choose) else none
 | _,_=>none
open Classical in
theorem zg6 {h:List AB} {f:AV} {B:AB} {l:List (Int×Int)} (x:Int×Int) (hl:l.length<=1000000):kT h f [.ag (dotR.f x)] (h++(kL h.length f (apS dotR (h.length+3) l) B (resB dotR true l)++[.blk true true (dotR.f x)]))=some (.b true,h++kR h.length f B l x):=by
 have hc:∃r,kQ h f x (h++(kL h.length f (apS dotR (h.length+3) l) B (resB dotR true l)++[.blk true true (dotR.f x)])) r:=⟨_,l,B,hl,rfl,rfl⟩
 show (if c:∃r,kQ h f (x.1,x.2) _ r then some (AV.b true,c.choose) else none)=_
 rw[dif_pos hc]
 obtain ⟨l',B',_,e,e2⟩:=hc.choose_spec
 rw[e2]
 have:=List.append_cancel_left e
 simp only[kL,List.cons_append,List.nil_append,List.cons.injEq,AB.blk.injEq,true_and,and_true]at this
 rw[Q7A this.1 this.2.2,this.2.1]
theorem ZjD {h:List AB} {f:AV}:qBU Tryz.prog (h.length+1) (kT h f):=by
 intro args hh v h' e
 unfold kT at e
 split at e
 ·rename_i a b
  split at e
  ·rename_i hc
   cases e
   obtain ⟨l,B,h2,e1,e2⟩:=hc.choose_spec
   rw[e2,e1]
   by_cases h0:l=[]
   ·subst h0
    exact Z70 (a,b)
   ·exact Zb2 h0 (a,b) h2
  ·cases e
 ·cases e
theorem ZlU:∀(n:Nat) (s:List Nat),s.Nodup->(∀i∈s,i<n)->s.length<=n
 | 0,s,_,h=>by
  cases s with
  | nil=>exact Nat.le_refl _
  | cons a l=>exact absurd (h a (List.mem_cons_self ..)) (Nat.not_lt_zero _)
 | n+1,s,hn,h=>by
  have:=ZlU n (s.erase n) (hn.erase n) fun i hi=>by
   have h1:=h i (List.mem_of_mem_erase hi)
   have h2:i≠n:=fun z=>by
    rw[z]at hi
    exact hn.not_mem_erase hi
   omega
  have h3:s.length<=(s.erase n).length+1:=by
   by_cases hm:n∈s
   ·rw[List.length_erase_of_mem hm];omega
   ·rw[List.erase_of_not_mem hm];omega
  omega
def kO (l:List ((Int×Int)×AV)) (s:List Nat):List (Int×Int):=s.map fun i=>(l.map (·.1)).getD i (0,0)
theorem qVS (l:List ((Int×Int)×AV)) (s:List Nat):(kO l s).length=s.length:=List.length_map _
theorem qS2 (l:List ((Int×Int)×AV)) (s:List Nat) {i:Nat} (hi:i<l.length):kO l (s++[i])=kO l s++[(l[i]).1]:=by
 unfold kO
 rw[List.map_append]
 simp [hi]
theorem Kn2 {l:List ((Int×Int)×AV)} {s:List Nat} (hn:s.Nodup) (hl:∀i∈s,i<l.length) (ha:∀i<l.length,i∈s):(kO l s).Perm (l.map (·.1)):=by
 have h1:s.Perm (List.range l.length):=(List.perm_ext_iff_of_nodup hn List.nodup_range).2 fun a=>⟨fun h=>List.mem_range.2 (hl a h),fun h=>ha a (List.mem_range.1 h)⟩
 have h2:(List.range l.length).map (fun i=>(l.map (·.1)).getD i (0,0))=l.map (·.1):=by
  refine List.ext_getElem (by simp) fun i h1 h2=>?_
  simp at h2
  simp [h2]
 have h3:=h1.map (fun i=>(l.map (·.1)).getD i (0,0))
 rw[h2]at h3
 exact h3
def kH (h:List AB) (f:AV) (n mid:Nat) (o:List (Int×Int)) (seen:List Nat):List AB:=h++kL h.length f (apS dotR (h.length+3) o) (itM n seen mid) (resB dotR true o)
def kX (h:List AB) (f:AV) (l:List ((Int×Int)×AV)):AV->List AB->Prop:=fun v h2=>v=.tu []/\∃o:List (Int×Int),o.Perm (l.map (·.1)) /\
 h2=h++[.blk false true [apS dotR (h.length+2) o],.lp .ready .n (kFr h.length f) [7] kA kB,resB dotR true o]
theorem JZZ {h:List AB} (hh:HOk h) {j mid:Nat} {m:Bool} {l:List ((Int×Int)×AV)} (b1:ZMh h j=some [.m mid]) (hm:h[mid]?=some (mpB dotK m l)) (hl:l.length<=100000) (f:AV) (of:f.ok (fun i=>decide (i<h.length))=true) :
  FnAtS Tryz.prog 148 [.y (h.length+1),.p j 0] (h++[.blk false true [.ns],.lp .ready .n (kFr h.length f) [7] kA kB]) (kX h f l):=by
 refine FnAtS.run (by kernel_rfl) (T:=⟨[],[⟨h.length+1,kT h f,fun _=>[]⟩]⟩) ⟨trivial,⟨ZjD,trivial⟩⟩ Tryz.func148 Z4X fun _ _=>?_
 have f1:=qbm b1
 have hmid:mid<h.length:=(List.getElem?_eq_some_iff.1 hm).1
 have f2:∀L,rgV (h++L) (.m mid)=some (.p (h.length+L.length) 0,h++(L++[itM l.length [] mid])):=fun L=>by
  have:=Ygz dotK (h:=h++L) (id:=mid) (m:=m) (l:=l) (by rw[List.getElem?_append_left hmid];exact hm)
  rw[this,List.length_append,List.append_assoc]
  rfl
 have e1i:j<h.length:=Kvu b1
 unfold w148
 simp only[QhU,YqB,z16,Xq6,simprocAttr,zWs,f1,f2]
 have up:∀(t:AV),t.ok (fun i=>decide (i<h.length))=true->∀c,t.ok (fun i=>decide (i<h.length+c))=true:=fun t ht c=>AV.ok_mono (fun i q=>by simp only[decide_eq_true_eq]at q ⊢;omega) t ht
 have rn:∀(t:AV),t.ok (fun i=>decide (i<h.length))=true->∀sel,Wk (t.ren (selN h.length sel)) t:=fun t ht sel=>Wk.ren (fun i hi=>ZiE hi) ht
 have fo:=fun c=>And.intro (up f of c) (And.intro (decide_eq_true (p:=mid<h.length+c) (by omega)) (decide_eq_true (p:=j<h.length+c) (by omega)))
 have fr:=fun sel=>And.intro (rn f of sel) (And.intro (ZiE (sel:=sel) hmid) (ZiE (sel:=sel) e1i))
 have ao:∀(n:Nat) (L:List (Int×Int)),(apS dotR (n+3) L).ok (fun i=>decide (i<n+4))=true:=fun n L=>Yv9 _ _ _ (by simp)
 have ao2:∀(n:Nat) (L:List (Int×Int)),(apS dotR (n+2) L).ok (fun i=>decide (i<n+3))=true:=fun n L=>Yv9 _ _ _ (by simp)
 refine q2X (S:=List Nat) (fun s=>l.length-s.length) (fun s=>[.y (h.length+1)]++tp 4++[.p (h.length+2) 0]++tp 8) (fun s=>kH h f l.length mid (kO l s) s) (fun s=>s.Nodup/\∀i∈s,i<l.length) [] ⟨List.nodup_nil,fun i hi=>by simp at hi⟩ ?_ fun s hs=>?_
 ·show Bt _ _ _ _ _ (h++[.blk false true [.ns],.lp .ready .n (kFr h.length f) [7] kA kB,itM l.length [] mid,.dead])
  have e:h++[AB.blk false true [AV.ns],AB.lp .ready .n (kFr h.length f) [7] kA kB,itM l.length [] mid,AB.dead]=h++[AB.blk false true [AV.ns],AB.lp .ready .n (kFr h.length f) [7] kA kB,itM l.length [] mid]++List.replicate 1 .dead:=by
   rw[List.append_assoc]
   rfl
  rw[e]
  refine Bt.trans (Bt.wk ?_) (Bt.pad _ _ 1)
  simp only[z16,Xq6,simprocAttr]
 obtain ⟨hnd,hlt⟩:=hs
 have hn:=ZlU l.length s hnd hlt
 unfold kH
 have key:∀(L:List AB) (k:Nat),(h++L)[h.length+k]?=L[k]?:=fun L k=>qu4 L k
 obtain ⟨cands,hc1,hc2⟩:=zoI dotK (h:=h++kL h.length f (apS dotR (h.length+3) (kO l s)) (itM l.length s mid) (resB dotR true (kO l s))) (k:=h.length+2) (mid:=mid) (m:=m) (seen:=s) (l:=l) (by rw[key];rfl) (by rw[List.getElem?_append_left hmid];exact hm)
 rw[Qq5,zUN,qcP]
 refine ⟨cands,hc1,fun c hc=>?_⟩
 rcases hc2 c hc with ⟨hall,rfl⟩|⟨i,hi,hni,rfl⟩
 ·simp only[kL,z16,Xq6,simprocAttr,zOX]
  refine ⟨_,.tu [],_,rfl,Bt.selL 2 [0,1,3] hh (by decide) (by decide) (by decide) (by decide) (by simp only[KlC,FrSel,BlkSel,AV.ren,renL,AV.ok,okL,Option.some.injEq,exists_eq_left',List.length_cons,List.length_nil,Nat.reduceAdd,Nat.reduceLT,reduceCtorEq,implies_true,exists_eq',kFr,fo,fr,ao,ao2,Yzk,zKP]) (by simp only[KlC,FrSel,BlkSel,AV.ren,renL,AV.ok,okL,Option.some.injEq,exists_eq_left',List.length_cons,List.length_nil,Nat.reduceAdd,Nat.reduceLT,reduceCtorEq,implies_true,exists_eq',kFr,fo,fr,ao]),rfl,kO l s,Kn2 hnd hlt hall,rfl⟩
 ·rw[Yie]
  have he:∀(x:List AB),entV (h++(kL h.length f (apS dotR (h.length+3) (kO l s)) (itM l.length (s++[i]) mid) (resB dotR true (kO l s))++x)) (.p (h.length+2) 0)=some (.tu [dotK.f (l[i]).1,(l[i]).2]):=fun x=>X2J dotK hi (by rw[key];rfl) (by rw[List.getElem?_append_left hmid];exact hm)
  have he0:=he []
  have ht:=zg6 (h:=h) (f:=f) (B:=itM l.length (s++[i]) mid) (l:=kO l s) (l[i]).1 (by rw[qVS];omega)
  simp only[kL,zfn,Z1h,zBU]at he0 ht
  simp only[kL,z16,Xq6,simprocAttr,Qcs,he0,dotK,zBU,ht,List.set_cons_succ,List.set_cons_zero,XJx,Bool.not_true,Bool.not_false]
  have hnd':(s++[i]).Nodup:=List.nodup_append.2 ⟨hnd,by simp,fun a ha b hb=>by rw[List.mem_singleton.1 hb];exact fun z=>hni (z▸ha)⟩
  have hlt':∀x∈s++[i],x<l.length:=fun x hx=>by
   rcases List.mem_append.1 hx with hx|hx
   ·exact hlt x hx
   ·rw[List.mem_singleton.1 hx];exact hi
  have hn':=ZlU l.length _ hnd' hlt'
  rw[List.length_append,List.length_singleton]at hn'
  refine ⟨s++[i],⟨hnd',hlt'⟩,by dsimp only;rw[List.length_append,List.length_singleton];omega,?_⟩
  dsimp only
  rw[qS2 l s hi]
  simp only[kR,kL,zfn,Z1h,ZTK,YEl]
  exact Bt.selL 2 [0,1,2,7] hh (by decide) (by decide) (by decide) (by decide) (by simp only[KlC,FrSel,BlkSel,AV.ren,renL,AV.ok,okL,Option.some.injEq,exists_eq_left',List.length_cons,List.length_nil,Nat.reduceAdd,Nat.reduceLT,reduceCtorEq,implies_true,exists_eq',kFr,fo,fr,ao,Yzk,zKP]) (by simp only[KlC,FrSel,BlkSel,AV.ren,renL,AV.ok,okL,Option.some.injEq,exists_eq_left',List.length_cons,List.length_nil,Nat.reduceAdd,Nat.reduceLT,reduceCtorEq,implies_true,exists_eq',kFr,fo,fr,ao])
end
end Go.Proofs.YtebcngelgdpbjaaGreat
