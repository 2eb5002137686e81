/- Part 4 of what the laws' proofs rest on. No condition. -/
import Derived.Lib.AppendZeros
import Derived.Laws.BytesString
import Derived.Laws.IdiomStrings
import Derived.Lib.OthersKept
import Derived.Test.YtekeoichmdiiiaaGreatTh3
set_option linter.all false
namespace Go.Proofs.YtekeoichmdiiiaaGreat
section
open Go.RowKit
section
variable {P:Program} {K:Code->CC->Prop}
theorem q5y {x:AV}:x.isStr=true↔∃l,x=.s l:=by
 cases x <;> simp [AV.isStr]
theorem qKv {x:AV} (h:x.isStr=false):∀l,x≠.s l:=fun l e=>by
 subst e
 cases h
theorem ZrV:∀(cs:List AV) (l:List UInt8),bytesOf cs=some l->∃ns:List Int,cs=ns.map (AV.i .u8)/\l=ns.map fun n=>UInt8.ofNat n.toNat
 | [],l,e=>by cases e;exact ⟨[],rfl,rfl⟩
 | x::cs,l,e=>by
  unfold bytesOf at e
  split at e
  ·cases ‹x::cs=[]›
  ·rename_i n rest heq
   cases heq
   obtain ⟨l',hl',rfl⟩:=Option.map_eq_some_iff.1 e
   obtain ⟨ns,h1,h2⟩:=ZrV cs l' hl'
   exact ⟨n::ns,by rw[h1];rfl,by rw[h2];rfl⟩
  ·cases e
theorem Y92 (ns:List Int):∀(s:ByteArray),(ns.foldl (fun r n=>r.push (UInt8.ofNat n.toNat)) s).data.toList=s.data.toList++ns.map fun n=>UInt8.ofNat n.toNat:=by
 induction ns with
 | nil=>intro s;simp
 | cons n ns ih =>
  intro s
  rw[List.foldl_cons,ih]
  simp [ByteArray.push]
theorem YvK {ρ:Mp} {h:List AB} {w:World} (hr:Rel K ρ h w) (src dst e:TypeId) (hs:P.underlying src=some (.slice e)) (he:P.underlying e=some (.int .u8)) (hd:P.underlying dst=some .string) {x:AV} (hx0:∀l,x≠.s l) {vx:Value} (hx:VR ρ x vx) {m:Nat} {cs:List AV} (hsrc:srcV h 1 x=some (m,cs)) {l:List UInt8} (hl:bytesOf cs=some l) :
  Good K P ρ h w (convert src dst vx) (.s l,h):=by
 obtain ⟨ns,rfl,rfl⟩:=ZrV cs l hl
 obtain ⟨news,hS,hvn⟩:=qON (P:=P) hr hsrc hx src hs (.inr ⟨hx0,e,rfl⟩) (by rw[List.all_map];exact List.all_eq_true.2 fun _ _=>rfl)
 have hnews:news=ns.map (Value.int .u8):=by
  apply List.ext_getElem?
  intro j
  have hlen:=hvn.1
  simp only[List.length_map,List.size_toArray]at hlen
  rcases Nat.lt_or_ge j news.length with q|q
  ·have h1:(ns.map (AV.i .u8))[j]?=some (AV.i .u8 (ns[j]'(by omega))):=by
    rw[List.getElem?_map,List.getElem?_eq_getElem (by omega:j<ns.length)]
    rfl
   have h2:=hvn.2 j _ _ h1 (by rw[List.getElem?_toArray];exact List.getElem?_eq_getElem q)
   rw[List.getElem?_eq_getElem q,List.getElem?_map,List.getElem?_eq_getElem (by omega:j<ns.length)]
   generalize news[j]=u at h2 ⊢
   cases h2
   rfl
  ·rw[List.getElem?_eq_none q,List.getElem?_eq_none (by simp;omega)]
 subst hnews
 have hm:ns.length=m:=by
  have:=hS.newsLen
  simpa using this
 have fin:∀(a:Addr) (len c:Nat),len=m->vx=.slice (some a) len c->Good K P ρ h w (convert src dst vx) (.s (ns.map fun n=>UInt8.ofNat n.toNat),h):=by
  rintro a len c rfl rfl
  have hc:=hS.cells
  simp only[Builtin.firstCells,Nat.mul_one]at hc
  refine ⟨.string (ns.foldl (fun r n=>r.push (UInt8.ofNat n.toNat)) ByteArray.empty),w,ρ,?_,Ext.refl _,hr,.s _ _ ?_,Eff.refl _ _ _⟩
  ·rw[run_convert_bytes_string w src dst e _ _ _ hs he hd]
   exact run_bytesToString w a len c ns hc
  ·rw[Y92]
   rfl
 cases hx with
 | ns =>
  simp only[srcV,Option.some.injEq,Prod.mk.injEq]at hsrc
  have:ns=[]:=by simpa using hsrc.2.symm
  subst this
  refine ⟨.string .empty,w,ρ,?_,Ext.refl _,hr,.s _ _ rfl,Eff.refl _ _ _⟩
  rw[run_convert_bytes_string w src dst e _ _ _ hs he hd]
  rfl
 | se a c hc =>
  simp only[srcV,Option.some.injEq,Prod.mk.injEq]at hsrc
  exact fin a 0 c hsrc.1 rfl
 | sz id off a c hc hn =>
  simp only[srcV,if_true,Option.some.injEq,Prod.mk.injEq]at hsrc
  cases a with
  | none =>
   have:ns=[]:=by simpa using hsrc.2.symm
   subst this
   refine ⟨.string .empty,w,ρ,?_,Ext.refl _,hr,.s _ _ rfl,Eff.refl _ _ _⟩
   rw[run_convert_bytes_string w src dst e _ _ _ hs he hd]
   rfl
  | some a=>exact fin a 0 c hsrc.1 rfl
 | sl id off len cap k b o n cap' hρ h1 h2 h3 h4 h5 =>
  simp only[srcV]at hsrc
  split at hsrc
  ·rename_i h0
   subst h0
   simp only[Option.some.injEq,Prod.mk.injEq]at hsrc
   exact fin _ 0 cap' hsrc.1 rfl
  obtain ⟨xs,hxs,hsrc⟩:=oQ.1 hsrc
  split at hsrc
  ·simp only[Option.some.injEq,Prod.mk.injEq]at hsrc
   exact fin _ len cap' hsrc.1 rfl
  ·cases hsrc
 | s l bs hl=>exact absurd rfl (hx0 l)
 | _=>simp [srcV]at hsrc
theorem J1B {ρ:Mp} {h:List AB} {w:World} (hr:Rel K ρ h w) (t tx ty e:TypeId) {d:TypeDesc} {i:TypeInfo} (ht:P.underlying t=some (.slice e)) (hi:P.info? e=some i) (hd:P.underlying tx=some d)
  {s x:AV} {vs vx:Value} (hs:VR ρ s vs) (hx:VR ρ x vx) (hty:(∃l,x=.s l)/\d=.string\/(∀l,x≠.s l)/\∃e',d=.slice e') {r:AV×List AB} (er:cpyV h i.size s x=some r) :
  Good K P ρ h w (Builtin.copy_ #[t,tx] ty #[vs,vx]) r:=by
 unfold cpyV at er
 obtain ⟨⟨m,ys⟩,hsrc,er⟩:=oQ.1 er
 simp only at er
 split at er
 case h_2=>cases er
 rename_i id off len cap k _
 split at er
 case isFalse=>cases er
 rename_i hml
 obtain ⟨h',hst,rfl⟩:=Option.map_eq_some_iff.1 er
 obtain ⟨fl,xs,hb,hle,hok,_⟩:=qbf hst
 obtain ⟨news,hS,hvn⟩:=qON (P:=P) hr hsrc hx tx hd hty (qnU hok)
 have hmin:Nat.min m len=m:=Nat.min_eq_left hml
 cases hs with
 | sl id off len cap k b o n cap' hρ h1 h2 h3 h4 h5 =>
  obtain ⟨w',g1,g2,g3⟩:=XCO (P:=P) hr hst hρ hvn
  refine ⟨.int .i64 m,w',ρ,?_,Ext.refl _,g2,.i _ _,g3⟩
  simp [Builtin.copy_,run_underlying ht,sizeOf,typeInfo,hi,hS.len,hmin,hS.cells,g1,goInt]
 | sz id off a c hc hn =>
  have hm0:m=0:=by omega
  subst hm0
  have hn0:news=[]:=List.eq_nil_of_length_eq_zero (by have:=hS.newsLen;simpa using this)
  subst hn0
  have hy0:ys=[]:=List.eq_nil_of_length_eq_zero (by have:=hvn.1;simpa using this)
  subst hy0
  obtain ⟨bo,o',n',hρ,_⟩:=hr.at hb
  obtain ⟨w',g1,g2,g3⟩:=XCO (P:=P) hr hst hρ hvn
  have hw:w'=w:=by
   have:(storeCells ⟨bo,o'+off,none⟩ [] 0).run P w=.ok () w:=rfl
   rw[this]at g1
   cases g1
   rfl
  subst hw
  refine ⟨.int .i64 (0:Nat),w',ρ,?_,Ext.refl _,g2,.i _ _,g3⟩
  cases a with
  | none=>simp [Builtin.copy_,run_underlying ht,sizeOf,typeInfo,hi,hS.len,hS.cells,goInt]
  | some a =>
   have e0:(storeCells a [] 0).run P w'=.ok () w':=rfl
   simp [Builtin.copy_,run_underlying ht,sizeOf,typeInfo,hi,hS.len,hS.cells,goInt,e0]
theorem Qa4 {ρ:Mp} {h:List AB} {w:World} (hr:Rel K ρ h w) (t tn ty e:TypeId) {kn:IntKind} {ie:TypeInfo} {z:Value} (ht:P.underlying t=some (.slice e)) (htn:P.underlying tn=some (.int kn)) (hie:P.info? e=some ie) (hz:ie.zero=some z) (hzs:z.cells.size=ie.size) (hs0:ie.size≠0) (fl:Bool) {zl:List AV} (hzl:VL ρ zl z.cells)
  {k:IntKind} {m:Int} (hm:0<m) (hby:m.toNat*ie.bytes<=140737488355328) (hmx:m.toNat<=maxLen) {r:AV×List AB} (en:newB h fl ((List.replicate m.toNat zl).flatten) (fun q=>.sl q 0 m.toNat m.toNat (some zl.length))=some r) :
  Good K P ρ h w (Builtin.append_ #[t,tn] ty #[.slice none 0 0,.int k m]) r:=by
 obtain ⟨hok,rfl⟩:=Qws en
 have hrun:=Lib.run_append_nil_zeros (P:=P) w t tn ty e ie z k kn ht htn hie hz m.toNat (by omega) (by omega) (by unfold maxLen at hmx;omega) (by omega)
 have hme:((m.toNat:Nat):Int)=m:=by omega
 rw[hme]at hrun
 have hge:=grownCap_ge w m.toNat 0 e
 have hle:=grownCap_le_maxLen w m.toNat 0 e hmx
 have hl:zl.length=ie.size:=by rw[hzl.1,hzs]
 have hY:VL ρ ((List.replicate m.toNat zl).flatten) (Builtin.zeroCells z.cells m.toNat):=by
  have:=ZK0 (ρ:=ρ) hzs hs0 hzl m.toNat
  rw[<-hzs]at this
  exact this
 have hnew:=ZA8 hr.drew e fl (rest:=Builtin.zeroCells z.cells (grownCap w m.toNat 0 e-m.toNat)) (hY.wr hok)
 refine ⟨_,_,_,hrun,Ext.push _ _,hnew.1,?_,(Eff.drew ρ h w).trans hnew.2⟩
 have:=VR.sl (ρ:=ρ++[(w.drew.heap.size,0,(Builtin.zeroCells z.cells m.toNat++Builtin.zeroCells z.cells (grownCap w m.toNat 0 e-m.toNat)).size)]) h.length 0 m.toNat m.toNat (some zl.length) w.heap.size 0 _ (grownCap w m.toNat 0 e) (Zt4 ρ h _ hr.len) (Nat.le_refl _) hge hle (fun hk=>by cases hk) (fun z' hz' _=>by
  cases hz'
  simp only[Array.size_append,size_zeroCells,hzs,hl]
  have hq:m.toNat*ie.size+(grownCap w m.toNat 0 e-m.toNat)*ie.size=grownCap w m.toNat 0 e*ie.size:=by rw[<-Nat.add_mul,Nat.add_sub_cancel' hge]
  omega)
 simpa using this
theorem JHE (w:World) (b:Nat):∀(ns:List Int) (i:Nat) (acc:ByteArray),(∀(j:Nat) u,ns[j]?=some u->w.cell? ⟨b,i+j,none⟩=some (.int .u8 u)) ->
  (Extern.Bytes.loadBytes ⟨b,i,none⟩ ns.length acc).run P w=.ok (ns.foldl (fun r n=>r.push (UInt8.ofNat n.toNat)) acc) w
 | [],_,_,_=>rfl
 | n::ns,i,acc,h=>by
  have h0:=h 0 n rfl
  rw[Nat.add_zero]at h0
  have ih:=JHE w b ns (i+1) (acc.push (UInt8.ofNat n.toNat)) (fun j u hu=>by
   rw[show i+1+j=i+(j+1) by omega]
   exact h (j+1) u (by simpa using hu))
  have hadd:(⟨b,i,none⟩:Addr).add 1=⟨b,i+1,none⟩:=by unfold Addr.add;split <;> simp_all
  simp only[List.length_cons,Extern.Bytes.loadBytes,List.foldl_cons]
  have hl:(load (⟨b,i,none⟩:Addr)).run P w=.ok (.int .u8 n) w:=by rw[run_load,h0]
  rw[hadd,Sem.run_bind,hl]
  exact ih
theorem QpL {ρ:Mp} {h:List AB} {w:World} (hr:Rel K ρ h w) {x:AV} {vx:Value} (hx:VR ρ x vx) {m:Nat} {cs:List AV} (hsrc:srcV h 1 x=some (m,cs)) {l:List UInt8} (hl:bytesOf cs=some l) :
  ∃bs:ByteArray,(Extern.Bytes.bytesOf vx).run P w=.ok bs w/\bs=⟨l.toArray⟩:=by
 obtain ⟨ns,rfl,rfl⟩:=ZrV cs l hl
 have nil:ns.map (AV.i .u8)=[]->ns=[]:=fun e=>by simpa using e
 cases hx with
 | ns =>
  simp only[srcV,Option.some.injEq,Prod.mk.injEq]at hsrc
  obtain rfl:=nil hsrc.2.symm
  exact ⟨.empty,rfl,rfl⟩
 | se a c hc =>
  simp only[srcV,Option.some.injEq,Prod.mk.injEq]at hsrc
  obtain rfl:=nil hsrc.2.symm
  exact ⟨.empty,rfl,rfl⟩
 | s l bs h =>
  subst h
  simp only[srcV,if_true,Option.some.injEq,Prod.mk.injEq]at hsrc
  refine ⟨bs,rfl,?_⟩
  have h2:=hsrc.2
  have key:∀(us:List UInt8) (zs:List Int),us.map (fun b=>AV.i .u8 (b.toNat:Int))=zs.map (AV.i .u8)->zs.map (fun n=>UInt8.ofNat n.toNat)=us:=by
   intro us
   induction us with
   | nil=>intro zs e;cases zs with
    | nil=>rfl
    | cons z zs=>simp at e
   | cons u us ih =>
    intro zs e
    cases zs with
    | nil=>simp at e
    | cons z zs =>
     simp only[List.map_cons,List.cons.injEq,AV.i.injEq,true_and]at e
     rw[List.map_cons,ih zs e.2,<-e.1]
     simp
  rw[key _ _ h2]
 | sz id off a c hc hn =>
  simp only[srcV,if_true,Option.some.injEq,Prod.mk.injEq]at hsrc
  obtain rfl:=nil hsrc.2.symm
  cases a <;> exact ⟨.empty,rfl,rfl⟩
 | sl id off len cap k b o n cap' hρ h1 h2 h3 h4 h5 =>
  simp only[srcV]at hsrc
  split at hsrc
  ·rename_i h0
   subst h0
   simp only[Option.some.injEq,Prod.mk.injEq]at hsrc
   obtain rfl:=nil hsrc.2.symm
   exact ⟨.empty,rfl,rfl⟩
  obtain ⟨xs,hxs,hsrc⟩:=oQ.1 hsrc
  split at hsrc
  ·rename_i hle
   simp only[Option.some.injEq,Prod.mk.injEq,Nat.mul_one]at hsrc hle
   obtain ⟨vs,g1,g2,g3⟩:=hr.win hxs hρ off len hle
   rw[hsrc.2]at g3
   have hlen:=g3.1
   simp only[List.length_map,List.size_toArray]at hlen
   have hload:=JHE (P:=P) w b ns (o+off) .empty (fun j u hu=>by
    have hj:j<ns.length:=(List.getElem?_eq_some_iff.1 hu).1
    have h1:(ns.map (AV.i .u8))[j]?=some (AV.i .u8 u):=by rw[List.getElem?_map,hu];rfl
    have h2:=g3.2 j _ vs[j] h1 (by rw[List.getElem?_toArray];exact List.getElem?_eq_getElem (by omega))
    have h3:=g2 j vs[j] (List.getElem?_eq_getElem (by omega))
    have hadd:(⟨b,o+off,none⟩:Addr).add j=⟨b,o+off+j,none⟩:=by unfold Addr.add;split <;> simp_all
    rw[hadd]at h3
    generalize vs[j]=z at h2 h3
    cases h2
    exact h3)
   have hn:ns.length=len:=by omega
   rw[hn]at hload
   refine ⟨_,hload,?_⟩
   apply ByteArray.ext
   apply Array.ext'
   rw[Y92]
   rfl
  ·cases hsrc
 | _=>cases hsrc
theorem qzp (fn : Func) (h : fn.name = "internal/bytealg.Compare" ∨ fn.name = "internal/bytealg.abigen_runtime_cmpstring") (ho : fn.origin = "") : Extern.findNext fn = none ∧ Extern.find fn = some Extern.BytealgCompare.compare := by
 have n0 : List.lookup "" Extern.allNextRows = none := by kernel_rfl
 have n1 : List.lookup "internal/bytealg.Compare" Extern.allNextRows = none := by kernel_rfl
 have n2 : List.lookup "internal/bytealg.abigen_runtime_cmpstring" Extern.allNextRows = none := by kernel_rfl
 have g1 : List.lookup "internal/bytealg.Compare" Extern.allGenericRows = none := by kernel_rfl
 have g2 : List.lookup "internal/bytealg.abigen_runtime_cmpstring" Extern.allGenericRows = none := by kernel_rfl
 have t1 : List.lookup "internal/bytealg.Compare" Extern.allTypedRows = none := by kernel_rfl
 have t2 : List.lookup "internal/bytealg.abigen_runtime_cmpstring" Extern.allTypedRows = none := by kernel_rfl
 have r1 : List.lookup "internal/bytealg.Compare" Extern.allRows = some Extern.BytealgCompare.compare := by kernel_rfl
 have r2 : List.lookup "internal/bytealg.abigen_runtime_cmpstring" Extern.allRows = some Extern.BytealgCompare.compare := by kernel_rfl
 unfold Extern.findNext Extern.find
 rcases h with h|h
 ·simp only[h,ho,n0,n1,g1,t1,r1]
  exact ⟨rfl,rfl⟩
 ·simp only[h,ho,n0,n2,g2,t2,r2]
  exact ⟨rfl,rfl⟩
theorem XPl {ρ:Mp} {h:List AB} {w:World} (hr:Rel K ρ h w) (src dst e:TypeId) (hs:P.underlying src=some .string) (hd:P.underlying dst=some (.slice e)) (he:P.underlying e=some (.int .u8)) {l:List UInt8} {vx:Value} (hx:VR ρ (.s l) vx) (hl:l.length<=maxLen) :
  Good K P ρ h w (convert src dst vx) (.sl h.length 0 l.length l.length (some 1),h++[.blk true false (l.map fun b=>.i .u8 (b.toNat:Int))]):=by
 cases hx with
 | s _ bs hb =>
  have hrun:=run_bytes_of_string (P:=P) w src dst e bs hs hd he
  have hz:bs.size=l.length:=by rw[<-hb,Array.length_toList];rfl
  have hge:=grownCap_ge w bs.size 0 e
  have hle:=grownCap_le_maxLen w bs.size 0 e (by rw[hz];exact hl)
  have hsz:(bytesRow bs (grownCap w bs.size 0 e)).size=grownCap w bs.size 0 e:=by
   unfold bytesRow
   simp only[Array.size_append,Array.size_map,Array.size_replicate]
   have:bs.data.size=bs.size:=rfl
   omega
  obtain ⟨row,hrow⟩:∃row,row=bytesRow bs (grownCap w bs.size 0 e):=⟨_,rfl⟩
  rw[<-hrow]at hrun hsz
  have hB:BR K (ρ++[(w.drew.heap.size,0,row.size)]) (w.drew.alloc (.cells row e (row.size,row.size+1))) w.drew.heap.size 0 row.size (.blk true false (l.map fun b=>.i .u8 (b.toNat:Int))):=by
   refine ⟨row,e,(row.size,row.size+1),heap_alloc_new w.drew _,fun _=>⟨.inr (Nat.le_refl _),Nat.le_refl _⟩,by rw[hsz];simp;omega,fun k a c ha hc=>?_⟩
   rw[Nat.zero_add]at hc
   have hk:k<l.length:=by
    have:=(List.getElem?_eq_some_iff.1 ha).1
    simpa using this
   rw[hrow]at hc
   unfold bytesRow at hc
   rw[Array.getElem?_append_left (by simp;have:bs.data.size=bs.size:=rfl;omega)]at hc
   rw[List.getElem?_map]at ha
   rw[Array.getElem?_map]at hc
   obtain ⟨x,hx,rfl⟩:=Option.map_eq_some_iff.1 ha
   obtain ⟨y,hy,rfl⟩:=Option.map_eq_some_iff.1 hc
   have:x=y:=by
    rw[<-hb,Array.getElem?_toList]at hx
    rw[hy]at hx
    cases hx
    rfl
   subst this
   exact .i _ _
  have hnew:=hr.drew.new _ _ _ hB
  refine ⟨_,_,_,hrun,Ext.push _ _,hnew.1,?_,(Eff.drew ρ h w).trans hnew.2⟩
  rw[hz]at hge hle hsz ⊢
  have:=VR.sl (ρ:=ρ++[(w.drew.heap.size,0,row.size)]) h.length 0 l.length l.length (some 1) w.heap.size 0 _ (grownCap w l.length 0 e) (Zt4 ρ h _ hr.len) (Nat.le_refl _) hge hle (fun hk=>by cases hk) (fun z' hz' _=>by
   cases hz'
   omega)
  simpa using this
theorem YfD {ρ:Mp} {h:List AB} {w:World} (hr:Rel K ρ h w) (t:TypeId) (ht:P.underlying t=some .string) {l:List UInt8} {vx:Value} (hx:VR ρ (.s l) vx):Good K P ρ h w (Instr.range t vx) (.p h.length 0,h++[.iter ⟨l.toArray⟩ 0]):=by
 cases hx with
 | s _ bs hb =>
  obtain rfl:bs=⟨l.toArray⟩:=by
   obtain ⟨d⟩:=bs
   rw[<-hb,Array.toArray_toList]
  have hnew:=hr.new (.stringIter ⟨l.toArray⟩ 0) (.iter ⟨l.toArray⟩ 0) 0 ⟨rfl,heap_alloc_new w _⟩
  refine ⟨_,_,_,run_range_string w t _ ht,Ext.push _ _,hnew.1,?_,hnew.2⟩
  have:=VR.p (ρ:=ρ++[(w.heap.size,0,0)]) h.length 0 w.heap.size 0 0 (Zt4 ρ h _ hr.len)
  simpa using this
theorem ZIU {ρ:Mp} {h:List AB} {w:World} (hr:Rel K ρ h w) (ty:TypeId) {id:Nat} {s:ByteArray} {pos:Nat} {vx:Value} (hx:VR ρ (.p id 0) vx) (hi:h[id]?=some (.iter s pos)) {r:AV×List AB}
  (er:(if pos<s.size then some (AV.tu [.b true,.i .i64 (pos:Int),.i .i32 ((Utf8.decode s pos).1:Int)],h.set id (.iter s (pos+(Utf8.decode s pos).2))) else some (.tu [.b false],h))=some r):Good K P ρ h w (Instr.next vx true ty) r:=by
 cases hx with
 | p _ _ b o n hρ =>
  obtain ⟨ho,hb⟩:=hr.blk id _ b o n hi hρ
  subst ho
  by_cases g:pos<s.size
  ·rw[if_pos g]at er
   cases er
   have hrun:=Lib.run_next_any_at (P:=P) w b s pos ty hb g
   have hput:=hr.put (w':=w.iterAt b s (pos+(Utf8.decode s pos).2)) (B':=.iter s (pos+(Utf8.decode s pos).2)) hi rfl hρ ⟨rfl,Lib.iterAt_heap w b s pos _ hb⟩ rfl rfl ⟨rfl,Nat.le_refl _⟩ (by simp [World.iterAt]) (fun k hk=>by
    simp only[World.iterAt]
    rw[Array.getElem?_setIfInBounds_ne (Ne.symm hk)]) (fun _=>rfl)
   refine ⟨_,_,ρ,hrun,Ext.refl _,hput.1,.tu _ _ rfl fun j a c h1 h2=>?_,hput.2⟩
   match j with
   | 0=>cases h1;cases h2;exact .b _
   | 1=>cases h1;cases h2;exact .i _ _
   | 2=>cases h1;cases h2;exact .i _ _
   | j+3=>simp at h1
  ·rw[if_neg g]at er
   cases er
   have hrun:=Lib.run_next_end_at (P:=P) w b s pos ty hb g
   refine ⟨_,_,ρ,hrun,Ext.refl _,hr,.tu _ _ rfl fun j a c h1 h2=>?_,Eff.refl _ _ _⟩
   match j with
   | 0=>cases h1;cases h2;exact .b _
   | j+1=>simp at h1
theorem Y23 {ρ:Mp} {h:List AB} {w:World} (hr:Rel K ρ h w) (t e:TypeId) (ht:P.underlying t=some (.slice e)) (he:P.underlying e=some (.int .u8)) {id off n c:Nat} {k:Option Nat} (hn:¬n=0) {vx:Value} (hx:VR ρ (.sl id off n c k) vx) {fl:Bool} {xs:List AV} (hi:h[id]?=some (.blk fl true xs)):Good K P ρ h w (convert t t vx) (.sl id off n c k,h.set id (.blk fl false xs)):=by
 cases hx with
 | sz _ _ a c' hc hna=>exact absurd rfl hn
 | sl _ _ _ _ _ b o m cap' hρ h1 h2 h3 h4 h5 =>
  obtain ⟨cs,ty,fz,hb,hm,hle,hv⟩:=hr.blk id _ b o m hi hρ
  obtain ⟨_,hmc⟩:=hm rfl
  have hlt:b<w.heap.size:=(Array.getElem?_eq_some_iff.1 hb).1
  have hsh:w.shape? b=some (ty,cs.size):=by
   unfold World.shape?
   rw[hb]
  have hrun:(convert t t (.slice (some ⟨b,o+off,none⟩) n cap')).run P w=.ok (.slice (some ⟨b,o+off,none⟩) n cap') (w.freeze ⟨b,cs.size,none⟩ 1):=by
   simp [convert,run_underlying ht,run_underlying he,markStringish,hsh]
  obtain ⟨fz',hfz⟩:∃fz',(w.freeze ⟨b,cs.size,none⟩ 1).heap[b]?=some (.cells cs ty fz'):=by
   obtain ⟨lo,up⟩:=fz
   refine ⟨if lo == up then (cs.size,cs.size+1) else (min lo cs.size,max up (cs.size+1)),?_⟩
   unfold World.freeze
   rw[if_neg (by decide)]
   simp only[Array.getElem?_modify,if_true]
   rw[hb]
   rfl
  have hput:=hr.put (w':=w.freeze ⟨b,cs.size,none⟩ 1) (B':=.blk fl false xs) hi rfl hρ ⟨cs,ty,_,hfz,fun q=>absurd q (by decide),hle,hv⟩ (by unfold World.freeze;rw[if_neg (by decide)]) (by unfold World.freeze;rw[if_neg (by decide)]) (by unfold World.freeze;rw[if_neg (by decide)];exact ⟨rfl,Nat.le_refl _⟩) (by unfold World.freeze;rw[if_neg (by decide)];simp) (fun q hq=>by
   unfold World.freeze
   rw[if_neg (by decide)]
   simp only[Array.getElem?_modify]
   rw[if_neg (Ne.symm hq)]) (fun _=>rfl)
  exact ⟨_,_,ρ,hrun,Ext.refl _,hput.1,.sl _ _ _ _ _ b o m cap' hρ h1 h2 h3 h4 h5,hput.2⟩
theorem zz6 (fn : Func) (h : fn.name = "internal/bytealg.IndexByteString") (ho : fn.origin = "") : Extern.findNext fn = none ∧ Extern.find fn = some Extern.BytealgIndexByte.indexByte := by
 have n0 : List.lookup "" Extern.allNextRows = none := by kernel_rfl
 have n1 : List.lookup "internal/bytealg.IndexByteString" Extern.allNextRows = none := by kernel_rfl
 have g1 : List.lookup "internal/bytealg.IndexByteString" Extern.allGenericRows = none := by kernel_rfl
 have t1 : List.lookup "internal/bytealg.IndexByteString" Extern.allTypedRows = none := by kernel_rfl
 have r1 : List.lookup "internal/bytealg.IndexByteString" Extern.allRows = some Extern.BytealgIndexByte.indexByte := by kernel_rfl
 unfold Extern.findNext Extern.find
 simp only[h,ho,n0,n1,g1,t1,r1]
 exact ⟨rfl,rfl⟩
theorem XeM {ρ : Mp} {w : World} {g : FuncId} {fn : Func} (hf : P.funcs[g]? = some fn) (hname : fn.name = "internal/bytealg.IndexByteString") (ho : fn.origin = "") (hb : fn.body.isNone = true) {l : List UInt8} {n : Int} {vx vy : Value} (hx : VR ρ (.s l) vx) (hy : VR ρ (.i .u8 n) vy) :
  (callFunc g #[vx,vy]).run P w=.ok (.value (.int .i64 (match (List.range l.length).find? fun i=>(⟨l.toArray⟩:ByteArray)[i]! == UInt8.ofNat n.toNat with|some i=>(i:Int)|none=>-1))) w:=by
 cases hx with
 | s _ bs hbs =>
  cases hy with
  | i _ _ =>
   obtain rfl:bs=⟨l.toArray⟩:=by
    obtain ⟨d⟩:=bs
    rw[<-hbs,Array.toArray_toList]
   obtain ⟨f1,f2⟩:=zz6 fn hname ho
   rw[run_callFunc_extern hf (by rw[hname];decide) hb f1 f2]
   have hsz:(⟨l.toArray⟩:ByteArray).size=l.length:=by simp [ByteArray.size]
   have:(Extern.BytealgIndexByte.indexByte #[.string ⟨l.toArray⟩,.int .u8 n]).run P w=.ok (.int .i64 (match (List.range l.length).find? fun i=>(⟨l.toArray⟩:ByteArray)[i]! == UInt8.ofNat n.toNat with|some i=>(i:Int)|none=>-1)) w:=by
    change Sem.run P (do
     let b<-Extern.Bytes.bytesOf (.string ⟨l.toArray⟩)
     let c<-Extern.Bytes.asByte (.int .u8 n)
     match (List.range b.size).find? fun i=>b[i]! == c with
     | some i=>pure (goInt i)
     | none=>pure (goInt (-1))) w=_
    have b1:(Extern.Bytes.bytesOf (.string ⟨l.toArray⟩)).run P w=.ok (⟨l.toArray⟩:ByteArray) w:=rfl
    have b2:(Extern.Bytes.asByte (.int .u8 n)).run P w=.ok (UInt8.ofNat n.toNat) w:=rfl
    rw[Sem.run_bind,b1,Result.andThen_ok,Sem.run_bind,b2,Result.andThen_ok,hsz]
    cases (List.range l.length).find? fun i=>(⟨l.toArray⟩:ByteArray)[i]! == UInt8.ofNat n.toNat with
    | none=>rfl
    | some i=>rfl
   rw[this]
   rfl
theorem ZRO {ρ : Mp} {h : List AB} {w : World} (hr : Rel K ρ h w) {g : FuncId} {fn : Func} (hf : P.funcs[g]? = some fn) (hname : fn.name = "internal/bytealg.Compare" ∨ fn.name = "internal/bytealg.abigen_runtime_cmpstring") (ho : fn.origin = "") (hb : fn.body.isNone = true)
  {x y:AV} {vx vy:Value} (hx:VR ρ x vx) (hy:VR ρ y vy) {r:AV×List AB}
  (er:((srcV h 1 x).bind fun (_,xs)=>(srcV h 1 y).bind fun (_,ys)=>(bytesOf xs).bind fun l=>(bytesOf ys).map fun m=>(AV.i .i64 (Extern.BytealgCompare.cmp ⟨l.toArray⟩ ⟨m.toArray⟩),h))=some r) :
  ∃v',(callFunc g #[vx,vy]).run P w=.ok (.value v') w/\VR ρ r.1 v'/\r.2=h:=by
 obtain ⟨⟨m1,xs⟩,s1,er⟩:=oQ.1 er
 obtain ⟨⟨m2,ys⟩,s2,er⟩:=oQ.1 er
 obtain ⟨l,b1,er⟩:=oQ.1 er
 obtain ⟨m,b2,rfl⟩:=Option.map_eq_some_iff.1 er
 obtain ⟨B1,e1,rfl⟩:=QpL (P:=P) hr hx s1 b1
 obtain ⟨B2,e2,rfl⟩:=QpL (P:=P) hr hy s2 b2
 obtain ⟨f1,f2⟩:=qzp fn hname ho
 refine ⟨.int .i64 (Extern.BytealgCompare.cmp ⟨l.toArray⟩ ⟨m.toArray⟩),?_,.i _ _,rfl⟩
 rw[run_callFunc_extern hf (by rcases hname with h|h <;> rw[h] <;> decide) hb f1 f2]
 have:(Extern.BytealgCompare.compare #[vx,vy]).run P w=.ok (.int .i64 (Extern.BytealgCompare.cmp ⟨l.toArray⟩ ⟨m.toArray⟩)) w:=by
  change Sem.run P (do pure (goInt (Extern.BytealgCompare.cmp (<-Extern.Bytes.bytesOf vx) (<-Extern.Bytes.bytesOf vy)))) w=_
  simp [e1,e2,goInt]
 rw[this]
 rfl
theorem KH2 {ρ:Mp} {h:List AB} {w:World} (hr:Rel K ρ h w) (t ty e:TypeId) (ht:P.underlying t=some (.slice e)) {ie:TypeInfo} (hie:P.info? e=some ie) {z:Value} (hz:ie.zero=some z) (hzs:z.cells.size=ie.size) (hs0:ie.size≠0) {zl:List AV} (hzl:VL ρ zl z.cells)
  {x:AV} {r:AV×List AB} (er:(match x with
   | .ns=>some (AV.tu [],h)
   | .se=>some (.tu [],h)
   | .sl id off len _ _=>if len=0 then some (.tu [],h) else (stB h id off ((List.replicate len zl).flatten)).map (.tu [],·)
   | _=>none)=some r) {vx:Value} (hx:VR ρ x vx):Good K P ρ h w (Builtin.clear_ #[t] ty #[vx]) r:=by
 have u:VR ρ (.tu []) (.tuple #[]):=.tu [] #[] rfl (fun j a c h=>by simp at h)
 cases hx with
 | ns =>
  cases er
  exact ⟨.tuple #[],w,ρ,by simp [Builtin.clear_,run_underlying ht],Ext.refl _,hr,u,Eff.refl _ _ _⟩
 | se a c hc =>
  cases er
  exact ⟨.tuple #[],w,ρ,by simp [Builtin.clear_,run_underlying ht],Ext.refl _,hr,u,Eff.refl _ _ _⟩
 | sz id off a c hc hn =>
  simp only[if_true]at er
  cases er
  exact ⟨.tuple #[],w,ρ,by cases a <;> simp [Builtin.clear_,run_underlying ht],Ext.refl _,hr,u,Eff.refl _ _ _⟩
 | sl id off len cap k b o n cap' hρ h1 h2 h3 h4 h5 =>
  simp only at er
  split at er
  ·rename_i hl
   subst hl
   cases er
   exact ⟨.tuple #[],w,ρ,by simp [Builtin.clear_,run_underlying ht],Ext.refl _,hr,u,Eff.refl _ _ _⟩
  ·rename_i hl
   obtain ⟨h',hst,rfl⟩:=Option.map_eq_some_iff.1 er
   have hY:=ZK0 (ρ:=ρ) hzs hs0 hzl len
   obtain ⟨w',g1,g2,g3⟩:=XCO (P:=P) hr hst hρ (vs:=((Array.range (len*ie.size)).map (z.cells[· % z.cells.size]!)).toList) (by rw[Array.toArray_toList];exact hY)
   refine ⟨.tuple #[],w',ρ,?_,Ext.refl _,g2,u,g3⟩
   obtain ⟨q,rfl⟩:∃q,len=q+1:=⟨len-1,by omega⟩
   have hzc:Builtin.zeroCells z.cells (q+1)=(Array.range ((q+1)*ie.size)).map (z.cells[· % z.cells.size]!):=by
    rw[<-hzs]
    rfl
   rw[<-hzc]at g1
   simp [Builtin.clear_,run_underlying ht,zeroValue,typeInfo,hie,hz,g1]
 | _=>cases er
end
end
end Go.Proofs.YtekeoichmdiiiaaGreat
