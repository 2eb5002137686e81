/- Part 34 of what the laws' proofs rest on. No condition. -/
import Derived.Test.YtekeoichmdiiiaaGreatTh33
set_option linter.all false
namespace Go.Proofs.YtekeoichmdiiiaaGreat
section
open Go.ChangeShapes Go.WideShapes Go.ChangeAt Go.RowKit
section
variable {K:Code->CC->Prop} {ρ:Mp} {h:List AB} {w:World}
theorem In.hz (i:In K ρ h w):h.map AB.freeze=h:=by
 refine List.ext_getElem? fun j=>?_
 rw[List.getElem?_map]
 cases e:h[j]? with
 | none=>rfl
 | some B =>
  have:=i.frz B (List.mem_of_getElem? e)
  rw[Option.map_some]
  congr 1
  cases B <;> first|rfl|(cases this;done)|(simp only[AB.mut]at this;subst this;rfl)
theorem In.sl {α:Type} {r:Row α} (i:In K ρ h w) (hfl:∀x,∀a∈r.f x,a.fl=true) {v:Value} {l:List α} (hs:Sl w v l.length ((r.cells l).map AV.val)) :
  ∃x s B,In K (ρ++[x]) (h++[B]) w/\VR (ρ++[x]) s v/\Rd r (h++[B]) s l/\Ext ρ (ρ++[x])/\s.capOk=true:=by
 obtain ⟨hl,x,i',vr⟩:=i.slice hfl hs
 exact ⟨x,_,_,i',vr,qIg (by rw[List.getElem?_append_right (Nat.le_refl _),Nat.sub_self];rfl) hl,Ext.push _ _,zA3 _ _⟩
theorem RdL.row {α:Type} {r:Row α} {v:Value} {ts:List α} (e:RdL (fun _ cs x=>cs=(r.f x).map AV.val) r.sz w v ts):Sl w v ts.length ((r.cells ts).map AV.val):=by
 obtain ⟨cs,h1,h2,h3⟩:=e
 have hcs:cs=(r.cells ts).map AV.val:=by
  apply List.ext_getElem?
  intro k
  by_cases hk:k<ts.length*r.sz
  ·have hi:k / r.sz<ts.length:=(Nat.div_lt_iff_lt_mul r.pos).2 hk
   have hj:=Nat.mod_lt k r.pos
   have ek:k=k / r.sz*r.sz+k % r.sz:=by rw[Nat.mul_comm];exact (Nat.div_add_mod k r.sz).symm
   have ht:ts[k / r.sz]?=some (ts.getD (k / r.sz) r.d):=by rw[List.getD_eq_getElem?_getD,List.getElem?_eq_getElem hi];rfl
   have q:=h3 _ _ ht
   have q1:((cs.drop (k / r.sz*r.sz)).take r.sz)[k % r.sz]?=((r.f (ts.getD (k / r.sz) r.d)).map AV.val)[k % r.sz]?:=by rw[q]
   rw[List.getElem?_take_of_lt hj,List.getElem?_drop,<-ek,List.getElem?_map,<-r.cells_get ts _ _ hi hj,<-ek]at q1
   rw[q1,List.getElem?_map]
  ·rw[List.getElem?_eq_none (by omega),List.getElem?_eq_none (by rw[List.length_map,r.cells_len];omega)]
 rw[hcs]at h1
 exact h1
end
section
variable {H:Type} {enc:TypeId×Value->H} {w:World} {base:Nat} {held:Bool}
theorem X4F {α:Type} {l:List α} (h:l.length=2):∃a b,l=[a,b]:=by
 match l,h with
 | [a,b],_=>exact ⟨a,b,rfl⟩
theorem K3I {fuel:Nat} {cs:List Value} {x:DataW H×List MemPlace} (h:DataW.trod enc Tryz.prog w base (fun _=>true) held fuel 22 cs=some x):∃v,cs=[v]/\∃xs:List Int,Sl w v xs.length ((intR.cells xs).map AV.val):=by
 obtain ⟨v,h1,ts,h2⟩:=XEE (fun _ cs (c:Int)=>cs=(intR.f c).map AV.val) Tryz.underlying22 (size:=1) (by kernel_rfl) (by decide) (fun fuel cs x hx=>by
  obtain ⟨n,rfl,hw⟩:=zej Tryz.underlying3 hx
  exact ⟨n,by rw[KpI];rfl⟩) h
 exact ⟨v,h1,ts,RdL.row (r:=intR) h2⟩
theorem XSy {fuel:Nat} {cs:List Value} {x:DataW H×List MemPlace} (h:DataW.trod enc Tryz.prog w base (fun _=>true) held fuel 40 cs=some x):∃r n,cs=[.int .i64 r,.int .i64 n]/\(-9223372036854775808<=r/\r<=9223372036854775807)/\(-9223372036854775808<=n/\n<=9223372036854775807):=by
 cases fuel with
 | zero=>cases h
 | succ fuel =>
  obtain ⟨hl,he⟩:=YuU Tryz.underlying40 h
  have hl2:cs.length=2:=hl.trans (by kernel_rfl)
  simp only[List.forall_mem_cons]at he
  obtain ⟨⟨y0,h0⟩,⟨y1,h1⟩,_⟩:=he
  rw[(by kernel_rfl:Tryz.prog.cellsOf 3=1)]at h0 h1
  obtain ⟨r,e0,w0⟩:=zej Tryz.underlying3 h0
  obtain ⟨n,e1,w1⟩:=zej Tryz.underlying3 h1
  obtain ⟨a,b,rfl⟩:=X4F hl2
  have e0':[a]=_:=e0
  have e1':[b]=_:=e1
  cases e0'
  cases e1'
  exact ⟨r,n,rfl,qIh w0,qIh w1⟩
end
end
section
open Go.ChangeShapes Go.WideShapes Go.ChangeAt Go.RowKit
section
variable {H:Type} {enc:TypeId×Value->H} {w:World} {base:Nat} {held:Bool}
theorem QPv {fuel:Nat} {cs:List Value} {x:DataW H×List MemPlace} (h:DataW.trod enc Tryz.prog w base (fun _=>true) held fuel 42 cs=some x):∃i:Dg,cs=(idR.f i).map AV.val:=by
 cases fuel with
 | zero=>cases h
 | succ fuel =>
  obtain ⟨hl,he⟩:=Z8z Tryz.underlying42 h
  have hl2:cs.length=32:=hl.trans (by kernel_rfl)
  have h1:Tryz.prog.cellsOf 5=1:=by kernel_rfl
  obtain ⟨d,hd,hdt⟩:=X5K (fun i (c:UInt8)=>cs[i]?=some (.int .u8 (c.toNat:Int))) 32 fun i hi=>by
   obtain ⟨y,hy⟩:=he i hi
   rw[h1]at hy
   obtain ⟨n,hn,hw⟩:=zej Tryz.underlying5 hy
   refine ⟨UInt8.ofInt n,?_⟩
   have e:((cs.drop (i*1)).take 1)[0]?=some (.int .u8 n):=by rw[hn];rfl
   rw[List.getElem?_take_of_lt (by omega),List.getElem?_drop,Q2d hw]at e
   simpa using e
  refine ⟨⟨d,hd⟩,?_⟩
  apply List.ext_getElem?
  intro i
  show cs[i]?=((d.map u8A).map AV.val)[i]?
  rw[List.map_map]
  by_cases hi:i<32
  ·rw[List.getElem?_map,List.getElem?_eq_getElem (by omega:i<d.length),Option.map_some,hdt i _ (List.getElem?_eq_getElem (by omega:i<d.length))]
   rfl
  ·rw[List.getElem?_eq_none (by omega),List.getElem?_eq_none (by rw[List.length_map];omega)]
theorem KwM {fuel:Nat} {cs:List Value} {x:DataW H×List MemPlace} (h:DataW.trod enc Tryz.prog w base (fun _=>true) held fuel 54 cs=some x):∃i:Hd,cs=(zEN.f i).map AV.val:=by
 cases fuel with
 | zero=>cases h
 | succ fuel =>
  obtain ⟨hl,he⟩:=YuU Tryz.underlying54 h
  have hl2:cs.length=34:=hl.trans (by kernel_rfl)
  simp only[List.forall_mem_cons]at he
  obtain ⟨⟨y0,h0⟩,⟨y1,h1⟩,_⟩:=he
  rw[(by kernel_rfl:Tryz.prog.cellsOf 40=2)]at h0
  rw[(by kernel_rfl:Tryz.prog.cellsOf 42=32)]at h1
  obtain ⟨r,n,e0,_,_⟩:=XSy h0
  obtain ⟨i,e1⟩:=QPv h1
  refine ⟨((r,n),i),?_⟩
  have e0':cs.take 2=_:=e0
  have e1':(cs.drop 2).take 32=_:=e1
  have:cs=cs.take 2++(cs.drop 2).take 32:=by
   have q:(cs.drop 2).take 32=cs.drop 2:=List.take_of_length_le (by rw[List.length_drop];omega)
   rw[q,List.take_append_drop]
  rw[this,e0',e1',XvD]
  rfl
theorem zKi {fuel:Nat} {cs:List Value} {x:DataW H×List MemPlace} (h:DataW.trod enc Tryz.prog w base (fun _=>true) held fuel 51 cs=some x):∃v,cs=[v]/\∃xs:List Hd,Sl w v xs.length ((zEN.cells xs).map AV.val):=by
 obtain ⟨v,h1,ts,h2⟩:=XEE (fun _ cs (c:Hd)=>cs=(zEN.f c).map AV.val) Tryz.underlying51 (size:=34) (by kernel_rfl) (by decide) (fun fuel cs x hx=>KwM hx) h
 exact ⟨v,h1,ts,RdL.row (r:=zEN) h2⟩
end
end
section
open Go.ChangeShapes Go.WideShapes Go.ChangeAt Go.RowKit
section
variable {H:Type} {enc:TypeId×Value->H} {w:World} {base:Nat} {held:Bool}
theorem Kvf (s:ByteArray):AV.val (.s s.data.toList)=.string s:=by
 show Value.string ⟨s.data.toList.toArray⟩=_
 rw[Array.toArray_toList]
end
end
section
set_option maxRecDepth 100000
open Go.ChangeShapes Go.WideShapes Go.ChangeAt Go.RowKit
section
variable {K:Code->CC->Prop} {ρ:Mp} {h:List AB} {w:World} {α δ:Type} {D:DRow α δ}
theorem In.slT {α:Type} {r:Row α} (i:In K ρ h w) {v:Value} {cs:List Value} {xs:List α} (hl:cs.length=xs.length*r.sz) (hs:Sl w v xs.length cs) (hv:∀(j:Nat) a c,(r.cells xs)[j]?=some a->cs[j]?=some c->VR ρ a c) :
  ∃x s B,In K (ρ++[x]) (h++[B]) w/\VR (ρ++[x]) s v/\Rd r (h++[B]) s xs/\s.ok (fun i=>decide (i<(h++[B]).length))=true/\s.capOk=true:=by
 have hrl:=i.rel.len
 by_cases h0:xs.length=0
 ·obtain rfl:=List.eq_nil_of_length_eq_zero h0
  refine ⟨(0,0,0),.sl h.length 0 0 0 (some 0),.dead,i.push (by simp [AB.mut]) (by simp [BR]),?_,⟨by rfl,Nat.zero_le _⟩,by simp [AV.ok],rfl⟩
  rcases hs with ⟨⟨a,rfl⟩,_,_⟩|⟨b,off,cap,rfl,_,hc,_⟩
  ·exact .sz _ _ _ _ (Nat.zero_le _) fun _=>rfl
  ·exact .sz _ _ _ _ hc fun q=>by cases q
 ·rcases hs with ⟨_,q,_⟩|⟨b,off,cap,rfl,hlc,hc,hcells⟩
  ·omega
  ·have hlen:(r.cells xs).length=xs.length*r.sz:=r.cells_len xs
   have hpos:0<xs.length*r.sz:=Nat.mul_pos (by omega) r.pos
   have hat:∀k (hk:k<cs.length),w.cell? ⟨b,off+k,none⟩=some cs[k]:=fun k hk=>hcells k _ (List.getElem?_eq_getElem hk)
   obtain ⟨ds,e,fz,hb⟩:∃cs e fz,w.heap[b]?=some (.cells cs e fz):=by
    have:=hat 0 (by omega)
    unfold World.cell? at this
    split at this
    ·rename_i c e fz hb
     exact ⟨c,e,fz,hb⟩
    ·cases this
   have hat':∀k (hk:k<cs.length),ds[off+k]?=some cs[k]:=fun k hk=>by
    have:=hat k hk
    unfold World.cell? at this
    rw[hb]at this
    simpa using this
   refine ⟨(b,off,off+cap*r.sz),.sl h.length 0 xs.length xs.length (some r.sz),.blk false false (r.cells xs),i.push (by simp [AB.mut]) ?_,?_,⟨?_,by show xs.length<=maxLen;omega⟩,by simp [AV.ok],?_⟩
   ·refine ⟨ds,e,fz,hb,(fun q=>by cases q),?_,fun k a c ha hc'=>?_⟩
    ·have:=(Array.getElem?_eq_some_iff.1 (hat' (cs.length-1) (by omega))).1
     omega
    ·have hk:=(List.getElem?_eq_some_iff.1 ha).1
     rw[hat' k (by omega)]at hc'
     cases hc'
     exact (hv k a _ ha (List.getElem?_eq_getElem (by omega))).ext (Ext.push _ _)
   ·exact .sl h.length 0 xs.length xs.length (some r.sz) b off (off+cap*r.sz) cap (by rw[<-hrl,List.getElem?_append_right (Nat.le_refl _),Nat.sub_self];rfl) (Nat.le_refl _) (by omega) hc (fun q=>by cases q) (fun z hz _=>by cases hz;exact Nat.le_refl _)
   ·simp only[rdS,if_neg h0]
    have hr:zZU (h++[AB.blk false false (r.cells xs)]) h.length=some (r.cells xs):=by
     unfold zZU
     rw[List.getElem?_append_right (Nat.le_refl _),Nat.sub_self]
     rfl
    rw[hr,Option.bind_some,if_pos (by omega),List.drop_zero,List.take_of_length_le (by omega)]
   ·simp [AV.capOk]
theorem QS3 (x:Dg):∀a∈idR.f x,a.fl=true:=fun a ha=>by
 obtain ⟨b,_,rfl⟩:=List.mem_map.1 ha
 rfl
structure RowO (D:DRow α δ) (ρ:Mp) (h:List AB) (a:α) (d:δ) (cs:List Value):Prop where
 v:VL ρ (D.r.f a) cs.toArray
 g:D.get h a=some d
 o:okL (fun i=>decide (i<h.length)) (D.r.f a)=true
theorem RowO.app {a:α} {d:δ} {cs:List Value} (q:RowO D ρ h a d cs) (ρ2:Mp) (h2:List AB):RowO D (ρ++ρ2) (h++h2) a d cs:=
 ⟨q.v.ext (fun k y hk=>by rw[List.getElem?_append_left (List.getElem?_eq_some_iff.1 hk).1];exact hk),D.app h2 q.g,Yit (fun i z=>by simp only[decide_eq_true_eq,List.length_append]at z ⊢;omega) _ q.o⟩
def Lays (K:Code->CC->Prop) (w:World) (D:DRow α δ) (cs:List Value):Prop:=∀(ρ:Mp) (h:List AB),In K ρ h w->∃(ρ2:Mp) (h2:List AB) (a:α) (d:δ),In K (ρ++ρ2) (h++h2) w/\RowO D (ρ++ρ2) (h++h2) a d cs
theorem In.rowl:∀(l:List (List Value)) {ρ:Mp} {h:List AB},In K ρ h w->(∀cs∈l,Lays K w D cs)->∃(ρ2:Mp) (h2:List AB) (es:List (α×δ)),In K (ρ++ρ2) (h++h2) w/\es.length=l.length/\∀(j:Nat) e cs,es[j]?=some e->l[j]?=some cs->RowO D (ρ++ρ2) (h++h2) e.1 e.2 cs
 | [],ρ,h,i,_=>⟨[],[],[],by simpa using i,rfl,fun j e t q=>by simp at q⟩
 | cs::l,ρ,h,i,hs=>by
  obtain ⟨ρ1,h1,a,d,i1,q0⟩:=hs cs (List.mem_cons_self ..) ρ h i
  obtain ⟨ρ2,h2,es,i2,hl,hj⟩:=In.rowl l i1 fun t ht=>hs t (List.mem_cons_of_mem _ ht)
  rw[List.append_assoc,List.append_assoc]at i2
  refine ⟨ρ1++ρ2,h1++h2,(a,d)::es,i2,by simp [hl],fun j e t' x y=>?_⟩
  cases j with
  | zero =>
   cases x;cases y
   have:=q0.app ρ2 h2
   rw[List.append_assoc,List.append_assoc]at this
   exact this
  | succ j =>
   have:=hj j e t' (by simpa using x) (by simpa using y)
   rw[List.append_assoc,List.append_assoc]at this
   exact this
theorem In.rowsP (i:In K ρ h w) {v:Value} {l:List (List Value)} {c:List Value} (hs:Sl w v l.length c) (hl:c.length=l.length*D.r.sz) (hc:∀(k:Nat) cs,l[k]?=some cs->(c.drop (k*D.r.sz)).take D.r.sz=cs) (ht:∀cs∈l,Lays K w D cs) :
  ∃(ρ2:Mp) (h2:List AB) (s:AV) (m:List (α×δ)),In K (ρ++ρ2) (h++h2) w/\VR (ρ++ρ2) s v/\RdP D (h++h2) s m/\s.ok (fun i=>decide (i<(h++h2).length))=true/\Ext ρ (ρ++ρ2):=by
 obtain ⟨ρ2,h2,es,i2,hle,hj⟩:=i.rowl l ht
 have hp:=D.r.pos
 have hel:(es.map (·.1)).length=es.length:=List.length_map _
 have key:∀(j:Nat) a c',(D.r.cells (es.map (·.1)))[j]?=some a->c[j]?=some c'->VR (ρ++ρ2) a c':=fun j a c' ha hc'=>by
  have hjl:j<es.length*D.r.sz:=by
   have:=(List.getElem?_eq_some_iff.1 ha).1
   rw[D.r.cells_len,hel]at this
   exact this
  have hi:j / D.r.sz<es.length:=(Nat.div_lt_iff_lt_mul hp).2 hjl
  have hm:j % D.r.sz<D.r.sz:=Nat.mod_lt _ hp
  have ej:j=j / D.r.sz*D.r.sz+j % D.r.sz:=by rw[Nat.mul_comm];exact (Nat.div_add_mod j D.r.sz).symm
  have q:=hj (j / D.r.sz) _ _ (List.getElem?_eq_getElem hi) (List.getElem?_eq_getElem (by omega:j / D.r.sz<l.length))
  have h1:=hc (j / D.r.sz) _ (List.getElem?_eq_getElem (by omega:j / D.r.sz<l.length))
  refine q.v.2 (j % D.r.sz) a c' ?_ ?_
  ·have:=D.r.cells_get (es.map (·.1)) (j / D.r.sz) (j % D.r.sz) (by rw[hel];exact hi) hm
   rw[<-ej,ha]at this
   rw[this,List.getD_eq_getElem?_getD,List.getElem?_map,List.getElem?_eq_getElem hi]
   rfl
  ·rw[List.getElem?_toArray,<-h1,List.getElem?_take_of_lt hm,List.getElem?_drop,<-ej]
   exact hc'
 obtain ⟨x,s,B,i3,v3,r3,o3,c3⟩:=i2.slT (r:=D.r) (xs:=es.map (·.1)) (by rw[hel,hle];exact hl) (by rw[hel,hle];exact hs) key
 have hz:∀e∈es,D.get (h++h2++[B]) e.1=some e.2/\okL (fun i=>decide (i<(h++h2++[B]).length)) (D.r.f e.1)=true:=fun e he=>by
  obtain ⟨j,hj'⟩:=List.mem_iff_getElem?.1 he
  have hjl:=(List.getElem?_eq_some_iff.1 hj').1
  have q:=(hj j e _ hj' (List.getElem?_eq_getElem (by omega:j<l.length))).app [x] [B]
  exact ⟨q.g,q.o⟩
 rw[List.append_assoc]at i3 v3
 rw[List.append_assoc]at i3 r3 o3 hz
 exact ⟨ρ2++[x],h2++[B],s,es,i3,v3,⟨r3,fun e he=>(hz e he).1,fun e he=>(hz e he).2⟩,o3,fun k y hk=>by rw[List.getElem?_append_left (List.getElem?_eq_some_iff.1 hk).1];exact hk⟩
theorem JMs (x:Hd):∀a∈zEN.f x,a.fl=true:=fun a ha=>by
 rw[XvD]at ha
 simp only[List.mem_cons]at ha
 rcases ha with rfl|rfl|ha
 ·rfl
 ·rfl
 ·exact QS3 x.2 a ha
theorem Xwj {ρ:Mp} {h:List AB} {w:World} (i:In K ρ h w) {s:AV} {v:Value} (e:VR ρ s v):s.ok (fun i=>decide (i<h.length))=true:=e.okLe (by rw[i.rel.len];exact Nat.le_refl _)
def RawG (w:World) (cs:List Value) (_:Unit):Prop:=∃p v,cs=[.string p,v]/\∃hs:List Hd,Sl w v hs.length ((zEN.cells hs).map AV.val)
theorem RawG.lays {cs:List Value} (e:RawG w cs ()):Lays K w tagD cs:=fun ρ h i=>by
 obtain ⟨p,v,rfl,hs,sl⟩:=e
 obtain ⟨x,s,B,i1,v1,r1,e1,_⟩:=i.sl JMs sl
 have hn:VR (ρ++[x]) (.s p.data.toList) (.string p):=by
  have:=qqG (ρ++[x]) (a:=.s p.data.toList) rfl
  rw[Kvf]at this
  exact this
 refine ⟨[x],[B],⟨p.data.toList,⟨s,r1.isSl⟩⟩,_,i1,⟨?_,Qaj r1,?_⟩⟩
 ·exact VL.cons hn (VL.one v1)
 ·show okL _ (tagR.f ⟨_,_⟩)=true
  rw[q2E]
  simp only[ZiP,q0E,ok_s,Bool.true_and,Bool.and_true]
  exact Xwj i1 v1
def RawR (w:World) (cs:List Value) (_:Unit):Prop:=∃p v u,cs=[.string p,v,u]/\(∃ts:List Unit,RdL RawG 2 w v ts)/\∃hs:List Hd,Sl w u hs.length ((zEN.cells hs).map AV.val)
theorem Qt7 {P:World->List Value->Unit->Prop} {sz:Nat} {v:Value} {ts:List Unit} (e:RdL P sz w v ts):∃(l:List (List Value)) (c:List Value),Sl w v l.length c/\c.length=l.length*sz/\(∀(k:Nat) cs,l[k]?=some cs->(c.drop (k*sz)).take sz=cs)/\∀cs∈l,P w cs ():=by
 obtain ⟨c,h1,h2,h3⟩:=e
 refine ⟨(List.range ts.length).map fun k=>(c.drop (k*sz)).take sz,c,by simpa using h1,by simpa using h2,fun k cs hk=>?_,fun cs hc=>?_⟩
 ·rw[List.getElem?_map]at hk
  obtain ⟨k',hk',rfl⟩:=Option.map_eq_some_iff.1 hk
  have:=List.getElem?_range (n:=ts.length) (i:=k) (by
   have:=(List.getElem?_eq_some_iff.1 hk').1
   simpa using this)
  rw[this]at hk'
  cases hk'
  rfl
 ·obtain ⟨k,hk,rfl⟩:=List.mem_map.1 hc
  have hk:=List.mem_range.1 hk
  exact h3 k _ (List.getElem?_eq_getElem hk)
theorem RawR.lays {cs:List Value} (e:RawR w cs ()):Lays K w repD cs:=fun ρ h i=>by
 obtain ⟨p,v,u,rfl,⟨ts,rt⟩,hs,sl⟩:=e
 obtain ⟨l,c,a1,a2,a3,a4⟩:=Qt7 rt
 obtain ⟨ρ1,h1,st,mt,i1,v1,r1,o1,_⟩:=i.rowsP (D:=tagD) a1 a2 a3 fun cs hcs=>(a4 cs hcs).lays
 obtain ⟨x,s,B,i2,v2,r2,e2,_⟩:=i1.sl JMs sl
 have hn:VR (ρ++ρ1++[x]) (.s p.data.toList) (.string p):=by
  have:=qqG (ρ++ρ1++[x]) (a:=.s p.data.toList) rfl
  rw[Kvf]at this
  exact this
 have v1':VR (ρ++ρ1++[x]) st v:=v1.ext e2
 obtain ⟨S1,hS1⟩:∃S:SlA,S.a=st:=⟨⟨st,r1.s.isSl⟩,rfl⟩
 obtain ⟨S2,hS2⟩:∃S:SlA,S.a=s:=⟨⟨s,r2.isSl⟩,rfl⟩
 have key:RowO repD (ρ++ρ1++[x]) (h++h1++[B]) ⟨p.data.toList,S1,S2⟩ ⟨p.data.toList,mt.map (·.2),hs⟩ [.string p,v,u]:=by
  refine ⟨?_,XZF (a:=⟨p.data.toList,S1,S2⟩) (by rw[hS1];exact r1.app [B]) (by rw[hS2];exact r2),?_⟩
  ·show VL _ [.s p.data.toList,S1.a,S2.a] _
   rw[hS1,hS2]
   exact VL.cons hn (VL.cons v1' (VL.one v2))
  ·show okL _ (repR.f ⟨_,_,_⟩)=true
   rw[X6g,hS1,hS2]
   simp only[ZiP,q0E,ok_s,Bool.true_and,Bool.and_true,Bool.and_eq_true]
   exact ⟨Xwj i2 v1',Xwj i2 v2⟩
 rw[List.append_assoc]at i2
 rw[List.append_assoc]at i2
 rw[List.append_assoc,List.append_assoc]at key
 exact ⟨ρ1++[x],h1++[B],_,_,i2,key⟩
theorem In.table (i:In K ρ h w) {a b:Value} {xs:List Int} {ts:List Unit} (sa:Sl w a xs.length ((intR.cells xs).map AV.val)) (sb:RdL RawR 3 w b ts):∃(ρ2:Mp) (h2:List AB) (v s:AV) (n:List Int) (m:List (RepA×RpD)),In K (ρ++ρ2) (h++h2) w/\VR (ρ++ρ2) (.ag [v,s]) (.agg #[a,b])/\RdT (h++h2) v s n m/\Ext ρ (ρ++ρ2):=by
 obtain ⟨l,c,a1,a2,a3,a4⟩:=Qt7 sb
 obtain ⟨x,s,B,i1,v1,r1,e1,_⟩:=i.sl ZA6 sa
 obtain ⟨ρ1,h1,st,mt,i2,v2,r2,o2,e2⟩:=i1.rowsP (D:=repD) a1 a2 a3 fun cs hcs=>(a4 cs hcs).lays
 have v1':=v1.ext e2
 rw[List.append_assoc]at i2 v1' v2 e2
 rw[List.append_assoc]at i2 r2
 have r1':=r1.app h1
 rw[List.append_assoc]at r1'
 exact ⟨[x]++ρ1,[B]++h1,s,st,xs,mt,i2,Q3Z (VL.cons v1' (VL.one v2)),⟨r1',r2⟩,fun k y hk=>e2 k y (e1 k y hk)⟩
end
section
variable {H:Type} {enc:TypeId×Value->H} {w:World} {base:Nat} {held:Bool}
theorem XTZ {fuel:Nat} {cs:List Value} {x:DataW H×List MemPlace} (h:DataW.trod enc Tryz.prog w base (fun _=>true) held fuel 32 cs=some x):∃v,cs=[v]/\∃xs:List UInt8,Sl w v xs.length ((X0d.cells xs).map AV.val):=by
 obtain ⟨v,h1,ts,h2⟩:=XEE (fun _ cs (c:UInt8)=>cs=(X0d.f c).map AV.val) Tryz.underlying32 (size:=1) (by kernel_rfl) (by decide) (fun fuel cs x hx=>by
  obtain ⟨n,rfl,hw⟩:=zej Tryz.underlying5 hx
  exact ⟨UInt8.ofInt n,by rw[Q2d hw];rfl⟩) h
 exact ⟨v,h1,ts,RdL.row (r:=X0d) h2⟩
theorem Jg2 {fuel:Nat} {cs:List Value} {x:DataW H×List MemPlace} (h:DataW.trod enc Tryz.prog w base (fun _=>true) held fuel 102 cs=some x):RawG w cs ():=by
 cases fuel with
 | zero=>cases h
 | succ fuel =>
  obtain ⟨hl,he⟩:=YuU Tryz.underlying102 h
  have hl2:cs.length=2:=hl.trans (by kernel_rfl)
  simp only[List.forall_mem_cons]at he
  obtain ⟨⟨y0,h0⟩,⟨y1,h1⟩,_⟩:=he
  rw[(by kernel_rfl:Tryz.prog.cellsOf 9=1)]at h0
  rw[(by kernel_rfl:Tryz.prog.cellsOf 51=1)]at h1
  obtain ⟨p,e0,_⟩:=JIz Tryz.underlying9 h0
  obtain ⟨v,e1,s1⟩:=zKi h1
  match cs,hl2 with
  | [a,b],_ =>
   have e0':[a]=_:=e0
   have e1':[b]=_:=e1
   cases e0'
   cases e1'
   exact ⟨_,_,rfl,s1⟩
theorem KOB {fuel:Nat} {cs:List Value} {x:DataW H×List MemPlace} (h:DataW.trod enc Tryz.prog w base (fun _=>true) held fuel 100 cs=some x):RawR w cs ():=by
 cases fuel with
 | zero=>cases h
 | succ fuel =>
  obtain ⟨hl,he⟩:=YuU Tryz.underlying100 h
  have hl2:cs.length=3:=hl.trans (by kernel_rfl)
  simp only[List.forall_mem_cons]at he
  obtain ⟨⟨y0,h0⟩,⟨y1,h1⟩,⟨y2,h2⟩,_⟩:=he
  rw[(by kernel_rfl:Tryz.prog.cellsOf 9=1)]at h0
  rw[(by kernel_rfl:Tryz.prog.cellsOf 98=1)]at h1
  rw[(by kernel_rfl:Tryz.prog.cellsOf 51=1)]at h2
  obtain ⟨p,e0,_⟩:=JIz Tryz.underlying9 h0
  obtain ⟨v,e1,ts,s1⟩:=XEE RawG Tryz.underlying98 (size:=2) (by kernel_rfl) (by decide) (fun fuel cs x hx=>⟨(),Jg2 hx⟩) h1
  obtain ⟨u,e2,s2⟩:=zKi h2
  match cs,hl2 with
  | [a,b,c],_ =>
   have e0':[a]=_:=e0
   have e1':[b]=_:=e1
   have e2':[c]=_:=e2
   cases e0'
   cases e1'
   cases e2'
   exact ⟨_,_,_,rfl,⟨ts,s1⟩,s2⟩
theorem Xvh {fuel:Nat} {cs:List Value} {x:DataW H×List MemPlace} (h:DataW.trod enc Tryz.prog w base (fun _=>true) held fuel 25 cs=some x):∃a b,cs=[a,b]/\(∃xs:List Int,Sl w a xs.length ((intR.cells xs).map AV.val))/\∃ts:List Unit,RdL RawR 3 w b ts:=by
 cases fuel with
 | zero=>cases h
 | succ fuel =>
  obtain ⟨hl,he⟩:=YuU Tryz.underlying25 h
  have hl2:cs.length=2:=hl.trans (by kernel_rfl)
  simp only[List.forall_mem_cons]at he
  obtain ⟨⟨y0,h0⟩,⟨y1,h1⟩,_⟩:=he
  rw[(by kernel_rfl:Tryz.prog.cellsOf 22=1)]at h0
  rw[(by kernel_rfl:Tryz.prog.cellsOf 23=1)]at h1
  obtain ⟨v,e0,s0⟩:=K3I h0
  obtain ⟨u,e1,ts,s1⟩:=XEE RawR Tryz.underlying23 (size:=3) (by kernel_rfl) (by decide) (fun fuel cs x hx=>⟨(),KOB hx⟩) h1
  match cs,hl2 with
  | [a,b],_ =>
   have e0':[a]=_:=e0
   have e1':[b]=_:=e1
   cases e0'
   cases e1'
   exact ⟨_,_,rfl,s0,ts,s1⟩
end
end
end Go.Proofs.YtekeoichmdiiiaaGreat
