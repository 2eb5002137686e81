/- Part 24 of what the laws' proofs rest on. No condition. -/
import Derived.Shelf.SlSortCmp.NoneTotal
import Derived.Test.YtebcngelgdpbjaaGreatGq23
set_option linter.all false
namespace Go.Proofs.YtebcngelgdpbjaaGreat
section
open Go.Shelf
def JTD:Go.Shelf.Ren:=⟨fun|6=>147|15=>179|14=>199|28=>222|29=>223|20=>236|21=>237|22=>238|23=>239|24=>240|25=>241|26=>242|27=>243|46=>259|47=>251|48=>252|49=>260|50=>261|57=>270|n=>n,fun|22=>51|24=>47|25=>131|3=>3|39=>219|0=>0|53=>264|55=>266|4=>4|46=>258|45=>257|50=>198|5=>5|9=>9|66=>278|70=>282|76=>290|77=>291|n=>n,fun|n=>n⟩
theorem qwl:Go.Proofs.SlLaysF0.n6 Tryz.prog JTD:={
 mixed:=by kernel_rfl
 f6:=⟨Tryz.f147.name,by decide,Tryz.func147.trans (congrArg some (by kernel_rfl))⟩
 f14:=⟨Tryz.f199.name,by decide,Tryz.func199.trans (congrArg some (by kernel_rfl))⟩
 f15:=Tryz.func179.trans (congrArg some (by kernel_rfl))
 f20:=⟨Tryz.f236.name,by decide,Tryz.func236.trans (congrArg some (by kernel_rfl))⟩
 f21:=⟨Tryz.f237.name,by decide,Tryz.func237.trans (congrArg some (by kernel_rfl))⟩
 f22:=⟨Tryz.f238.name,by decide,Tryz.func238.trans (congrArg some (by kernel_rfl))⟩
 f23:=⟨Tryz.f239.name,by decide,Tryz.func239.trans (congrArg some (by kernel_rfl))⟩
 f24:=⟨Tryz.f240.name,by decide,Tryz.func240.trans (congrArg some (by kernel_rfl))⟩
 f25:=⟨Tryz.f241.name,by decide,Tryz.func241.trans (congrArg some (by kernel_rfl))⟩
 f26:=⟨Tryz.f242.name,by decide,Tryz.func242.trans (congrArg some (by kernel_rfl))⟩
 f27:=⟨Tryz.f243.name,by decide,Tryz.func243.trans (congrArg some (by kernel_rfl))⟩
 f28:=Tryz.func222.trans (congrArg some (by kernel_rfl))
 f29:=Tryz.func223.trans (congrArg some (by kernel_rfl))
 f46:=⟨Tryz.f259.name,by decide,Tryz.func259.trans (congrArg some (by kernel_rfl))⟩
 f47:=Tryz.func251.trans (congrArg some (by kernel_rfl))
 f48:=Tryz.func252.trans (congrArg some (by kernel_rfl))
 f49:=⟨Tryz.f260.name,by decide,Tryz.func260.trans (congrArg some (by kernel_rfl))⟩
 f50:=⟨Tryz.f261.name,by decide,Tryz.func261.trans (congrArg some (by kernel_rfl))⟩
 f57:=⟨Tryz.f270.name,by decide,Tryz.func270.trans (congrArg some (by kernel_rfl))⟩
 t0:=Tryz.underlying0
 a0:=Tryz.isAgg0
 z0:=Tryz.sizeOf0
 v0:=Tryz.zeroValue0
 t3:=Tryz.underlying3
 a3:=Tryz.isAgg3
 z3:=Tryz.sizeOf3
 v3:=Tryz.zeroValue3
 t4:=Tryz.underlying4
 a4:=Tryz.isAgg4
 z4:=Tryz.sizeOf4
 v4:=Tryz.zeroValue4
 t5:=Tryz.underlying5
 a5:=Tryz.isAgg5
 z5:=Tryz.sizeOf5
 v5:=Tryz.zeroValue5
 t9:=Tryz.underlying9
 a9:=Tryz.isAgg9
 z9:=Tryz.sizeOf9
 v9:=Tryz.zeroValue9
 t22:=Tryz.underlying51
 a22:=Tryz.isAgg51
 z22:=Tryz.sizeOf51
 v22:=Tryz.zeroValue51
 t25:=Tryz.underlying131
 a25:=Tryz.isAgg131
 z25:=Tryz.sizeOf131
 v25:=Tryz.zeroValue131
 t39:=Tryz.underlying219
 a39:=Tryz.isAgg219
 z39:=Tryz.sizeOf219
 v39:=Tryz.zeroValue219
 t45:=Tryz.underlying257
 a45:=Tryz.isAgg257
 z45:=Tryz.sizeOf257
 v45:=Tryz.zeroValue257
 t46:=Tryz.underlying258
 a46:=Tryz.isAgg258
 z46:=Tryz.sizeOf258
 v46:=Tryz.zeroValue258
 t50:=Tryz.underlying198
 a50:=Tryz.isAgg198
 z50:=Tryz.sizeOf198
 v50:=Tryz.zeroValue198
 t53:=Tryz.underlying264
 a53:=Tryz.isAgg264
 z53:=Tryz.sizeOf264
 v53:=Tryz.zeroValue264
 t55:=Tryz.underlying266
 a55:=Tryz.isAgg266
 z55:=Tryz.sizeOf266
 v55:=Tryz.zeroValue266
 t66:=Tryz.underlying278
 a66:=Tryz.isAgg278
 z66:=Tryz.sizeOf278
 v66:=Tryz.zeroValue278
 t70:=Tryz.underlying282
 a70:=Tryz.isAgg282
 z70:=Tryz.sizeOf282
 v70:=Tryz.zeroValue282
 t76:=Tryz.underlying290
 a76:=Tryz.isAgg290
 z76:=Tryz.sizeOf290
 v76:=Tryz.zeroValue290
 t77:=Tryz.underlying291
 a77:=Tryz.isAgg291
 z77:=Tryz.sizeOf291
 v77:=Tryz.zeroValue291 }
end
section
open Go.RowKit Go.Shelf Go.Sort
variable {P:Program} {α:Type} {r:Row α}
def Cmps (P:Program) (g:Nat) (r:Row α) (cf:α->α->Int):Prop:=∀x y (h:List AB),FnC P g [.ag (r.f x),.ag (r.f y)] h (.i .i64 (cf x y)) h
def Row.enc (r:Row α) (x:α):List Value:=(r.f x).map AV.val
theorem Cmps.lays [Inhabited α] {g:Nat} {cf:α->α->Int} (hc:Cmps P g r cf) (hfl:∀x,∀a∈r.f x,a.fl=true) (blk off size:Nat) (w:World):CmpLays P g #[] r.enc r.sz cf blk off size w:=by
 intro m os dk _ x y
 generalize sortWorldK r.enc r.sz w blk off m dk os=W
 have hv:VL [] [.ag (r.f x),.ag (r.f y)] #[.agg (r.enc x).toArray,.agg (r.enc y).toArray]:=
  VL.cons (q2N (YM6 [] _ (hfl x))) (VL.one (q2N (YM6 [] _ (hfl y))))
 rw[Array.append_empty]
 refine ((hc x y []).2 [] W _ (In.nil (K:=KC P) W).rel hv).mono ?_
 rintro e w' ⟨v',ρ',rfl,hva,_,heff⟩
 cases hva
 have hdr:W.drawn<=w'.drawn:=heff.output.2
 refine ⟨rfl,w'.drawn-W.drawn,w'.heap.extract W.heap.size w'.heap.size,?_⟩
 have hkeep:∀b,b<W.heap.size->w'.heap[b]?=W.heap[b]?:=fun b hb=>heff.keep b hb fun ⟨i,B,o,h1,_⟩=>by simp at h1
 have hheap:w'.heap=W.heap++w'.heap.extract W.heap.size w'.heap.size:=by
  apply Array.ext_getElem?
  intro b
  by_cases hb:b<W.heap.size
  ·rw[hkeep b hb,Array.getElem?_append_left hb]
  ·have:=heff.size
   rw[Array.getElem?_append_right (by omega),Array.getElem?_extract]
   split
   ·congr 1;omega
   ·rw[Array.getElem?_eq_none];omega
 have hos:=heff.os
 have htape:=heff.tape
 have hout:=heff.output
 obtain ⟨hp,tp,dr,os',ou⟩:=w'
 simp only at hheap hos htape hout
 have hdr2:W.drawn<=dr:=hdr
 simp only[Go.Sort.grow,World.drewN,World.mk.injEq]
 exact ⟨hheap,htape,by omega,hos,hout.1⟩
theorem JlQ [Inhabited α] (l:List α):flatK r.enc r.sz l.toArray=((r.cells l).map AV.val).toArray:=by
 have hs:(flatK r.enc r.sz l.toArray).size=l.length*r.sz:=by simp
 refine ext_get! (by rw[hs];simp [r.cells_len]) fun t ht=>?_
 rw[hs]at ht
 have hpos:=r.pos
 have hdiv:t / r.sz<l.length:=(Nat.div_lt_iff_lt_mul hpos).2 ht
 have hmod:t % r.sz<r.sz:=Nat.mod_lt _ hpos
 have hg:=r.cells_get l (t / r.sz) (t % r.sz) hdiv hmod
 rw[Nat.mul_comm,Nat.div_add_mod]at hg
 rw[get_flatK _ _ _ _ (by simpa using ht)]
 have hlt:t % r.sz<(r.f (l.getD (t / r.sz) r.d)).length:=by rw[r.len];exact hmod
 have e1:l.toArray[t / r.sz]! = l.getD (t / r.sz) r.d:=by
  rw[getElem!_pos _ _ (by simpa using hdiv),List.getD_eq_getElem?_getD,List.getElem?_eq_getElem hdiv]
  simp
 rw[e1]
 have htl:t<(r.cells l).length:=by rw[r.cells_len];exact ht
 rw[List.getElem?_eq_getElem htl,List.getElem?_eq_getElem hlt]at hg
 simp only[Option.some.injEq]at hg
 rw[getElem!_pos _ _ (by simpa [Row.enc] using hlt),getElem!_pos _ _ (by simpa using htl)]
 simp only[Row.enc,List.getElem_map,List.getElem_toArray,hg]
theorem Rel.grown {K:Code->CC->Prop} {ρ:Mp} {h:List AB} {w:World} (i:Rel K ρ h w) (os:Array Obj):Rel K ρ h (Go.Sort.grow w os)/\Eff ρ h w ρ h (Go.Sort.grow w os):=by
 have hk:∀b,b<w.heap.size->(Go.Sort.grow w os).heap[b]?=w.heap[b]?:=fun b hb=>by
  simp only[Go.Sort.grow]
  rw[Array.getElem?_append_left hb]
 exact i.to ⟨i.len,fun j B b o n h1 h2=>(i.blk j B b o n h1 h2).same (Ext.refl _) fun hl=>hk b ((i.blk j B b o n h1 h2).lt hl),i.sep⟩ ⟨rfl,rfl,⟨rfl,Nat.le_refl _⟩,by simp [Go.Sort.grow],fun b hb _=>hk b hb,fun _ q=>.inl q,fun _ _ q=>.inl q⟩
theorem Yrb {ρ:Mp} {id off len cap:Nat} {k:Option Nat} {v:Value} (e:VR ρ (.sl id off len cap k) v) (h:len≠0) :
  ∃b o n cap',ρ[id]?=some (b,o,n)/\v=.slice (some ⟨b,o+off,none⟩) len cap'/\len<=cap/\cap<=cap'/\cap'<=maxLen/\(∀z,k=some z->z≠0->o+off+cap'*z<=n):=by
 cases e with
 | sl id off len cap k b o n cap' hρ h1 h2 h3 h4 h5=>exact ⟨b,o,n,cap',hρ,rfl,h1,h2,h3,h5⟩
 | sz id off a c hc hn=>exact absurd rfl h
theorem z9V {ρ:Mp} {id off len cap:Nat} {k:Option Nat} {v:Value} (e:VR ρ (.sl id off len cap k) v) (h:len=0):∃a c,v=.slice a 0 c:=by
 cases e with
 | sl id off len cap k b o n cap' hρ h1 h2 h3 h4 h5=>subst h;exact ⟨_,_,rfl⟩
 | sz id off a c hc hn=>exact ⟨_,_,rfl⟩
theorem Zgb {ρ:Mp} {g:Nat} {v:Value} (e:VR ρ (.f (.func g) [] []) v):v=.func (.func g) #[] #[]:=by
 cases e with
 | f fn fst cap fst' cap' h0 h1 _ _ =>
  have e1:fst' = #[]:=Array.eq_empty_of_size_eq_zero h0.symm
  have e2:cap' = #[]:=Array.eq_empty_of_size_eq_zero h1.symm
  rw[e1,e2]
theorem ZPZ {ρ:Mp} {a b:AV} {vals:Array Value} (h:VL ρ [a,b] vals):∃x y,vals = #[x,y]/\VR ρ a x/\VR ρ b y:=by
 obtain ⟨hs,hv⟩:=h
 obtain ⟨l⟩:=vals
 match l,hs with
 | [x,y],_=>exact ⟨x,y,rfl,hv 0 a x rfl rfl,hv 1 b y rfl rfl⟩
theorem YyR (h:List AB) (i:Nat) (B:AB) (e:h[i]?=some B):h.set i B=h:=by
 apply List.ext_getElem?
 intro j
 rw[List.getElem?_set]
 split
 ·rename_i hij
  subst hij
  split
  ·exact e.symm
  ·rename_i hlt
   exact absurd (List.getElem?_eq_some_iff.1 e).1 hlt
 ·rfl
theorem zX5 [Inhabited α] {N:Ren} (L:SlLaysF0.n6 P N) (aE:∀w,(isAgg (N.t 24)).run P w=.ok true w) (zE:∀w,(Go.sizeOf (N.t 24)).run P w=.ok r.sz w) {cf:α->α->Int} (hO:SWO (ltOf cf))
  (hT:∀x y,(ltOf cf) x y=false->(ltOf cf) y x=false->x=y) {g:Nat} (hc:Cmps P g r cf) (hfl:∀x,∀a∈r.f x,a.fl=true) (h1:∀x,∀v∈r.enc x,v.oneCell'=true)
  {h:List AB} {id:Nat} (l:List α) (hb:h[id]?=some (resB r true l)) (hl:l.length<=1000000) :
  FnC P (N.f 6) [rsl r id l,.f (.func g) [] []] h (.tu []) (h.set id (resB r true (l.mergeSort fun x y=>!(ltOf cf) y x))):=by
 obtain ⟨nm,hnm,hf⟩:=L.f6
 refine ⟨⟨_,_,hf,by simpa using hnm,rfl⟩,fun ρ w vals hr hv=>?_⟩
 obtain ⟨v,f,rfl,hv1,hv2⟩:=ZPZ hv
 have:=Zgb hv2
 subst this
 by_cases h0:l.length=0
 ·have:l=[]:=List.eq_nil_of_length_eq_zero h0
  subst this
  simp only[rsl,List.length_nil,if_true]at hv1
  obtain ⟨a,c,rfl⟩:=z9V hv1 rfl
  refine (AnyF.slices_SortFunc_none L a c _ w).mono ?_
  rintro e w' ⟨rfl,rfl⟩
  rw[List.mergeSort_nil,YyR h id _ hb]
  exact ⟨_,ρ,rfl,.tu [] #[] rfl fun j a c q=>by simp at q,hr,EffP.refl _ _ _ _⟩
 ·simp only[rsl,if_neg h0]at hv1
  obtain ⟨b,o,n,cap',hρ,rfl,_,hlc,hcm,hcap⟩:=Yrb hv1 h0
  have hB:=hr.blk id _ b o n hb hρ
  simp only[resB,if_neg h0,BR]at hB
  obtain ⟨cs,e,fz,hheap,hm,hlen,hcells⟩:=hB
  obtain ⟨hfz,hn⟩:=hm trivial
  have hblk:b<w.heap.size:=(Array.getElem?_eq_some_iff.1 hheap).1
  have hall:∀a∈r.cells l,a.fl=true:=fun a ha=>by
   obtain ⟨x,_,hx⟩:=List.mem_flatMap.1 ha
   exact hfl x a hx
  have hH:HoldsK r.enc r.sz w b o l.toArray:=by
   unfold HoldsK
   rw[JlQ]
   intro j hj
   have hj':j<(r.cells l).length:=by simpa using hj
   have hoj:o+j<cs.size:=by omega
   refine ⟨?_,?_⟩
   ·unfold World.cell?
    simp only[hheap]
    have hv:=hcells j _ _ (List.getElem?_eq_getElem hj') (Array.getElem?_eq_getElem hoj)
    rw[getElem!_pos (((r.cells l).map AV.val).toArray) j hj]
    simp only[Option.isSome_none,Bool.false_eq_true,if_false,Array.getElem?_eq_getElem hoj,Option.some.injEq,List.getElem_toArray,List.getElem_map,id_eq]
    exact ZFP (hall _ (List.getElem_mem hj')) hv
   ·obtain ⟨lo,hi'⟩:=fz
    unfold World.frozen?
    simp only[hheap,Bool.and_eq_false_iff,decide_eq_false_iff_not]
    simp only at hfz
    omega
  obtain ⟨⟨gf,gb,hg1,hg2,hg3⟩,_⟩:=hc r.d r.d []
  have eg:∀args w,(callFunc g args).run P w=.ok (.enter g args) w:=fun args w=>by simp [callFunc,hg1,hg2,hg3]
  have hC:=AnyQ.slices_SortFunc_total L r.sz aE zE r.enc (fun x=>by simp [Row.enc,r.len]) h1 cf hO g #[] b o cap' l.toArray w eg (hc.lays hfl b o l.toArray.size w) hH hblk (by simp;omega) hT
  refine Calls.mono (show Calls P (N.f 6) #[.slice (some ⟨b,o+0,none⟩) l.length cap',.func (.func g) #[] #[]] w _ from hC) ?_
  rintro e w' ⟨rfl,n',os,rfl⟩
  rw[List.toList_toArray]
  generalize hl':(l.mergeSort fun x y=>!(ltOf cf) y x)=l'
  have hll:l'.length=l.length:=by rw[<-hl',List.length_mergeSort]
  have h0':¬l'.length=0:=by omega
  have hall':∀a∈r.cells l',a.fl=true:=fun a ha=>by
   obtain ⟨x,_,hx⟩:=List.mem_flatMap.1 ha
   exact hfl x a hx
  have hcl:(r.cells l').length=(r.cells l).length:=by rw[r.cells_len,r.cells_len,hll]
  have hW:sortWorldK r.enc r.sz w b o n' l'.toArray os=Go.Sort.grow (mapBlock (Go.Sort.ahead w n') b (putCells _root_.id o ((r.cells l').map AV.val).toArray)) os:=by
   unfold sortWorldK putRowK putRow
   rw[JlQ]
  rw[hW]
  have hput:=hr.put (w':=mapBlock (Go.Sort.ahead w n') b (putCells _root_.id o ((r.cells l').map AV.val).toArray)) hb (by simp [resB,h0,AB.mut]) hρ (B':=resB r true l') (by
   simp only[resB,if_neg h0',BR]
   refine ⟨putCells _root_.id o ((r.cells l').map AV.val).toArray cs,e,fz,?_,fun _=>⟨by simpa [putCells] using hfz,by simp [putCells];exact hn⟩,by simp [putCells,hcl];exact hlen,fun k a c ha hc'=>?_⟩
   ·simp only[mapBlock,Go.Sort.ahead,Array.getElem?_modify,if_true,hheap,Option.map_some,onCells]
   ·have hk:=(List.getElem?_eq_some_iff.1 ha).1
    have hok:o+k<cs.size:=by omega
    have hka:a=(r.cells l')[k]:=(List.getElem?_eq_some_iff.1 ha).2.symm
    simp only[putCells,Array.getElem?_mapIdx,Array.getElem?_eq_getElem hok,Option.map_some]at hc'
    rw[if_pos (by constructor <;> simp <;> omega)]at hc'
    simp only[Option.some.injEq,id_eq,Nat.add_sub_cancel_left]at hc'
    rw[getElem!_pos (((r.cells l').map AV.val).toArray) k (by simpa using hk)]at hc'
    simp only[List.getElem_toArray,List.getElem_map]at hc'
    subst hka
    rw[<-hc']
    exact Ybm _ (hall' _ (List.getElem_mem hk))) rfl rfl ⟨rfl,Nat.le_add_right _ _⟩ (by simp [mapBlock,Go.Sort.ahead]) (fun k hk=>by
   simp only[mapBlock,Go.Sort.ahead,Array.getElem?_modify]
   rw[if_neg (fun q=>hk q.symm)]) (fun _=>by simp [resB,h0,AB.live])
  have hgrow:=hput.1.grown os
  exact ⟨_,ρ,rfl,.tu [] #[] rfl fun j a c q=>by simp at q,hgrow.1,(hput.2.trans hgrow.2).p (Ext.refl _) (by rw[hr.len];exact Nat.le_refl _)⟩
end
section
open Go.Sort
set_option maxRecDepth 100000
set_option maxHeartbeats 4000000
theorem Z7A:Spec Tryz.prog 90 Jmy:=by
 intro args h v h' e
 unfold Jmy at e
 split at e
 ·rename_i a b c d
  cases e
  refine FnAt.c (FnAt.frz0 fun hz=>?_)
  generalize h.map AB.freeze=h at *
  refine FnAt.run (by kernel_rfl) (T:=⟨[⟨149,ZG9,fun _=>[]⟩,⟨58,T_Or,fun _=>[]⟩],[]⟩) ⟨⟨X4L,Jm5,trivial⟩,trivial⟩ Tryz.func90 sw90 fun ho hh=>?_
  unfold w90
  simp only[QhU,YqB,z16,qdd,Xq6,simprocAttr,CO.tmps,Opd.tmps,optT,ZG9,T_Or,XUr hh,qDR hz]
  exact Bt.dropI _ hh (by simp only[orI,cmpD];by_cases h1:cmpI a c=0 <;> by_cases h2:cmpI b d=0 <;> simp [h1,h2])
 ·cases e
theorem ZnW:SWO (ltOf cmpD):=⟨fun x=>by
  unfold ltOf
  rw[decide_eq_false_iff_not,YtW]
  exact JW8 x,fun x y z h1 h2=>by
  unfold ltOf at *
  rw[decide_eq_true_eq,YtW]at *
  exact q5V h1 h2,fun x y z h1 h2=>by
  unfold ltOf at *
  rw[decide_eq_false_iff_not,YtW]at *
  intro h3
  rcases YZu x y with q|q|q
  ·exact h1 q
  ·subst q;exact h2 h3
  ·exact h2 (q5V q h3)⟩
theorem z1c (x y:Int×Int) (h1:ltOf cmpD x y=false) (h2:ltOf cmpD y x=false):x=y:=by
 unfold ltOf at *
 rw[decide_eq_false_iff_not,YtW]at *
 rcases YZu x y with q|q|q
 ·exact absurd q h1
 ·exact q
 ·exact absurd q h2
theorem qs9:Cmps Tryz.prog 90 dotR cmpD:=fun x y h=>Z7A _ _ _ _ (by rw[zBU,zBU];rfl)
theorem Jt6 (x:Int×Int):∀v∈dotR.enc x,v.oneCell'=true:=fun v hv=>by
 simp only[Row.enc,zBU,List.map_cons,List.map_nil,AV.val,List.mem_cons,List.not_mem_nil,or_false]at hv
 rcases hv with rfl|rfl <;> rfl
theorem JAQ {h:List AB} {id:Nat} (l:Dots) (hb:h[id]?=some (resB dotR true l)) (hl:l.length<=1000000):FnC Tryz.prog 147 [rsl dotR id l,.f (.func 90) [] []] h (.tu []) (h.set id (resB dotR true (srtD l))):=
 zX5 (r:=dotR) qwl Tryz.isAgg47 Tryz.sizeOf47 ZnW z1c qs9 KGc Jt6 l hb hl
def cX (h:List AB) (l:List ((Int×Int)×AV)):AV->List AB->Prop:=fun a h'=>∃o:List (Int×Int),o.Perm (l.map (·.1))/\a=apS dotR h.length o/\h'=h++[resB dotR true o]
theorem KQ3 {h:List AB} {j mid:Nat} {m:Bool} {l:List ((Int×Int)×AV)} (b1:ZMh h j=some [.m mid]) (hm:h[mid]?=some (mpB dotK m l)) (hl:l.length<=100000) :
  FnAtS Tryz.prog 198 [.ns,.f (.func 148) [] [.p j 0]] h (cX h l):=by
 refine FnAtS.run (by kernel_rfl) (T:=⟨[],[]⟩) ⟨trivial,trivial⟩ Tryz.func198 q1e fun ho hh=>?_
 simp only[XDA,Bool.and_eq_true]at ho
 have uf:=JZZ hh b1 hm hl _ ho.2.1
 unfold w198
 simp only[QhU,YqB,z16,Xq6,simprocAttr]
 refine qGR rfl (by simp only[z16,Xq6,simprocAttr]) rfl (by simp only[z16,Xq6,simprocAttr];rfl) uf fun v h2 hx=>?_
 obtain ⟨rfl,o,hp,rfl⟩:=hx
 refine ⟨.ready,_,_,_,_,by rw[qu4];rfl,by decide,?_⟩
 simp only[kFr,z16,Xq6,simprocAttr,zMi,zOX]
 have ao:(apS dotR h.length o).ok (fun i=>decide (i<h.length+1))=true:=Yv9 _ _ _ (by simp)
 exact ⟨apS dotR (h.length+2) o,apS dotR h.length o,_,rfl,Bt.sel [2] hh (by decide) (by simp only[KlC,FrSel,BlkSel,AV.ren,renL,AV.ok,okL,Option.some.injEq,exists_eq_left',List.length_cons,List.length_nil,Nat.reduceAdd,Nat.reduceLT,reduceCtorEq,implies_true,exists_eq']) (by simp only[KlC,FrSel,BlkSel,AV.ren,renL,AV.ok,okL,Option.some.injEq,exists_eq_left',List.length_cons,List.length_nil,Nat.reduceAdd,Nat.reduceLT,reduceCtorEq,implies_true,exists_eq',ao]),o,hp,rfl,rfl⟩
end
section
set_option maxRecDepth 100000
set_option maxHeartbeats 4000000
theorem AM.pl {P:Program} {p:Nat} {rd:Option Nat} {fn:FuncId} {d:Option Nat} {op:CO} {l:List COper} {k:List CI} {fr:List AV} {h h':List AB} {v:AV} {R:AV->List AB->Prop} (e:op.run (Opd.ev fr) h=some (v,h'))
  (g:AM P p rd fn (.ops l::k) (put fr d v) h' R):AM P p rd fn (.ops (⟨d,none,op⟩::l)::k) fr h R:=AM.op (fun _ _ _ ho hc=>QCH ho hc rfl rfl e) g
theorem FnC.wk {P:Program} {g:Nat} {args args':List AV} {h h':List AB} {a:AV} (e:FnC P g args h a h') (w:WkL args args'):FnC P g args' h a h':=⟨e.1,fun ρ w0 vals hr hv=>e.2 ρ w0 vals hr (WkL.vl w hv)⟩
abbrev keyF (j:Nat):AV:=.f (.func 148) [] [.p j 0]
theorem JIm {h:List AB} {j mid:Nat} {m:Bool} {l:List ((Int×Int)×AV)} (b1:ZMh h j=some [.m mid]) (hm:h[mid]?=some (mpB dotK m l)) (hl:l.length<=100000) :
  FnAtS Tryz.prog 146 [keyF j] h (cX h l):=by
 obtain ⟨_,body,hb,hcb,hres,_⟩:=XGs XhN
 refine ⟨_,w146,Tryz.func146,XhN,?_⟩
 unfold w146
 refine AM.go rfl (AM.go rfl (AM.pl rfl (AM.go rfl (AM.go rfl (AM.go rfl (AM.pl rfl (AM.callS rfl (KQ3 b1 hm hl) fun v h' hx=>?_)))))))
 exact AM.pl rfl (AM.go rfl (AM.ret Tryz.func146 hres rfl hx))
theorem Qr9 {α:Type} {r:Row α} (id:Nat) {l l':List α} (e:l.length=l'.length):apS r id l=apS r id l':=by
 unfold apS
 rw[e]
theorem KI5 {o l:Dots} (e:o.Perm l):srtD o=srtD l:=by
 have tr:∀(a b c:Int×Int),(!(decide (cmpD b a<0)))=true->(!(decide (cmpD c b<0)))=true->(!(decide (cmpD c a<0)))=true:=fun a b c h1 h2=>by
  simp only[Bool.not_eq_true',decide_eq_false_iff_not,YtW]at *
  intro h3
  rcases YZu b a with q|q|q
  ·exact h1 q
  ·subst q;exact h2 h3
  ·exact h2 (q5V h3 q)
 have to:∀(a b:Int×Int),((!(decide (cmpD b a<0)))||(!(decide (cmpD a b<0))))=true:=fun a b=>by
  by_cases h1:cmpD b a<0
  ·have h2:¬cmpD a b<0:=fun h2=>JW8 a (q5V ((YtW _ _).1 h2) ((YtW _ _).1 h1))
   simp [h2]
  ·simp [h1]
 refine List.Perm.eq_of_pairwise (le:=fun a b=>(!(decide (cmpD b a<0)))=true) (fun a b _ _ h1 h2=>?_) (List.pairwise_mergeSort tr to o) (List.pairwise_mergeSort tr to l) (((QL5 o).trans e).trans (QL5 l).symm)
 simp only[Bool.not_eq_true',decide_eq_false_iff_not,YtW]at h1 h2
 rcases YZu a b with q|q|q
 ·exact absurd q h2
 ·exact q
 ·exact absurd q h1
def Zob (l:List ((Int×Int)×AV)):Dots:=srtD (l.map (·.1))
theorem Yey {h:List AB} {j mid:Nat} {m:Bool} {l:List ((Int×Int)×AV)} (b1:ZMh h j=some [.m mid]) (hm:h[mid]?=some (mpB dotK m l)) (hl:l.length<=100000) :
  FnAt Tryz.prog 88 [keyF j,.f (.func 90) [] []] h (apS dotR h.length (Zob l)) (h++[resB dotR true (Zob l)]):=by
 obtain ⟨_,body,hb,hcb,hres,_⟩:=XGs sw88
 refine FnAtS.one (X:=fun a' h''=>a'=apS dotR h.length (Zob l)/\h''=h++[resB dotR true (Zob l)]) ⟨_,w88,Tryz.func88,sw88,?_⟩ fun _ _ e=>e
 unfold w88
 refine AM.go rfl (AM.go rfl (AM.pl rfl (AM.go rfl (AM.go rfl (AM.go rfl (AM.pl rfl (AM.callS rfl (JIm b1 hm hl) fun v h' hx=>?_)))))))
 obtain ⟨o,hp,rfl,rfl⟩:=hx
 have hlo:o.length=l.length:=by rw[hp.length_eq,List.length_map]
 have hs:FnC Tryz.prog 147 [apS dotR h.length o,.f (.func 90) [] []] (h++[resB dotR true o]) (.tu []) (h++[resB dotR true (srtD o)]):=by
  have:=JAQ (h:=h++[resB dotR true o]) (id:=h.length) o (by rw[List.getElem?_append_right (Nat.le_refl _),Nat.sub_self];rfl) (by omega)
  rw[List.set_append_right _ _ (Nat.le_refl _),Nat.sub_self]at this
  exact this.wk ⟨XId _ _,Wk.refl _,trivial⟩
 refine AM.pl rfl (AM.go rfl (AM.go rfl (AM.go rfl (AM.pl rfl (AM.pl rfl (AM.op (fun ops i o' ho hc=>Z5V ho hc rfl rfl rfl rfl hs) ?_))))))
 refine AM.go rfl (AM.go rfl (AM.go rfl (AM.pl rfl (AM.pl rfl (AM.go rfl (AM.ret Tryz.func88 hres rfl ?_))))))
 refine ⟨Qr9 _ ?_,?_⟩
 ·rw[Zob,Qv5,List.length_map];exact hlo
 ·rw[Zob,KI5 hp]
end
section
set_option maxRecDepth 100000
set_option maxHeartbeats 4000000
theorem emG (p:Prop):p=True\/p=False:=Classical.propComplete p
def atV (l:List Int) (r:Int):Int:=if r<1\/(l.length:Int)<r then 0 else max (l.getD (r-1).toNat 0) 0
noncomputable def J1t:List AV->List AB->Option (AV×List AB)
 | [s,.i .i64 r],h=>(getS intR h s).bind fun l=>some (.i .i64 (atV l r),h)
 | _,_=>none
theorem K0x:Spec Tryz.prog 93 J1t:=by
 intro args h v h' e
 unfold J1t at e
 split at e
 ·rename_i s r
  obtain ⟨l,hs,e⟩:=zZy e
  cases e
  refine FnAt.c (FnAt.run (by kernel_rfl) (T:=⟨[],[]⟩) ⟨trivial,trivial⟩ Tryz.func93 sw93 fun ho hh=>?_)
  simp only[XDA,Bool.and_eq_true]at ho
  have f1:=hs.fx ho.1 (sz:=1) rfl
  unfold w93
  rcases emG (r<1) with a|a
  ·have hv:atV l r=0:=if_pos (.inl (of_eq_true a))
   rw[hv]
   simp only[QhU,YqB,z16,KHD,Xq6,simprocAttr,CO.tmps,Opd.tmps,optT,f1,a,oD,ne_eq,forall_const]
   exact Bt.drop _ hh rfl rfl
  rcases emG ((l.length:Int)<r) with b|b
  ·have hv:atV l r=0:=if_pos (.inr (of_eq_true b))
   rw[hv]
   simp only[QhU,YqB,z16,KHD,Xq6,simprocAttr,CO.tmps,Opd.tmps,optT,f1,a,b,oD,ne_eq,forall_const]
   exact Bt.drop _ hh rfl rfl
  ·have a':=of_eq_false a
   have b':=of_eq_false b
   have hv:atV l r=max (l.getD (r-1).toNat 0) 0:=if_neg fun z=>z.elim a' b'
   rw[hv]
   have e1:IntKind.i64.wrap (r-1)=r-1:=ZWm (by have:=hs.2;unfold maxLen at this;unfold In64;omega)
   have e2:(0<=r-1/\r-1<(l.length:Int))=True:=eq_true (by omega)
   have e3:((r-1).toNat<l.length)=True:=eq_true (by omega)
   simp only[QhU,YqB,z16,KHD,Xq6,simprocAttr,CO.tmps,Opd.tmps,optT,f1,a,b,e1,e2,e3,Zr0,YsC,zRk,Nat.zero_lt_one,if_true,oD,ne_eq,forall_const]
   exact Bt.drop _ hh rfl rfl
 ·cases e
def vhas (l:List Int) (d:Int×Int):Prop:=1<=d.1/\1<=d.2/\d.2<=atV l d.1
instance (l:List Int) (d:Int×Int):Decidable (vhas l d):=inferInstanceAs (Decidable (_/\_/\_))
noncomputable def qY8:List AV->List AB->Option (AV×List AB)
 | [s,.ag [.i .i64 a,.i .i64 b]],h=>(getS intR h s).bind fun l=>some (.b (decide (vhas l (a,b))),h)
 | _,_=>none
theorem Jbk:Spec Tryz.prog 40 qY8:=by
  intro args h v h' e
  unfold qY8 at e
  split at e
  · rename_i s a b
    obtain ⟨l,hs,e⟩:=zZy e
    cases e
    refine FnAt.c (FnAt.frz0 fun hz=>?_)
    have hs2:=hs.frz
    generalize h.map AB.freeze=h at *
    refine FnAt.run (by kernel_rfl) (T:=⟨[⟨93,J1t,fun _=>[]⟩],[]⟩) ⟨⟨K0x,trivial⟩,trivial⟩ Tryz.func40 sw40 fun ho hh=>?_
    simp only[XDA,Bool.and_eq_true]at ho
    have f1:=hs2.fx ho.1 (sz:=1) rfl
    have g1:∀x,getS intR (h++x) s=some l:=fun x=>(hs2.app x).get
    unfold w40
    rcases emG (1<=a) with q1|q1 <;> rcases emG (1<=b) with q2|q2 <;> rcases emG (b<=atV l a) with q3|q3 <;>
      (simp only[QhU,YqB,z16,KHD,Xq6,simprocAttr,CO.tmps,Opd.tmps,optT,f1,g1,J1t,q1,q2,q3,oW hh hz,oD,ne_eq,forall_const]
       exact Bt.dropB _ hh (by simp [vhas,q1,q2,q3]))
  · cases e
end
section
set_option maxRecDepth 100000
set_option maxHeartbeats 4000000
structure SlA where
 a:AV
 h:a.isSl=true
theorem SlA.ext {x y:SlA} (e:x.a=y.a):x=y:=by
 obtain ⟨a,h⟩:=x
 obtain ⟨b,h'⟩:=y
 obtain rfl:a=b:=e
 rfl
structure EvtA where
 dot:Int×Int
 deps:SlA
 kind:Int
 repo:List UInt8
 tag:List UInt8
 id:Dg
 refs:SlA
def evtF (x:EvtA):List AV:=.i .i64 x.dot.1::.i .i64 x.dot.2::x.deps.a::.i .i64 x.kind::.s x.repo::.s x.tag::(idR.f x.id++[x.refs.a])
def evR:Row EvtA:=⟨evtF,39,fun x=>by simp only[evtF,List.length_cons,List.length_append,idR.len];rfl,by decide,⟨(0,0),⟨.ns,rfl⟩,0,[],[],KDO,⟨.ns,rfl⟩⟩,fun x y e=>by
 obtain ⟨⟨a,a'⟩,b,c,d,f,g,i⟩:=x
 obtain ⟨⟨p,p'⟩,q,r,s,t,u,v⟩:=y
 simp only[evtF,List.cons.injEq,AV.i.injEq,AV.s.injEq,true_and]at e
 obtain ⟨rfl,rfl,e1,rfl,rfl,rfl,e⟩:=e
 have h:=List.append_inj e (by rw[idR.len,idR.len])
 have h1:=idR.inj _ _ h.1
 have h2:=List.cons.inj h.2
 rw[SlA.ext e1,h1,SlA.ext h2.1]⟩
theorem ZxE (x:EvtA):evR.f x=evtF x:=oI rfl
theorem YXj (x:EvtA):(evtF x).length=39:=evR.len x
theorem Zxc (x:EvtA):(evtF x)[0]?=some (.i .i64 x.dot.1)/\(evtF x)[1]?=some (.i .i64 x.dot.2)/\(evtF x)[2]?=some x.deps.a/\(evtF x)[3]?=some (.i .i64 x.kind)/\(evtF x)[4]?=some (.s x.repo)/\(evtF x)[5]?=some (.s x.tag)/\(evtF x)[38]?=some x.refs.a:=by
 refine ⟨rfl,rfl,rfl,rfl,rfl,rfl,?_⟩
 unfold evtF
 simp only[List.getElem?_cons_succ]
 rw[List.getElem?_append_right (by rw[idR.len];decide),idR.len]
 rfl
theorem Q7m (x:EvtA):(evtF x).all (wrOk false)=true:=by
 unfold evtF
 simp only[List.all_cons,List.all_append,List.all_nil]
 have h1:∀s:SlA,wrOk false s.a=true:=fun s=>by
  obtain ⟨a,h⟩:=s
  cases a <;> first|rfl|cases h
 have h2:(idR.f x.id).all (wrOk false)=true:=List.all_eq_true.2 fun a ha=>by
  obtain ⟨b,_,rfl⟩:=List.mem_map.1 ha
  rfl
 simp only[h1,h2,Bool.and_true,Bool.true_and]
 rfl
def SlA.len (s:SlA):Int:=(lenV s.a).getD 0
theorem SlA.lenV (s:SlA):Go.Proofs.YtebcngelgdpbjaaGreat.lenV s.a=some s.len:=by
 obtain ⟨a,h⟩:=s
 cases a <;> first|rfl|cases h
theorem SlA.str (s:SlA):s.a.isStr=false:=q5E s.h
def Jri (x:EvtA):Prop:=20<x.deps.len\/300<x.refs.len\/(200:Int)<x.repo.length\/(200:Int)<x.tag.length
instance (x:EvtA):Decidable (Jri x):=inferInstanceAs (Decidable (_\/_))
open Classical in
noncomputable def getE (a:AV):Option EvtA:=if e:∃y,a=.ag (evtF y) then some e.choose else none
theorem Zz9 (y:EvtA):getE (.ag (evtF y))=some y:=by
 have e:∃z,AV.ag (evtF y)=.ag (evtF z):=⟨y,rfl⟩
 unfold getE
 rw[dif_pos e]
 have h:=e.choose_spec
 rw[AV.ag.injEq]at h
 rw[<-evR.inj _ _ h]
theorem Kc6 {β:Type} {a:AV} {f:EvtA->Option β} {b:β} (e:(getE a).bind f=some b):∃y,a=.ag (evtF y)/\f y=some b:=by
 unfold getE at e
 split at e
 ·rename_i h
  exact ⟨h.choose,h.choose_spec,e⟩
 ·cases e
noncomputable def Qi9:List AV->List AB->Option (AV×List AB)
 | [a],h=>(getE a).bind fun x=>some (.b (decide (Jri x)),h)
 | _,_=>none
theorem Q9R:Spec Tryz.prog 49 Qi9:=by
  intro args h v h' e
  unfold Qi9 at e
  split at e
  · obtain ⟨x,hx,e2⟩:=Kc6 e
    clear e
    subst hx
    cases e2
    refine FnAt.c (FnAt.run (by kernel_rfl) (T:=⟨[],[]⟩) ⟨trivial,trivial⟩ Tryz.func49 sw49 fun ho hh=>?_)
    obtain ⟨a0,a1,a2,a3,a4,a5,a6⟩:=Zxc x
    have w1:=Q7m x
    have l1:=YXj x
    have n1:=x.deps.lenV
    have n2:=x.refs.lenV
    have s1:=x.deps.str
    have s2:=x.refs.str
    have lS:∀l:List UInt8,lenV (.s l)=some (l.length:Int):=fun _=>rfl
    have sS:∀l:List UInt8,(AV.s l).isStr=true:=fun _=>rfl
    have c1:∀l:List AV,(AV.ag l).cells=l:=fun _=>rfl
    unfold w49
    rcases emG (20<x.deps.len) with q1|q1 <;> rcases emG (300<x.refs.len) with q2|q2 <;> rcases emG ((200:Int)<x.repo.length) with q3|q3 <;> rcases emG ((200:Int)<x.tag.length) with q4|q4 <;>
      (simp only[QhU,YqB,z16,KHD,Xq6,simprocAttr,CO.tmps,Opd.tmps,optT,a2,a4,a5,a6,w1,l1,c1,n1,n2,s1,s2,lS,sS,q1,q2,q3,q4,if_true,oD,ne_eq,forall_const]
       exact Bt.dropB _ hh (by simp [Jri,q1,q2,q3,q4]))
  · cases e
end
section
set_option maxRecDepth 100000
set_option maxHeartbeats 4000000
theorem SlA.pos (s:SlA):0<=s.len:=by
 obtain ⟨a,h⟩:=s
 cases a <;> first|(cases h;done)|exact Int.le_refl 0|exact Int.natCast_nonneg _
def lgs (n many:Int):List EvtA->Nat->Int->Bool
 | [],_,refs=>decide (many<n\/400<refs)
 | x::l,i,refs=>if (i:Int)<=many then (if Jri x then true else lgs n many l (i+1) (refs+x.refs.len)) else decide (many<n\/400<refs)
noncomputable def Yvf:List AV->List AB->Option (AV×List AB)
 | [s,.i .i64 many],h=>(getS evR h s).bind fun l=>if 0<=many/\many<=1000 then some (.b (lgs l.length many l 0 0),h) else none
 | _,_=>none
theorem qcF:Spec Tryz.prog 9 Yvf:=by
  intro args h v h' e
  unfold Yvf at e
  split at e
  · rename_i s many
    obtain ⟨l,hs,e⟩:=zZy e
    split at e
    · rename_i hm
      cases e
      refine FnAt.c (FnAt.run (by kernel_rfl) (T:=⟨[⟨49,Qi9,fun _=>[]⟩],[]⟩) ⟨⟨Q9R,trivial⟩,trivial⟩ Tryz.func9 sw9 fun ho hh=>?_)
      simp only[XDA,Bool.and_eq_true]at ho
      have f1:=hs.fx ho.1 (sz:=39) rfl
      unfold w9
      simp only[QhU,YqB,z16,KHD,Xq6,simprocAttr,CO.tmps,Opd.tmps,optT]
      refine zXM (S:=Nat×Int) (fun σ=>l.length-σ.1) (fun σ=>[s,.i .i64 many]++tp 3++[.i .i64 σ.2,.i .i64 (σ.1:Int)]++tp 32) (fun σ=>σ.1<=l.length/\(σ.1:Int)<=many+1/\0<=σ.2/\σ.2<=300*(σ.1:Int)/\lgs l.length many (l.drop σ.1) σ.1 σ.2=lgs l.length many l 0 0) (0,0) ⟨Nat.zero_le _,by dsimp only;omega,Int.le_refl _,by dsimp only;omega,rfl⟩ ?_ fun σ hσ=>?_
      · simp only[tp_0,tp_s,List.cons_append,List.nil_append,K2n,JRI,QoW,Jje,and_true,true_and]
        all_goals exact Wk.refl _
      obtain ⟨i,refs⟩:=σ
      obtain ⟨h1,h2,h3,h4,h5⟩:=hσ
      dsimp only at h1 h2 h3 h4 h5 ⊢
      rw[<-h5]
      by_cases g:i<l.length
      · have g':((i:Int)<(l.length:Int))=True:=eq_true (by omega)
        have hd:=List.drop_eq_getElem_cons g
        have hgd:l.getD i evR.d=l[i]:=by rw[List.getD_eq_getElem?_getD,List.getElem?_eq_getElem g];rfl
        rcases emG ((i:Int)<=many) with c|c
        · have e1:IntKind.i64.wrap ((i:Int)+1)=((i+1:Nat):Int):=ZWm (by unfold In64;omega)
          rw[hd,lgs,if_pos (of_eq_true c)]
          obtain ⟨x,hx⟩:∃x,l[i]=x:=⟨_,rfl⟩
          rw[hx]at hgd hd ⊢
          have n2:=x.refs.lenV
          have s2:=x.refs.str
          have p2:=x.refs.pos
          have a6:=(Zxc x).2.2.2.2.2.2
          rcases emG (Jri x) with q|q
          · rw[if_pos (of_eq_true q)]
            simp only[QhU,YqB,z16,KHD,Xq6,simprocAttr,CO.tmps,Opd.tmps,optT,f1,g,g',c,hgd,ZxE,Qi9,Zz9,q,Option.bind_some,if_true,oD,ne_eq,forall_const]
            exact Bt.dropB _ hh rfl
          · have q':=of_eq_false q
            rw[if_neg q']
            have hr:x.refs.len<=300:=by
              refine Int.not_lt.1 fun z=>q' (.inr (.inl z))
            have e2:IntKind.i64.wrap (refs+x.refs.len)=refs+x.refs.len:=ZWm (by unfold In64;omega)
            have l38:(38<39)=True:=eq_true (by decide)
            simp only[QhU,YqB,z16,KHD,Xq6,simprocAttr,CO.tmps,Opd.tmps,optT,f1,g,g',c,hgd,ZxE,Qi9,Zz9,q,n2,s2,a6,e1,e2,l38,Option.bind_some,if_true,oD,ne_eq,forall_const]
            refine ⟨(i+1,refs+x.refs.len),⟨g,by dsimp only;have:=of_eq_true c;omega,by dsimp only;omega,by dsimp only;omega,rfl⟩,by dsimp only;omega,?_⟩
            simp only[tp_0,tp_s,List.cons_append,List.nil_append,K2n,JRI,QoW,Jje,and_true,true_and]
        · rw[hd,lgs,if_neg (of_eq_false c)]
          rcases emG (many<(l.length:Int)) with q1|q1 <;> rcases emG (400<refs) with q2|q2 <;>
            (simp only[QhU,YqB,z16,KHD,Xq6,simprocAttr,CO.tmps,Opd.tmps,optT,f1,g',c,q1,q2,oD,ne_eq,forall_const]
             exact Bt.dropB _ hh (by simp [q1,q2]))
      · have g':((i:Int)<(l.length:Int))=False:=eq_false (by omega)
        rw[List.drop_eq_nil_of_le (by omega),lgs]
        rcases emG (many<(l.length:Int)) with q1|q1 <;> rcases emG (400<refs) with q2|q2 <;>
          (simp only[QhU,YqB,z16,KHD,Xq6,simprocAttr,CO.tmps,Opd.tmps,optT,f1,g',q1,q2,oD,ne_eq,forall_const]
           exact Bt.dropB _ hh (by simp [q1,q2]))
    · cases e
  · cases e
end
section
set_option maxRecDepth 100000
set_option maxHeartbeats 4000000
def QCf:List AV->List AB->Option (AV×List AB)
 | [.b q,.i .i64 a,.i .i64 b],h=>some (.b (q&&decide (a<=b)),h)
 | _,_=>none
theorem J0A:Spec Tryz.prog 131 QCf:=by
  intro args h v h' e
  unfold QCf at e
  split at e
  · rename_i q a b
    cases e
    refine FnAt.c (FnAt.run (by kernel_rfl) (T:=⟨[],[]⟩) ⟨trivial,trivial⟩ Tryz.func131 zJi fun ho hh=>?_)
    unfold w131
    cases q <;> rcases emG (a<=b) with c|c <;>
      (simp only[QhU,YqB,z16,KHD,Xq6,simprocAttr,CO.tmps,Opd.tmps,optT,c,oD,ne_eq,forall_const]
       exact Bt.dropB _ hh rfl)
  · cases e
def vA:CC:=.seq (.reg 2 [⟨some 7,none,.mv (.t 10)⟩]) (.reg 3 [⟨some 8,none,.mv (.t 11)⟩])
def vB:CC:=.block 1 (.reg 4 [⟨some 12,none,.ld none (.t 5)⟩,⟨some 13,none,.ld none (.t 4)⟩,⟨some 14,none,.mv (.t 7)⟩,⟨some 15,none,.mv (.t 8)⟩,⟨some 16,none,.call (.t 12) [.t 13,.t 14,.t 15]⟩,⟨none,none,.st none (.t 4) (.t 16)⟩])
def vFr (p:Nat) (f:AV):List AV:=[f,.b true,.f (.func 131) [] [],.tu [],.p (p+0) 0,.p (p+1) 0,.b false,.tu [],.tu [],f,.tu [],.tu [],.tu [],.tu [],.tu [],.tu [],.tu [],.tu []]
theorem YUq {p:Nat} {f:AV} {H:List AB} {acc m1:Bool} (a b:Int) (h0:H[p]?=some (.blk true true [.b acc])) (h1:H[p+1]?=some (.blk false m1 [.f (.func 131) [] []])) (h2:H[p+2]?=some (.lp .ready .n (vFr p f) [10,11] vA vB)) :
  RdAt' Tryz.prog (p+2) [.i .i64 a,.i .i64 b] H (.b true) (H.set p (.blk true true [.b (acc&&decide (a<=b))])):=by
 refine RdAt'.run (by kernel_rfl) (T:=⟨[⟨131,QCf,fun _=>[]⟩],[]⟩) ⟨⟨J0A,trivial⟩,trivial⟩ h2 rfl ?_
 simp only[vFr,ZuR,vA,z16,Xq6,simprocAttr]
 refine ⟨_,_,_,_,_,h2,?_⟩
 have g0:(H.set (p+2) (.lp .busy .n (vFr p f) [10,11] vA vB))[p]?=some (.blk true true [.b acc]):=by rw[List.getElem?_set_ne (by omega)];exact h0
 have g1:(H.set (p+2) (.lp .busy .n (vFr p f) [10,11] vA vB))[p+1]?=some (.blk false m1 [.f (.func 131) [] []]):=by rw[List.getElem?_set_ne (by omega)];exact h1
 have hp2:p+2<H.length:=(List.getElem?_eq_some_iff.1 h2).1
 have g2:(H.set (p+2) (.lp .busy .n (vFr p f) [10,11] vA vB))[p+2]?=some (.lp .busy .n (vFr p f) [10,11] vA vB):=List.getElem?_set_self hp2
 have gr:((H.set (p+2) (.lp .busy .n (vFr p f) [10,11] vA vB)).set p (.blk true true [.b (acc&&decide (a<=b))])).set (p+2) (.lp .ready .n (vFr p f) [10,11] vA vB)=H.set p (.blk true true [.b (acc&&decide (a<=b))]):=by
  rw[List.set_comm _ _ (show p≠p+2 by omega),List.set_set]
  congr 1
  refine List.ext_getElem? fun i=>?_
  rw[List.getElem?_set]
  split
  ·rename_i hi
   subst hi
   rw[h2]
  ·rfl
 generalize hH:H.set (p+2) (.lp .busy .n (vFr p f) [10,11] vA vB)=H1 at *
 have f0:ldV H1 none (.p (p+0) 0)=some (.b acc):=by
  simp only[ldV,ZMh,Nat.add_zero,g0,Option.bind_some]
  rfl
 have f1:ldV H1 none (.p (p+1) 0)=some (.f (.func 131) [] []):=by
  simp only[ldV,ZMh,g1,Option.bind_some]
  rfl
 have f2:∀q:Bool,stV H1 none (.p (p+0) 0) (.b q)=some (H1.set p (.blk true true [.b q])):=fun q=>by
  simp only[stV,stB,Nat.add_zero,g0]
  rfl
 have eT:∀(q:Bool),QCf [.b q,.i .i64 a,.i .i64 b] H1=some (.b (q&&decide (a<=b)),H1):=fun _=>rfl
 simp only[vB,vFr,vA,z16,Xq6,simprocAttr,f0,f1,f2,eT,Option.map_some]
 have g3:(H1.set p (AB.blk true true [AV.b (acc&&decide (a<=b))]))[p+2]?=some (.lp .busy .n (vFr p f) [10,11] vA vB):=by rw[List.getElem?_set_ne (by omega)];exact g2
 exact ⟨_,_,_,_,_,_,g3,rfl,by unfold qZF;exact gr⟩
end
section
set_option maxRecDepth 100000
set_option maxHeartbeats 4000000
open Classical in
noncomputable def vT (p:Nat) (f:AV):List AV->List AB->Option (AV×List AB)
 | [.i .i64 a,.i .i64 b],H=>match H[p]? with
  | some (.blk true true [.b acc])=>if (∃m1,H[p+1]?=some (.blk false m1 [.f (.func 131) [] []]))/\H[p+2]?=some (.lp .ready .n (vFr p f) [10,11] vA vB) then some (.b true,H.set p (.blk true true [.b (acc&&decide (a<=b))])) else none
  | _=>none
 | _,_=>none
theorem Jm9 {p:Nat} {f:AV}:qBU Tryz.prog (p+2) (vT p f):=by
 intro args H v h' e
 unfold vT at e
 split at e
 ·rename_i a b
  split at e
  ·rename_i acc h0
   split at e
   ·rename_i hc
    cases e
    obtain ⟨⟨m1,h1⟩,h2⟩:=hc
    exact YUq a b h0 h1 h2
   ·cases e
  ·cases e
 ·cases e
theorem qIX {h:List AB} {f:AV} {acc m1:Bool} {L:List AB} (a b:Int):vT h.length f [.i .i64 a,.i .i64 b] (h++.blk true true [.b acc]::.blk false m1 [.f (.func 131) [] []]::.lp .ready .n (vFr h.length f) [10,11] vA vB::L) =
  some (.b true,h++.blk true true [.b (acc&&decide (a<=b))]::.blk false m1 [.f (.func 131) [] []]::.lp .ready .n (vFr h.length f) [10,11] vA vB::L):=by
 have k:∀(i:Nat) (M:List AB),(h++M)[h.length+i]?=M[i]?:=fun i M=>qu4 M i
 have k0:(h++AB.blk true true [AV.b acc]::AB.blk false m1 [.f (.func 131) [] []]::.lp .ready .n (vFr h.length f) [10,11] vA vB::L)[h.length]?=some (.blk true true [.b acc]):=k 0 _
 simp only[vT,k0]
 rw[if_pos ⟨⟨m1,k 1 _⟩,k 2 _⟩,List.set_append_right _ _ (Nat.le_refl _),Nat.sub_self]
 rfl
def leqN (l m:List Int) (i:Nat):Bool:=decide (∀k<i,atV l ((k:Int)+1)<=atV m ((k:Int)+1))
theorem XEQ (l m:List Int) (i:Nat):leqN l m (i+1)=(leqN l m i&&decide (atV l ((i+1:Nat):Int)<=atV m ((i+1:Nat):Int))):=by
 unfold leqN
 rw[show ((i+1:Nat):Int)=(i:Int)+1 by omega]
 rw[Bool.eq_iff_iff]
 simp only[Bool.and_eq_true,decide_eq_true_eq]
 exact ⟨fun q=>⟨fun k hk=>q k (by omega),q i (by omega)⟩,fun ⟨q1,q2⟩ k hk=>by
  rcases Nat.lt_or_ge k i with z|z
  ·exact q1 k z
  ·rw[show k=i by omega];exact q2⟩
theorem J95 {h:List AB} (hz:h.map AB.freeze=h) (hh:HOk h) {bv bw:Nat} {v w:AV} {l m:List Int} (b1:ZMh h bv=some [v]) (b2:ZMh h bw=some [w]) (hv:Rd intR h v l) (hw:Rd intR h w m) (ov:v.ok (fun i=>decide (i<h.length))=true) (ow:w.ok (fun i=>decide (i<h.length))=true) (f:AV) (of:f.ok (fun i=>decide (i<h.length))=true) :
  FnAt Tryz.prog 195 [.y (h.length+2),.p bv 0,.p bw 0] (h++[.blk true true [.b true],.blk false true [.f (.func 131) [] []],.lp .ready .n (vFr h.length f) [10,11] vA vB]) (.tu [])
   (h++[.blk true true [.b (leqN l m (max l.length m.length))],.blk false true [.f (.func 131) [] []],.lp .ready .n (vFr h.length f) [10,11] vA vB]):=by
 refine FnAt.run (by kernel_rfl) (T:=⟨[⟨93,J1t,fun _=>[]⟩],[⟨h.length+2,vT h.length f,fun _=>[h.length+0,h.length+2]⟩]⟩) ⟨⟨K0x,trivial⟩,⟨Jm9,trivial⟩⟩ Tryz.func195 XkX fun _ _=>?_
 have f1:=qbm b1
 have f2:=qbm b2
 have fv:=hv.fx ov (sz:=1) rfl
 have fw:=hw.fx ow (sz:=1) rfl
 have gv:∀x,getS intR (h++x) v=some l:=fun x=>(hv.app x).get
 have gw:∀x,getS intR (h++x) w=some m:=fun x=>(hw.app x).get
 have e1i:bv<h.length:=Kvu b1
 have e2i:bw<h.length:=Kvu b2
 unfold w195
 simp only[QhU,YqB,z16,KHD,Xq6,if_true,if_false,↓reduceIte,Nat.reduceAdd,Nat.reduceSub,Nat.reduceLeDiff,Nat.reduceEqDiff,Nat.reduceMul,Nat.reduceLT,Int.reduceLT,Int.reduceLE,Int.reduceEq,CO.tmps,Opd.tmps,optT,Nat.reducePow,Nat.reduceDiv,Nat.reduceMod,f1,f2,fv,fw,YsC,zRk,Option.map_some]
 have hmx:max (l.length:Int) (m.length:Int)=((max l.length m.length:Nat):Int):=by omega
 rw[hmx]
 generalize hn:max l.length m.length=n at *
 have hl:n<=9223372036854775807:=by have:=hv.2;have:=hw.2;unfold maxLen at *;omega
 refine q2X (S:=Nat) (fun i=>n-i) (fun i=>[.y (h.length+2),.p bv 0,.p bw 0]++tp 6++[.i .i64 (n:Int),.i .i64 (i:Int)]++tp 14) (fun i=>h++[.blk true true [.b (leqN l m i)],.blk false true [.f (.func 131) [] []],.lp .ready .n (vFr h.length f) [10,11] vA vB]) (fun i=>i<=n) 0 (Nat.zero_le _) ?_ fun i hi=>?_
 ·have z0:leqN l m 0=true:=decide_eq_true fun k hk=>absurd hk (Nat.not_lt_zero _)
  rw[z0]
  refine Bt.wk ?_
  simp only[z16,Xq6,if_true,if_false,reduceIte,Nat.reduceAdd,Nat.reduceSub,Nat.reduceLeDiff,Nat.reduceEqDiff,Nat.reduceMul,Nat.reduceLT,Int.reduceLT,Int.reduceLE,Int.reduceEq]
 ·by_cases g:i<n
  ·have g':((i:Int)<(n:Int))=True:=eq_true (by omega)
   have e1:IntKind.i64.wrap ((i:Int)+1)=((i+1:Nat):Int):=ZWm (by unfold In64;omega)
   have up:∀(t:AV),t.ok (fun i=>decide (i<h.length))=true->∀c,t.ok (fun i=>decide (i<h.length+c))=true:=fun t ht c=>AV.ok_mono (fun i q=>by simp only[decide_eq_true_eq]at q ⊢;omega) t ht
   have uq:∀(t:AV),t.ok (fun i=>decide (i<h.length))=true->∀c lo hi anc past,t.ok (qOk (h.length+c) lo hi anc past)=true:=fun t ht c lo hi anc past=>AV.ok_mono (fun i q=>by simp only[decide_eq_true_eq]at q;simp only[qOk,Bool.or_eq_true,Nat.blt_eq];omega) t ht
   have v1:=up v ov
   have v2:=uq v ov
   have v3:=up w ow
   have v4:=uq w ow
   have v5:=up f of
   have v6:=uq f of
   have q3:∀k lo hi anc past,k<3->qOk (h.length+3) lo hi anc past (h.length+k)=true:=fun k lo hi anc past hk=>by simp only[qOk,Bool.or_eq_true,Nat.blt_eq];omega
   have v7:okL (fun i=>decide (i<h.length+3)) (vFr h.length f)=true:=by simp [vFr,okL,AV.ok,v5]
   have v8:∀lo hi anc past,okL (qOk (h.length+3) lo hi anc past) (vFr h.length f)=true:=fun lo hi anc past=>by simp [vFr,okL,AV.ok,v6,q3 0 lo hi anc past (by omega),q3 1 lo hi anc past (by omega),Nat.add_zero];exact q3 0 lo hi anc past (by omega)
   have vo:=fun (a b:Int) (acc m1:Bool) (L:List AB)=>qIX (h:=h) (f:=f) (acc:=acc) (m1:=m1) (L:=L) a b
   simp only[QhU,YqB,z16,KHD,Xq6,if_true,if_false,↓reduceIte,Nat.reduceAdd,Nat.reduceSub,Nat.reduceLeDiff,Nat.reduceEqDiff,Nat.reduceMul,Nat.reduceLT,Int.reduceLT,Int.reduceLE,Int.reduceEq,CO.tmps,Opd.tmps,optT,Nat.reducePow,Nat.reduceDiv,Nat.reduceMod,f1,f2,g',e1,J1t,gv,gw,Option.bind_some,vo,XJx,Bool.not_true,Bool.not_false,oW hh hz,oD,ne_eq,forall_const]
   refine ⟨v2 _ _ _ _ _,v1 _,v7,v4 _ _ _ _ _,v3 _,v7,v7,v8 _ _ _ _,?_⟩
   refine ⟨i+1,g,by dsimp only;omega,?_⟩
   dsimp only
   rw[XEQ]
   refine Bt.wk ?_
   simp only[z16,Xq6,if_true,if_false,reduceIte,Nat.reduceAdd,Nat.reduceSub,Nat.reduceLeDiff,Nat.reduceEqDiff,Nat.reduceMul,Nat.reduceLT,Int.reduceLT,Int.reduceLE,Int.reduceEq]
  ·have g':((i:Int)<(n:Int))=False:=eq_false (by omega)
   have hin:i=n:=by omega
   subst hin
   simp only[QhU,YqB,z16,KHD,Xq6,if_true,if_false,↓reduceIte,Nat.reduceAdd,Nat.reduceSub,Nat.reduceLeDiff,Nat.reduceEqDiff,Nat.reduceMul,Nat.reduceLT,Int.reduceLT,Int.reduceLE,Int.reduceEq,CO.tmps,Opd.tmps,optT,Nat.reducePow,Nat.reduceDiv,Nat.reduceMod,g',oD,ne_eq,forall_const]
   exact Bt.refl _ _ _
end
section
set_option maxRecDepth 100000
set_option maxHeartbeats 4000000
noncomputable def K8u:List AV->List AB->Option (AV×List AB)
 | [.f (.func f) [] [.p bv 0,.p bw 0],.b true,.f (.func g) [] []],h=>if f=195/\g=131 then (bxS h bv).bind fun v=>(bxS h bw).bind fun w=>(getS intR h v).bind fun l=>(getS intR h w).bind fun m=>some (.b (leqN l m (max l.length m.length)),h) else none
 | _,_=>none
theorem Y4x:Spec Tryz.prog 129 K8u:=by
 intro args h v h' e
 unfold K8u at e
 split at e
 ·rename_i f bv bw g
  split at e
  ·rename_i hfg
   obtain ⟨rfl,rfl⟩:=hfg
   obtain ⟨v,b1,e⟩:=oQ.1 e
   obtain ⟨w,b2,e⟩:=oQ.1 e
   obtain ⟨l,hv,e⟩:=zZy e
   obtain ⟨m,hw,e⟩:=zZy e
   cases e
   refine FnAt.c (FnAt.frz0 fun hz=>?_)
   have hv2:=hv.frz
   have hw2:=hw.frz
   have c1:bxS (h.map AB.freeze) bv=some v:=by rw[Y6Y];exact b1
   have c2:bxS (h.map AB.freeze) bw=some w:=by rw[Y6Y];exact b2
   clear hv hw b1 b2
   generalize h.map AB.freeze=h at *
   refine FnAt.run (by kernel_rfl) (T:=⟨[],[]⟩) ⟨trivial,trivial⟩ Tryz.func129 qeD fun ho hh=>?_
   simp only[XDA,Bool.and_eq_true]at ho
   have uf:=J95 hz hh (Xeg c1) (Xeg c2) hv2 hw2 (YeK c1 hh) (YeK c2 hh) _ ho.1
   unfold w129
   simp only[QhU,YqB,z16,Xq6,simprocAttr]
   refine W_rf rfl (by simp only[z16,Xq6,simprocAttr]) rfl (by simp only[z16,Xq6,simprocAttr];rfl) uf (by rw[qu4];rfl) (by decide) ?_
   simp only[vFr,z16,Xq6,simprocAttr]
   exact Bt.dropB _ hh rfl
  ·cases e
 ·cases e
noncomputable def J96:List AV->List AB->Option (AV×List AB)
 | [v,w],h=>if v.isSl=true/\w.isSl=true then some (.f (.func 195) [] [.p (h.length+0) 0,.p (h.length+1) 0],h++[.blk false true [v],.blk false true [w]]) else none
 | _,_=>none
theorem YCk:Spec Tryz.prog 130 J96:=by
 intro args h v h' e
 unfold J96 at e
 split at e
 ·rename_i v w
  split at e
  ·rename_i hs
   cases e
   refine FnAt.c (FnAt.run (by kernel_rfl) (T:=⟨[],[]⟩) ⟨trivial,trivial⟩ Tryz.func130 qq4 fun ho hh=>?_)
   unfold w130
   simp only[QhU,YqB,z16,Xq6,simprocAttr,Xm6 hs.1,Xm6 hs.2,Zl7 hs.1,Zl7 hs.2]
   exact Bt.wk1 (Wk.refl _)
  ·cases e
 ·cases e
noncomputable def zmF:List AV->List AB->Option (AV×List AB)
 | [v,w],h=>(getS intR h v).bind fun l=>(getS intR h w).bind fun m=>some (.b (leqN l m (max l.length m.length)),h)
 | _,_=>none
theorem ZW8:Spec Tryz.prog 64 zmF:=by
 intro args h v h' e
 unfold zmF at e
 split at e
 ·rename_i v w
  obtain ⟨l,hv,e⟩:=zZy e
  obtain ⟨m,hw,e⟩:=zZy e
  cases e
  refine FnAt.c (FnAt.run (by kernel_rfl) (T:=⟨[⟨130,J96,fun _=>[]⟩,⟨129,K8u,fun _=>[]⟩],[]⟩) ⟨⟨YCk,Y4x,trivial⟩,trivial⟩ Tryz.func64 sw64 fun ho hh=>?_)
  have s1:v.isSl=true:=hv.isSl
  have s2:w.isSl=true:=hw.isSl
  have s3:(v.isSl=true/\w.isSl=true)=True:=eq_true ⟨s1,s2⟩
  have g1:∀x,getS intR (h++x) v=some l:=fun x=>(hv.app x).get
  have g2:∀x,getS intR (h++x) w=some m:=fun x=>(hw.app x).get
  unfold w64
  simp only[QhU,YqB,z16,KHD,Xq6,simprocAttr,CO.tmps,Opd.tmps,optT,J96,K8u,s1,s2,s3,g1,g2,ZnG,XDb,q8w,Option.bind_some,and_self,if_true,oD,ne_eq,forall_const]
  exact Bt.dropB _ hh rfl
 ·cases e
theorem JFg {l m:List Int}:leqN l m (max l.length m.length)=true↔∀r:Int,atV l r<=atV m r:=by
 unfold leqN
 rw[decide_eq_true_eq]
 refine ⟨fun q r=>?_,fun q k _=>q _⟩
 by_cases hr:1<=r/\r<=(max l.length m.length:Nat)
 ·have:=q (r-1).toNat (by omega)
  rw[show (((r-1).toNat:Nat):Int)+1=r by omega]at this
  exact this
 ·have h1:∀x:List Int,x.length<=max l.length m.length->atV x r=0:=fun x hx=>if_pos (by omega)
  rw[h1 l (by omega),h1 m (by omega)]
  exact Int.le_refl _
end
section
set_option maxRecDepth 100000
set_option maxHeartbeats 4000000
def oddI (n:Int):Prop:=n<0\/1048576<n
instance (n:Int):Decidable (oddI n):=inferInstanceAs (Decidable (_\/_))
def J71:List AV->List AB->Option (AV×List AB)
 | [.i .i64 n],h=>some (.b (decide (oddI n)),h)
 | _,_=>none
theorem JtP:Spec Tryz.prog 127 J71:=by
  intro args h v h' e
  unfold J71 at e
  split at e
  · rename_i n
    cases e
    refine FnAt.c (FnAt.run (by kernel_rfl) (T:=⟨[],[]⟩) ⟨trivial,trivial⟩ Tryz.func127 X1r fun ho hh=>?_)
    unfold w127
    rcases emG (n<0) with q1|q1 <;> rcases emG (1048576<n) with q2|q2 <;>
      (simp only[QhU,YqB,z16,KHD,Xq6,simprocAttr,CO.tmps,Opd.tmps,optT,q1,q2,oD,ne_eq,forall_const]
       exact Bt.dropB _ hh (by simp [oddI,q1,q2]))
  · cases e
noncomputable def QMp:List AV->List AB->Option (AV×List AB)
 | [s,.f (.func f) [] []],h=>if f=127 then (getS intR h s).bind fun l=>some (.b (decide (∃x∈l,oddI x)),h) else none
 | _,_=>none
theorem QU9:Spec Tryz.prog 128 QMp:=by
 intro args h v h' e
 unfold QMp at e
 split at e
 ·rename_i s f
  split at e
  ·rename_i hf
   subst hf
   obtain ⟨l,hs,e⟩:=zZy e
   cases e
   exact QIQ (T:=⟨[⟨127,J71,fun _=>[]⟩],[]⟩) ⟨⟨JtP,trivial⟩,trivial⟩ (fun x H=>rfl) hs
  ·cases e
 ·cases e
def zXI (x:EvtA):Prop:=x.kind=3\/x.kind=4
instance (x:EvtA):Decidable (zXI x):=inferInstanceAs (Decidable (_\/_))
noncomputable def QeF:List AV->List AB->Option (AV×List AB)
 | [a],h=>(getE a).bind fun x=>some (.b (decide (zXI x)),h)
 | _,_=>none
theorem QFg:Spec Tryz.prog 76 QeF:=by
  intro args h v h' e
  unfold QeF at e
  split at e
  · obtain ⟨x,hx,e2⟩:=Kc6 e
    clear e
    subst hx
    cases e2
    refine FnAt.c (FnAt.run (by kernel_rfl) (T:=⟨[],[]⟩) ⟨trivial,trivial⟩ Tryz.func76 sw76 fun ho hh=>?_)
    obtain ⟨a0,a1,a2,a3,a4,a5,a6⟩:=Zxc x
    have w1:=Q7m x
    have l1:=YXj x
    have c1:∀l:List AV,(AV.ag l).cells=l:=fun _=>rfl
    unfold w76
    rcases emG (x.kind=3) with q1|q1 <;> rcases emG (x.kind=4) with q2|q2 <;>
      (simp only[QhU,YqB,z16,KHD,Xq6,simprocAttr,CO.tmps,Opd.tmps,optT,a3,w1,l1,c1,q1,q2,if_true,oD,ne_eq,forall_const]
       exact Bt.dropB _ hh (by simp [zXI,q1,q2]))
  · cases e
end
end Go.Proofs.YtebcngelgdpbjaaGreat
