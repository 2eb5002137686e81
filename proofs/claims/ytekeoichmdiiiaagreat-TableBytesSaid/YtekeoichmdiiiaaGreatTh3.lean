/- Part 3 of what the laws' proofs rest on. No condition. -/
import Derived.Test.YtekeoichmdiiiaaGreatTh2
set_option linter.all false
namespace Go.Proofs.YtekeoichmdiiiaaGreat
section
open Go.RowKit
section
variable {P:Program} {K:Code->CC->Prop}
theorem Rel.kill {ρ:Mp} {h:List AB} {w:World} (r:Rel K ρ h w) (id:Nat):Rel K ρ (h.set id .dead) w/\Eff ρ h w ρ (h.set id .dead) w:=by
 have here:∀(j:Nat) (C:AB),(h.set id .dead)[j]?=some C->C=.dead\/h[j]?=some C:=fun j C hj=>by
  rw[List.getElem?_set]at hj
  by_cases hij:id=j
  ·subst hij
   rw[if_pos rfl]at hj
   split at hj
   ·cases hj
    exact .inl rfl
   ·cases hj
  ·rw[if_neg hij]at hj
   exact .inr hj
 refine r.to ⟨by simp [r.len],fun i B b o n h1 h2=>?_,fun i j bi oi bj oj Bi Bj hne h1 h2 h3 h4 hm hl=>?_⟩ ⟨rfl,rfl,⟨rfl,Nat.le_refl _⟩,Nat.le_refl _,fun _ _ _=>rfl,fun b hb=>?_,fun i b hb=>?_⟩
 ·rcases here i B h1 with rfl|h1
  ·trivial
  ·exact r.blk i B b o n h1 h2
 ·rcases here i Bi h1 with rfl|h1
  ·cases hm
  ·rcases here j Bj h2 with rfl|h2
   ·cases hl
   ·exact r.sep i j bi oi bj oj Bi Bj hne h1 h2 h3 h4 hm hl
 ·obtain ⟨i,B,o,h1,hm,h2⟩:=hb
  rcases here i B h1 with rfl|h1
  ·cases hm
  ·exact .inl ⟨i,B,o,h1,hm,h2⟩
 ·obtain ⟨B,o,h1,hm,h2⟩:=hb
  rcases here i B h1 with rfl|h1
  ·cases hm
  ·exact .inl ⟨B,o,h1,hm,h2⟩
theorem Rel.cut {ρ:Mp} {h:List AB} {w:World} (r:Rel K ρ h w) {id:Nat} {fl mu:Bool} {xs:List AV} (hb:h[id]?=some (.blk fl mu xs)) (q:Nat):Rel K ρ (h.set id (.blk fl mu (xs.take q))) w/\Eff ρ h w ρ (h.set id (.blk fl mu (xs.take q))) w:=by
 have hlt:=(List.getElem?_eq_some_iff.1 hb).1
 have cls:∀(j:Nat) C,(h.set id (.blk fl mu (xs.take q)))[j]?=some C->∃C0,h[j]?=some C0/\(C.mut=true->C0.mut=true)/\(C.live=true->C0.live=true)/\∀ρ w b o n,BR K ρ w b o n C0->BR K ρ w b o n C:=fun j C hC=>by
  by_cases hij:id=j
  ·subst hij
   rw[List.getElem?_set_self hlt]at hC
   cases hC
   refine ⟨_,hb,fun z=>z,fun z=>z,fun ρ w b o n hB=>?_⟩
   obtain ⟨cs,e,fz,h1,h2,h3,h4⟩:=hB
   refine ⟨cs,e,fz,h1,h2,by rw[List.length_take];omega,fun k a c ha hcs=>?_⟩
   rw[List.getElem?_take]at ha
   split at ha
   ·exact h4 k a c ha hcs
   ·cases ha
  ·rw[List.getElem?_set_ne hij]at hC
   exact ⟨C,hC,fun z=>z,fun z=>z,fun _ _ _ _ _ z=>z⟩
 refine r.to ⟨by rw[List.length_set];exact r.len,fun j C b o n h1 h2=>?_,fun j k bj oj bk ok Bj Bk hne h1 h2 h3 h4 g1 g2=>?_⟩ ⟨rfl,rfl,⟨rfl,Nat.le_refl _⟩,Nat.le_refl _,fun _ _ _=>rfl,fun b hb=>?_,fun i b hb=>?_⟩
 ·obtain ⟨C0,q1,_,_,q4⟩:=cls j C h1
  exact q4 _ _ _ _ _ (r.blk j C0 b o n q1 h2)
 ·obtain ⟨C0,q1,q2,_,_⟩:=cls j Bj h1
  obtain ⟨C1,z1,_,z3,_⟩:=cls k Bk h2
  exact r.sep j k bj oj bk ok C0 C1 hne q1 z1 h3 h4 (q2 g1) (z3 g2)
 ·obtain ⟨i,B,o,h1,hm,h2⟩:=hb
  obtain ⟨C0,q1,q2,_,_⟩:=cls i B h1
  exact .inl ⟨i,C0,o,q1,q2 hm,h2⟩
 ·obtain ⟨B,o,h1,hm,h2⟩:=hb
  obtain ⟨C0,q1,_,q3,_⟩:=cls i B h1
  exact .inl ⟨C0,o,q1,q3 hm,h2⟩
theorem Rel.move {ρ:Mp} {h:List AB} {w:World} (r:Rel K ρ h w) {id:Nat} {fl:Bool} {xs:List AV} (hb:h[id]?=some (.blk fl true xs)) {b o n:Nat} (hρ:ρ[id]?=some (b,o,n)) (off:Nat) (hoff:off<=xs.length) :
  Rel K (ρ++[(b,o+off,n)]) (h.set id .dead++[.blk fl true (xs.drop off)]) w/\Eff ρ h w (ρ++[(b,o+off,n)]) (h.set id .dead++[.blk fl true (xs.drop off)]) w:=by
 have hlen:(h.set id .dead).length=h.length:=by simp
 have cases':∀(i:Nat) (C:AB) (x:Nat×Nat×Nat),(h.set id .dead++[.blk fl true (xs.drop off)])[i]?=some C->(ρ++[(b,o+off,n)])[i]?=some x ->
   (C=.dead)\/(i≠id/\i<h.length/\h[i]?=some C/\ρ[i]?=some x)\/(i=h.length/\C=.blk fl true (xs.drop off)/\x=(b,o+off,n)):=fun i C x h1 h2=>by
  by_cases hi:i<h.length
  ·rw[List.getElem?_append_left (by simpa using hi),List.getElem?_set]at h1
   rw[List.getElem?_append_left (by rw[r.len];exact hi)]at h2
   by_cases hid:id=i
   ·rw[if_pos hid]at h1
    split at h1
    ·cases h1
     exact .inl rfl
    ·cases h1
   ·rw[if_neg hid]at h1
    exact .inr (.inl ⟨fun e=>hid e.symm,hi,h1,h2⟩)
  ·rw[List.getElem?_append_right (by simp;omega)]at h1
   rw[List.getElem?_append_right (by rw[r.len];omega)]at h2
   rw[hlen]at h1
   rw[r.len]at h2
   cases hq:i-h.length with
   | zero =>
    rw[hq]at h1 h2
    simp at h1 h2
    exact .inr (.inr ⟨by omega,h1.symm,h2.symm⟩)
   | succ k=>rw[hq]at h1;simp at h1
 have hB:=r.blk id _ b o n hb hρ
 refine r.to ⟨by simp [r.len],fun i B b' o' n' h1 h2=>?_,fun i j bi oi bj oj Bi Bj hne h1 h2 h3 h4 hm hl=>?_⟩ ⟨rfl,rfl,⟨rfl,Nat.le_refl _⟩,Nat.le_refl _,fun _ _ _=>rfl,fun b' hb'=>?_,fun i b' hb'=>?_⟩
 ·rcases cases' i B _ h1 h2 with rfl|⟨_,_,h1,h2⟩|⟨_,rfl,h2⟩
  ·trivial
  ·exact (r.blk i B b' o' n' h1 h2).same (Ext.push _ _) fun _=>rfl
  ·cases h2
   obtain ⟨cs,ty,fz,q1,q2,q3,q4⟩:=hB
   refine ⟨cs,ty,fz,q1,q2,by simp;omega,fun k a c ha hc=>?_⟩
   rw[List.getElem?_drop]at ha
   rw[Nat.add_assoc]at hc
   exact (q4 _ a c ha hc).ext (Z7k fl (Ext.push _ _))
 ·rcases cases' i Bi _ h1 h3 with rfl|⟨hi,_,h1,h3⟩|⟨rfl,rfl,h3⟩
  ·cases hm
  ·rcases cases' j Bj _ h2 h4 with rfl|⟨hj,_,h2,h4⟩|⟨rfl,rfl,h4⟩
   ·cases hl
   ·exact r.sep i j bi oi bj oj Bi Bj hne h1 h2 h3 h4 hm hl
   ·cases h4
    exact r.sep i id bi oi b (o,n) Bi _ hi h1 hb h3 hρ hm rfl
  ·cases h3
   rcases cases' j Bj _ h2 h4 with rfl|⟨hj,_,h2,h4⟩|⟨rfl,rfl,h4⟩
   ·cases hl
   ·exact r.sep id j b (o,n) bj oj _ Bj (fun e=>hj e.symm) hb h2 hρ h4 rfl hl
   ·exact absurd rfl hne
 ·obtain ⟨i,B,o',h1,hm,h2⟩:=hb'
  rcases cases' i B _ h1 h2 with rfl|⟨hi,_,h1,h2⟩|⟨_,rfl,h2⟩
  ·cases hm
  ·exact .inl ⟨i,B,o',h1,hm,h2⟩
  ·cases h2
   exact .inl ⟨id,_,(o,n),hb,rfl,hρ⟩
 ·obtain ⟨B,o',h1,hm,h2⟩:=hb'
  rcases cases' i B _ h1 h2 with rfl|⟨hi,_,h1,h2⟩|⟨_,rfl,h2⟩
  ·cases hm
  ·exact .inl ⟨B,o',h1,hm,h2⟩
  ·cases h2
   exact .inr (.inl ⟨id,_,(o,n),hb,rfl,hρ⟩)
theorem J39 (ρ:Mp) (bs:ByteArray):VL ρ (bs.data.toList.map fun b=>AV.i .u8 b.toNat) (byteCells bs).toArray:=by
 refine ⟨by simp [byteCells],fun j a c ha hc=>?_⟩
 simp only[byteCells,List.getElem?_toArray,List.getElem?_map]at ha hc
 obtain ⟨u,hu,rfl⟩:=Option.map_eq_some_iff.1 ha
 rw[hu]at hc
 cases hc
 exact .i _ _
theorem qON {ρ:Mp} {h:List AB} {w:World} (hr:Rel K ρ h w) {sz:Nat} {x:AV} {m:Nat} {ys:List AV} (e:srcV h sz x=some (m,ys)) {vx:Value} (hx:VR ρ x vx) (tx:TypeId) {d:TypeDesc} (hd:P.underlying tx=some d)
  (ht:(∃l,x=.s l)/\d=.string\/(∀l,x≠.s l)/\∃e',d=.slice e') (hok:ys.all AV.one=true) :
  ∃news:List Value,Src P sz tx vx m news w/\VL ρ ys news.toArray:=by
 have one:∀ {ys:List AV} {news:List Value},ys.all AV.one=true->VL ρ ys news.toArray->∀u∈news,u.oneCell'=true:=fun hok hv u hu=>by
  obtain ⟨j,hj⟩:=List.getElem?_of_mem hu
  have hlen:=hv.1
  simp at hlen
  have hjl:=(List.getElem?_eq_some_iff.1 hj).1
  rw[<-hlen]at hjl
  exact (hv.2 j _ u (List.getElem?_eq_getElem hjl) (by simpa using hj)).oneCell (List.all_eq_true.1 hok _ (List.getElem_mem hjl))
 cases hx with
 | ns =>
  cases e
  rcases ht with ⟨⟨l,hl⟩,_⟩|⟨_,e',rfl⟩
  ·cases hl
  ·exact ⟨[],Src.ofNil w hd 0,VL.nil ρ⟩
 | se a c hc =>
  cases e
  rcases ht with ⟨⟨l,hl⟩,_⟩|⟨_,e',rfl⟩
  ·cases hl
  ·exact ⟨[],Src.ofSlice w hd a 0 c [] (by simp) (fun j u hu=>by simp at hu) (fun u hu=>by simp at hu),VL.nil ρ⟩
 | s l bs hl =>
  subst hl
  simp only[srcV]at e
  split at e
  ·rename_i hs
   subst hs
   cases e
   rcases ht with ⟨_,rfl⟩|⟨hn,_⟩
   ·refine ⟨byteCells bs,?_,J39 ρ bs⟩
    have:=Src.ofString (P:=P) w hd bs
    rw[KPM]at this
    exact this
   ·exact absurd rfl (hn _)
  ·cases e
 | sz id off a c hc hn =>
  simp only[srcV,if_true]at e
  cases e
  rcases ht with ⟨⟨l,hl⟩,_⟩|⟨_,e',rfl⟩
  ·cases hl
  ·refine ⟨[],?_,by simpa using VL.nil ρ⟩
   cases a with
   | none=>exact Src.ofNil w hd c
   | some a=>exact Src.ofSlice w hd a 0 c [] (by simp) (fun j u hu=>by simp at hu) (fun u hu=>by simp at hu)
 | sl id off len cap k b o n cap' hρ h1 h2 h3 h4 h5 =>
  simp only[srcV]at e
  split at e
  ·rename_i h0
   subst h0
   cases e
   rcases ht with ⟨⟨l,hl⟩,_⟩|⟨_,e',rfl⟩
   ·cases hl
   ·exact ⟨[],Src.ofSlice w hd _ 0 cap' [] (by simp) (fun j u hu=>by simp at hu) (fun u hu=>by simp at hu),VL.nil ρ⟩
  obtain ⟨xs,hxs,e⟩:=oQ.1 e
  split at e
  ·rename_i hle
   cases e
   rcases ht with ⟨⟨l,hl⟩,_⟩|⟨_,e',rfl⟩
   ·cases hl
   ·obtain ⟨vs,hl,hc,hv⟩:=hr.win hxs hρ off (m*sz) hle
    exact ⟨vs,Src.ofSlice w hd _ m cap' vs hl hc (one hok hv),hv⟩
  ·cases e
 | _=>simp [srcV]at e
theorem qnU {fl:Bool} {ys:List AV} (h:ys.all (wrOk fl)=true):ys.all AV.one=true:=
 List.all_eq_true.2 fun a ha=>K79 (List.all_eq_true.1 h a ha)
theorem Za6 {h:List AB} {sz:Nat} {x:AV} {m:Nat} {ys:List AV} (e:srcV h sz x=some (m,ys)):ys.length=m*sz:=by
 cases x with
 | ns=>cases e;simp
 | se=>cases e;simp
 | s l =>
  simp only[srcV]at e
  split at e
  ·rename_i hs
   cases e
   simp [hs]
  ·cases e
 | sl id off len cap k =>
  simp only[srcV]at e
  split at e
  ·cases e;simp
  obtain ⟨xs,_,e⟩:=oQ.1 e
  split at e
  ·cases e
   simp
   omega
  ·cases e
 | _=>simp [srcV]at e
theorem KnN {ρ:Mp} {h:List AB} {w:World} (hr:Rel K ρ h w) {id:Nat} {fl:Bool} {xs:List AV} (hb:h[id]?=some (.blk fl true xs)) {b o n:Nat} (hρ:ρ[id]?=some (b,o,n)) {l:List AV} {vs:List Value}
  (hv:VL ρ l vs.toArray) (hok:l.all (wrOk fl)=true) (hle:o+xs.length+l.length<=n) :
  (storeCells ⟨b,o+xs.length,none⟩ vs 0).run P w=.ok () (w.setRow b ((match w.heap[b]? with|some (.cells cs _ _)=>cs.toList.take (o+xs.length)++vs++cs.toList.drop (o+xs.length+vs.length)|_=>[]).toArray)) /\
  Rel K ρ (h.set id (.blk fl true (xs++l))) (w.setRow b ((match w.heap[b]? with|some (.cells cs _ _)=>cs.toList.take (o+xs.length)++vs++cs.toList.drop (o+xs.length+vs.length)|_=>[]).toArray)) /\
  Eff ρ h w ρ (h.set id (.blk fl true (xs++l))) (w.setRow b ((match w.heap[b]? with|some (.cells cs _ _)=>cs.toList.take (o+xs.length)++vs++cs.toList.drop (o+xs.length+vs.length)|_=>[]).toArray)):=by
 obtain ⟨cs,ty,fz,h1,h2,h3,h4⟩:=hr.blk id _ b o n hb hρ
 obtain ⟨hfz,hn⟩:=h2 rfl
 have hlen:l.length=vs.length:=by have:=hv.1;simpa using this
 have hall:∀(j:Nat) a,l[j]?=some a->wrOk fl a=true:=fun j a ha=>List.all_eq_true.1 hok a (List.mem_of_getElem? ha)
 have hone:∀v∈vs,v.oneCell'=true:=fun v hvm=>by
  obtain ⟨j,hj⟩:=List.getElem?_of_mem hvm
  have hjl:j<l.length:=by rw[hlen];exact (List.getElem?_eq_some_iff.1 hj).1
  exact (hv.2 j _ v (List.getElem?_eq_getElem hjl) (by simpa using hj)).oneCell (K79 (hall j _ (List.getElem?_eq_getElem hjl)))
 have hst:=X0L P b (o+xs.length) ty fz vs 0 cs w h1 hfz (by omega) hone
 rw[Nat.add_zero]at hst
 simp only[h1]
 refine ⟨hst,hr.put hb rfl hρ ?_ rfl rfl ⟨rfl,Nat.le_refl _⟩ (by simp) (fun k hk=>setRow_other w b k _ hk) (fun _=>rfl)⟩
 refine ⟨_,ty,fz,setRow_heap w b cs _ ty _ h1,fun _=>⟨by simp;omega,?_⟩,?_,fun k a c ha hc=>?_⟩
 ·simp
  omega
 ·simp
  omega
 ·rw[Yvd _ _ _ (by simp;omega)]at hc
  simp only[Array.getElem?_toList]at hc
  by_cases q1:k<xs.length
  ·rw[List.getElem?_append_left q1]at ha
   rw[if_pos (by omega)]at hc
   exact h4 k a c ha hc
  ·rw[List.getElem?_append_right (by omega)]at ha
   have q2:=(List.getElem?_eq_some_iff.1 ha).1
   rw[if_neg (by omega),if_pos (by omega)]at hc
   have hidx:o+k-(o+xs.length)=k-xs.length:=by omega
   rw[hidx]at hc
   exact (hv.2 _ a c ha (by simpa using hc)).wr (hall _ a ha)
theorem qyK {w w':World} (t tx ty e:TypeId) {i:TypeInfo} (ht:P.underlying t=some (.slice e)) (hi:P.info? e=some i) (b off sLen sCap:Nat) (x:Value) (n:Nat) (news:List Value) (hs:Src P i.size tx x n news w)
  (hroom:sLen+n<=sCap) (hst:(storeCells ⟨b,off+sLen*i.size,none⟩ news 0).run P w=.ok () w') :
  (Builtin.append_ #[t,tx] ty #[.slice (some ⟨b,off,none⟩) sLen sCap,x]).run P w=.ok (.slice (some ⟨b,off,none⟩) (sLen+n) sCap) w':=by
 have hadd:(⟨b,off,none⟩:Addr).add (sLen*i.size)=⟨b,off+sLen*i.size,none⟩:=by unfold Addr.add;split <;> simp_all
 rcases hs.kind with ⟨e',hk⟩|hk <;> simp [Builtin.append_,run_underlying ht,run_underlying hk,sizeOf,typeInfo,hi,hs.len,hroom,hs.cells,hadd,hst]
theorem K4V {ρ:Mp} {h h0:List AB} {w:World} (hr:Rel K ρ h0 w) (he:Eff ρ h w ρ h0 w) (t tx ty e:TypeId) {i:TypeInfo} {z:Value} (ht:P.underlying t=some (.slice e)) (hi:P.info? e=some i) (hz:i.zero=some z) (hzs:z.cells.size=i.size) (fl:Bool)
  (base:Option Addr) (sLen sCap:Nat) {olds news:List Value} (hold:(Builtin.firstCells i.size sLen (.slice base sLen sCap)).run P w.drew=.ok olds.toArray w.drew) (holdl:olds.length=sLen*i.size) {xo ys:List AV} (hvo:VL (flm fl ρ) xo olds.toArray)
  {x:Value} {m:Nat} (hs:Src P i.size tx x m news w) (hvn:VL ρ ys news.toArray) (hokn:ys.all (wrOk fl)=true) (hg:sCap<sLen+m) (hby:(sLen+m)*i.bytes<=140737488355328) (hmx:sLen+m<=maxLen) :
  Good K P ρ h w (Builtin.append_ #[t,tx] ty #[.slice base sLen sCap,x]) (.sl h0.length 0 (sLen+m) (sLen+m) (some i.size),h0++[.blk fl true (xo++ys)]):=by
 have hrun:=run_append_grow_src (P:=P) w t tx ty e i z ht hi hz base sLen sCap olds hold x m news hs hg (by unfold maxLen at hmx;omega) (growslice_fits hg hby)
 have hv:VL (flm fl ρ) (xo++ys) (olds++news).toArray:=by
  have:=hvo.append (hvn.wr hokn)
  simpa using this
 have hge:=grownCap_ge w (sLen+m) sCap e
 have hle:=grownCap_le_maxLen w (sLen+m) sCap e hmx
 have hnew:=ZA8 hr.drew e fl (rest:=Builtin.zeroCells z.cells (grownCap w (sLen+m) sCap e-(sLen+m))) hv
 refine ⟨_,_,_,hrun,Ext.push _ _,hnew.1,?_,(he.trans (Eff.drew ρ h0 w)).trans hnew.2⟩
 have:=VR.sl (ρ:=ρ++[(w.drew.heap.size,0,((olds++news).toArray++Builtin.zeroCells z.cells (grownCap w (sLen+m) sCap e-(sLen+m))).size)]) h0.length 0 (sLen+m) (sLen+m) (some i.size) w.heap.size 0 _ (grownCap w (sLen+m) sCap e) (Zt4 ρ h0 _ hr.len) (Nat.le_refl _) hge hle (fun hk=>by cases hk) (fun z' hz' _=>by
  cases hz'
  simp only[Array.size_append,List.size_toArray,List.length_append,holdl,hs.newsLen,size_zeroCells,hzs]
  have hq:sLen*i.size+m*i.size+(grownCap w (sLen+m) sCap e-(sLen+m))*i.size=grownCap w (sLen+m) sCap e*i.size:=by rw[<-Nat.add_mul,<-Nat.add_mul,Nat.add_sub_cancel' hge]
  omega)
 simpa using this
theorem zty {ρ:Mp} {h:List AB} {w:World} (hr:Rel K ρ h w) (t tx ty e:TypeId) {d:TypeDesc} {i:TypeInfo} {z:Value} (ht:P.underlying t=some (.slice e)) (hi:P.info? e=some i) (hz:i.zero=some z) (hzs:z.cells.size=i.size) (fl:Bool) (hd:P.underlying tx=some d)
  {s x:AV} {vs vx:Value} (hs:VR ρ s vs) (hx:VR ρ x vx) (hty:(∃l,x=.s l)/\d=.string\/(∀l,x≠.s l)/\∃e',d=.slice e') {r:AV×List AB} (er:appV h fl i.size i.bytes s x=some r) :
  Good K P ρ h w (Builtin.append_ #[t,tx] ty #[vs,vx]) r:=by
 unfold appV at er
 obtain ⟨⟨m,ys⟩,hsrc,er⟩:=oQ.1 er
 simp only at er
 split at er
 case isFalse=>cases er
 rename_i hok
 obtain ⟨news,hS,hvn⟩:=qON (P:=P) hr hsrc hx tx hd hty (qnU hok)
 have hnl:=hS.newsLen
 have hyl:=Za6 hsrc
 cases hs with
 | ns =>
  simp only at er
  split at er
  ·rename_i hm
   cases er
   subst hm
   refine ⟨.slice none 0 0,w,ρ,?_,Ext.refl _,hr,.ns,Eff.refl _ _ _⟩
   rcases hS.kind with ⟨e',hk⟩|hk <;> simp [Builtin.append_,run_underlying ht,run_underlying hk,sizeOf,typeInfo,hi,hS.len,hS.cells]
  ·split at er
   ·rename_i hm hb
    cases er
    have:=K4V hr (Eff.refl ρ h w) t tx ty e ht hi hz hzs fl none 0 0 (olds:=[]) (xo:=[]) (by simp [Builtin.firstCells]) (by simp) (VL.nil _) hS hvn hok (by omega) (by simpa using hb.1) (by simpa using hb.2)
    simpa using this
   ·cases er
 | sz id off a c hc hn =>
  simp only at er
  split at er
  ·rename_i hm
   cases er
   subst hm
   refine ⟨.slice a 0 c,w,ρ,?_,Ext.refl _,hr,.sz _ _ _ _ hc hn,Eff.refl _ _ _⟩
   have hnil:news=[]:=List.length_eq_zero_iff.1 (by rw[hnl];simp)
   subst hnil
   cases a with
   | none =>
    have hc0:=hn rfl
    subst hc0
    rcases hS.kind with ⟨e',hk⟩|hk <;> simp [Builtin.append_,run_underlying ht,run_underlying hk,sizeOf,typeInfo,hi,hS.len,hS.cells]
   | some a =>
    rcases hS.kind with ⟨e',hk⟩|hk <;> simp [Builtin.append_,run_underlying ht,run_underlying hk,sizeOf,typeInfo,hi,hS.len,hS.cells,storeCells]
  ·rename_i hm
   rw[if_neg (by omega)]at er
   split at er
   ·split at er
    ·rw[if_neg (by intro q;cases q),if_neg (fun q=>q.2.1 (Option.some.inj q.1).symm),if_neg (fun q=>q.2.1 (Option.some.inj q.1).symm)]at er
     cases er
    ·cases er
   ·cases er
 | sl id off len cap k b o n cap' hρ h1 h2 h3 h4 h5 =>
  simp only at er
  split at er
  ·rename_i hm
   cases er
   subst hm
   refine ⟨.slice (some ⟨b,o+off,none⟩) len cap',w,ρ,?_,Ext.refl _,hr,.sl _ _ _ _ _ b o n cap' hρ h1 h2 h3 h4 h5,Eff.refl _ _ _⟩
   have hnil:news=[]:=List.length_eq_zero_iff.1 (by rw[hnl];simp)
   subst hnil
   have hlc:len<=cap':=by omega
   rcases hS.kind with ⟨e',hk⟩|hk <;> simp [Builtin.append_,run_underlying ht,run_underlying hk,sizeOf,typeInfo,hi,hS.len,hS.cells,storeCells,hlc]
  split at er
  ·rename_i hroom
   obtain ⟨h',hst,rfl⟩:=Option.map_eq_some_iff.1 er
   obtain ⟨w',hw',q1,q2⟩:=XCO (P:=P) hr hst hρ hvn
   rw[<-Nat.add_assoc]at hw'
   exact ⟨_,w',ρ,qyK (P:=P) t tx ty e ht hi b (o+off) len cap' vx m news hS (by omega) hw',Ext.refl _,q1,.sl id off (len+m) cap k b o n cap' hρ hroom h2 h3 h4 h5,q2⟩
  ·rename_i hroom
   split at er
   case h_2=>cases er
   rename_i fl' mu xs hb
   split at er
   case isFalse=>cases er
   rename_i hc
   obtain ⟨rfl,hwin,hby,hmx⟩:=hc
   obtain ⟨vo,hvl,hvc,hvv⟩:=hr.winF hb hρ off (len*i.size) hwin
   have hold:(Builtin.firstCells i.size len (.slice (some ⟨b,o+off,none⟩) len cap')).run P w.drew=.ok vo.toArray w.drew:=run_firstCells_some (P:=P) w.drew i.size len ⟨b,o+off,none⟩ len cap' vo hvl (by simpa using hvc)
   split at er
   ·rename_i hk
    cases er
    have hcc:=h4 hk
    exact K4V hr (Eff.refl ρ h w) t tx ty e ht hi hz hzs fl' _ len cap' hold hvl hvv hS hvn hok (by omega) hby hmx
   ·split at er
    ·rename_i hk hq
     cases er
     obtain ⟨rfl,hz0,rfl,hend⟩:=hq
     have htake:(xs.drop off).take (len*i.size)=xs.drop off:=List.take_of_length_le (by simp;omega)
     by_cases hcap:len+m<=cap'
     ·have hN:=h5 _ rfl hz0
      have hmul:(len+m)*i.size<=cap'*i.size:=Nat.mul_le_mul_right _ hcap
      rw[Nat.add_mul]at hmul
      obtain ⟨r1,r2,r3⟩:=KnN (P:=P) hr hb hρ hvn hok (by omega)
      generalize w.setRow b ((match w.heap[b]? with|some (.cells cs _ _)=>cs.toList.take (o+xs.length)++news++cs.toList.drop (o+xs.length+news.length)|_=>[]).toArray)=w1 at r1 r2 r3
      have hlt:id<h.length:=(List.getElem?_eq_some_iff.1 hb).1
      have hm':=Rel.move r2 (id:=id) (fl:=fl') (xs:=xs++ys) (by simp [hlt]) hρ off (by simp;omega)
      rw[List.set_set,List.drop_append_of_le_length (by omega)]at hm'
      have hq:o+off+len*i.size=o+xs.length:=by omega
      rw[<-hq]at r1
      refine ⟨_,_,_,qyK (P:=P) t tx ty e ht hi b (o+off) len cap' vx m news hS hcap r1,Ext.push _ _,hm'.1,?_,r3.trans hm'.2⟩
      have:=VR.sl (ρ:=ρ++[(b,o+off,n)]) h.length 0 (len+m) (len+m) (some i.size) b (o+off) n cap' (Zt4 ρ h _ hr.len) (Nat.le_refl _) hcap h3 (fun hk=>by cases hk) (fun z' hz' _=>by cases hz';omega)
      simpa using this
     ·have hk':=hr.kill id
      rw[htake]at hvv
      have:=K4V hk'.1 hk'.2 t tx ty e ht hi hz hzs fl' _ len cap' hold hvl hvv hS hvn hok (by omega) hby hmx
      simpa using this
    ·split at er
     case isFalse=>cases er
     rename_i hk _ hq
     cases er
     obtain ⟨rfl,hz0,rfl⟩:=hq
     by_cases hcap:len+m<=cap'
     ·have hN:=h5 _ rfl hz0
      have hmul:(len+m)*i.size<=cap'*i.size:=Nat.mul_le_mul_right _ hcap
      rw[Nat.add_mul]at hmul
      have hlt:id<h.length:=(List.getElem?_eq_some_iff.1 hb).1
      have hct:=hr.cut hb (off+len*i.size)
      have hb':(h.set id (.blk fl' true (xs.take (off+len*i.size))))[id]?=some (.blk fl' true (xs.take (off+len*i.size))):=List.getElem?_set_self hlt
      have hl':(xs.take (off+len*i.size)).length=off+len*i.size:=by rw[List.length_take];omega
      have hdt:(xs.take (off+len*i.size)).drop off=(xs.drop off).take (len*i.size):=by
       rw[List.drop_take]
       congr 1
       omega
      generalize xs.take (off+len*i.size)=xt at hct hb' hl' hdt
      obtain ⟨r1,r2,r3⟩:=KnN (P:=P) hct.1 hb' hρ hvn hok (by omega)
      generalize w.setRow b ((match w.heap[b]? with|some (.cells cs _ _)=>cs.toList.take (o+xt.length)++news++cs.toList.drop (o+xt.length+news.length)|_=>[]).toArray)=w1 at r1 r2 r3
      have hm':=Rel.move r2 (id:=id) (fl:=fl') (xs:=xt++ys) (by rw[List.set_set];exact List.getElem?_set_self hlt) hρ off (by simp;omega)
      rw[List.set_set,List.set_set,List.drop_append_of_le_length (by omega),hdt]at hm'
      have hq:o+off+len*i.size=o+xt.length:=by omega
      rw[<-hq]at r1
      have r3':=hct.2.trans r3
      rw[List.set_set]at r3' hm'
      refine ⟨_,_,_,qyK (P:=P) t tx ty e ht hi b (o+off) len cap' vx m news hS hcap r1,Ext.push _ _,hm'.1,?_,r3'.trans hm'.2⟩
      have:=VR.sl (ρ:=ρ++[(b,o+off,n)]) h.length 0 (len+m) (len+m) (some i.size) b (o+off) n cap' (Zt4 ρ h _ hr.len) (Nat.le_refl _) hcap h3 (fun hk=>by cases hk) (fun z' hz' _=>by cases hz';omega)
      simpa using this
     ·have hk':=hr.kill id
      have:=K4V hk'.1 hk'.2 t tx ty e ht hi hz hzs fl' _ len cap' hold hvl hvv hS hvn hok (by omega) hby hmx
      simpa using this
 | _=>simp at er
end
end
section
open Go.RowKit
section
variable {P:Program} {K:Code->CC->Prop}
theorem VR.cellsVL {ρ:Mp} {a:AV} {v:Value} (h:VR ρ a v) (hk:a.known=true):VL ρ a.cells v.cells:=by
 cases h with
 | ag l cs hl hv=>exact ⟨hl,hv⟩
 | top v=>cases hk
 | b x=>exact VL.one (.b x)
 | i k n=>exact VL.one (.i k n)
 | s l bs h=>exact VL.one (.s l bs h)
 | p id off b o n h=>exact VL.one (.p id off b o n h)
 | np=>exact VL.one .np
 | sl id off len cap k b o n cap' h h1 h2 h3 h4 h5=>exact VL.one (.sl id off len cap k b o n cap' h h1 h2 h3 h4 h5)
 | sz id off a c h hn=>exact VL.one (.sz id off a c h hn)
 | se a c h=>exact VL.one (.se a c h)
 | ns=>exact VL.one .ns
 | f fn fst cap fst' cap' h0 h hv0 hv=>exact VL.one (.f fn fst cap fst' cap' h0 h hv0 hv)
 | nf=>exact VL.one .nf
 | ifc t v v' h=>exact VL.one (.ifc t v v' h)
 | ni=>exact VL.one .ni
 | tu l cs h hv=>exact VL.one (.tu l cs h hv)
 | y id b o n h=>exact VL.one (.y id b o n h)
 | m id b o n h=>exact VL.one (.m id b o n h)
 | nm=>exact VL.one .nm
theorem Y4O (off:Nat):∀(vs:List Value) (k:Nat) (C:Array Value),off+k+vs.length<=C.size ->
  ((vs.zipIdx k).foldl (fun (cs:Array Value) x=>cs.setIfInBounds (off+x.2) x.1) C).size=C.size /\
  ∀q,((vs.zipIdx k).foldl (fun (cs:Array Value) x=>cs.setIfInBounds (off+x.2) x.1) C)[q]?=if q<off+k then C[q]? else if q<off+k+vs.length then vs[q-(off+k)]? else C[q]?
 | [],k,C,_=>⟨rfl,fun q=>by
   simp only[List.zipIdx_nil,List.foldl_nil,List.length_nil,Nat.add_zero,List.getElem?_nil]
   by_cases h:q<off+k <;> simp [h]⟩
 | v::vs,k,C,h=>by
  rw[List.zipIdx_cons,List.foldl_cons]
  have ih:=Y4O off vs (k+1) (C.setIfInBounds (off+k) v) (by simp at h ⊢;omega)
  refine ⟨by rw[ih.1];simp,fun q=>?_⟩
  rw[ih.2 q]
  have hk:off+k<C.size:=by simp at h;omega
  rw[Array.getElem?_setIfInBounds]
  by_cases h1:q<off+k
  ·rw[if_pos (by omega),if_neg (by omega),if_pos h1]
  ·rw[if_neg h1]
   by_cases h2:q=off+k
   ·subst h2
    rw[if_pos (by omega),if_pos rfl,if_pos hk,if_pos (by simp),Nat.sub_self]
    rfl
   ·have e1:¬q<off+(k+1):=by omega
    rw[if_neg e1]
    by_cases h3:q<off+(k+1)+vs.length
    ·have h4:q<off+k+(v::vs).length:=by simp;omega
     rw[if_pos h3,if_pos h4]
     have:q-(off+k)=(q-(off+(k+1)))+1:=by omega
     rw[this,List.getElem?_cons_succ]
    ·have h4:¬q<off+k+(v::vs).length:=by simp;omega
     have h5:¬off+k=q:=fun e=>h2 e.symm
     rw[if_neg h3,if_neg h4,if_neg h5]
def YdU (ρ:Mp) (place:Nat->Option (Nat×Nat)) (ev:Opd->AV):List (Nat×Nat×Opd)->List (Nat×Value)->Prop
 | [],[]=>True
 | (off,sz,x)::ps,(i,v)::vs=>place i=some (off,sz)/\VR ρ (ev x) v/\YdU ρ place ev ps vs
 | _,_=>False
theorem JUL {ρ:Mp} {place:Nat->Option (Nat×Nat)} {ev:Opd->AV}:∀(ps:List (Nat×Nat×Opd)) (vs:List (Nat×Value)) (X:List AV) (C:Array Value) (Y:List AV),YdU ρ place ev ps vs->VL ρ X C->zlr ev X ps=some Y->∃D,Instr.fill place C vs=some D/\VL ρ Y D
 | [],[],X,C,Y,_,hv,e=>by
  cases e
  exact ⟨C,rfl,hv⟩
 | [],_::_,X,C,Y,h,_,_=>h.elim
 | (off,sz,x)::ps,[],X,C,Y,h,_,_=>h.elim
 | (off,sz,x)::ps,(i,v)::vs,X,C,Y,h,hv,e=>by
  obtain ⟨hp,hx,hrest⟩:=h
  simp only[zlr]at e
  split at e
  ·rename_i hc
   obtain ⟨h1,h2,h3⟩:=hc
   have hcv:=hx.cellsVL h3
   have hsz:v.cells.size=sz:=by rw[<-hcv.1];exact h1
   have hC:C.size=X.length:=hv.1.symm
   have hf:=Y4O off v.cells.toList 0 C (by simp;omega)
   have hz:v.cells.zipIdx.foldl (fun (cs:Array Value) (x:Value×Nat)=>cs.setIfInBounds (off+x.2) x.1) C=(v.cells.toList.zipIdx 0).foldl (fun (cs:Array Value) x=>cs.setIfInBounds (off+x.2) x.1) C:=by
    rw[<-Array.foldl_toList,Array.toList_zipIdx]
   have hvl:VL ρ (over X off (ev x).cells) ((v.cells.toList.zipIdx 0).foldl (fun (cs:Array Value) x=>cs.setIfInBounds (off+x.2) x.1) C):=by
    refine ⟨by rw[Y4l _ _ _ (by omega),hf.1];exact hv.1,fun q a c ha hc=>?_⟩
    rw[Q6j _ _ _ (by omega)]at ha
    rw[hf.2 q]at hc
    simp only[Nat.add_zero,Array.length_toList,Array.getElem?_toList]at hc
    have hl:(ev x).cells.length=v.cells.size:=hcv.1
    by_cases q1:q<off
    ·rw[if_pos q1]at ha hc
     exact hv.2 q a c ha hc
    ·rw[if_neg q1]at ha hc
     by_cases q2:q<off+(ev x).cells.length
     ·rw[if_pos q2]at ha
      rw[if_pos (by omega)]at hc
      exact hcv.2 _ a c ha hc
     ·rw[if_neg q2]at ha
      rw[if_neg (by omega)]at hc
      exact hv.2 q a c ha hc
   obtain ⟨D,hD,hY⟩:=JUL ps vs _ _ Y hrest hvl e
   refine ⟨D,?_,hY⟩
   have hno:(decide (v.cells.size≠sz)||decide (off+v.cells.size > C.size))=false:=by
    simp
    omega
   simp only[Instr.fill,hp]
   rw[<-hD,<-hz]
   split
   ·rename_i hq
    rw[hno]at hq
    cases hq
   ·rfl
  ·cases e
theorem ZHO {ρ:Mp} (t:TypeId) {fs:Array Field} {i:TypeInfo} {z:Value} (ht:P.underlying t=some (.struct fs)) (hi:P.info? t=some i) (hz:i.zero=some z) {places:Array (Nat×Nat)} (hpl:∀w,(fs.mapM fun f=>do pure (f.offset,<-sizeOf f.type):Sem (Array (Nat×Nat))).run P w=.ok places w)
  {ev:Opd->AV} {ps:List (Nat×Nat×Opd)} {parts:Array (Nat×Value)} (hp:YdU ρ (places[·]?) ev ps parts.toList) {X Y:List AV} (hX:VL ρ X z.cells) (e:zlr ev X ps=some Y):Ans P ρ (Instr.build t parts) (.ag Y):=by
 obtain ⟨D,hD,hY⟩:=JUL ps parts.toList X z.cells Y hp hX e
 refine Ans.mk (v:=.agg D) (fun w=>?_) (XC9 hY)
 have hpl':=hpl w
 simp only[bind_pure_comp]at hpl'
 simp [Instr.build,zeroValue,typeInfo,hi,hz,run_underlying ht,hpl',hD]
theorem zLg {ρ:Mp} (t e:TypeId) {n:Nat} {i ie:TypeInfo} {z:Value} (ht:P.underlying t=some (.array n e)) (hi:P.info? t=some i) (hz:i.zero=some z) (hie:P.info? e=some ie)
  {ev:Opd->AV} {ps:List (Nat×Nat×Opd)} {parts:Array (Nat×Value)} (hp:YdU ρ (fun k=>some (k*ie.size,ie.size)) ev ps parts.toList) {X Y:List AV} (hX:VL ρ X z.cells) (er:zlr ev X ps=some Y):Ans P ρ (Instr.build t parts) (.ag Y):=by
 obtain ⟨D,hD,hY⟩:=JUL ps parts.toList X z.cells Y hp hX er
 exact Ans.mk (v:=.agg D) (fun w=>by simp [Instr.build,zeroValue,typeInfo,hi,hz,run_underlying ht,sizeOf,hie,hD]) (XC9 hY)
theorem QoQ {ρ:Mp} {h:List AB} {w:World} (hr:Rel K ρ h w) (t e:TypeId) {ie:TypeInfo} {z:Value} (ht:P.underlying t=some (.slice e)) (hie:P.info? e=some ie) (hz:ie.zero=some z) (len:Nat) (hb:len*ie.size<=2 ^ 24) (fl:Bool)
  {ev:Opd->AV} {ps:List (Nat×Nat×Opd)} {parts:Array (Nat×Value)} (hp:YdU ρ (fun k=>some (k*ie.size,ie.size)) ev ps parts.toList) {X Y:List AV} (hX:VL ρ X ((Array.range (len*ie.size)).map (z.cells[· % z.cells.size]!))) (er:zlr ev X ps=some Y) (hm:len<=maxLen) {r:AV×List AB} (en:newB h fl Y (fun n=>.sl n 0 len len none)=some r) :
  Good K P ρ h w (Instr.buildSlice t len parts) r:=by
 obtain ⟨D,hD,hY⟩:=JUL ps parts.toList X _ Y hp hX er
 obtain ⟨v',w',ρ',h1,h2⟩:=YL2 (P:=P) hr e fl hY len len (Nat.le_refl _) hm en
 refine ⟨v',w',ρ',?_,h2⟩
 rw[<-h1]
 have hb':¬(len*ie.size > 2 ^ 24):=by omega
 by_cases h0:len*ie.size=0
 ·have e0:∀f:Nat->Value,(Array.range (len*ie.size)).map f = #[]:=fun f=>by rw[h0];simp
  rw[e0]at hD
  simp only[Instr.buildSlice,Sem.run_bind,run_underlying ht,Result.andThen_ok,sizeOf,typeInfo,run_program,hie,Sem.run_pure,hb',if_false,e0]
  simp [h0,hD]
 ·simp only[Instr.buildSlice,Sem.run_bind,run_underlying ht,Result.andThen_ok,sizeOf,typeInfo,run_program,hie,Sem.run_pure,hb',if_false,h0,zeroValue,hz]
  simp [hD]
theorem qwI (z:List AV) (hz:z≠[]):∀(c q:Nat),((List.replicate c z).flatten)[q]?=if q<c*z.length then z[q % z.length]? else none
 | 0,q=>by simp
 | c+1,q=>by
  have hp:0<z.length:=List.length_pos_iff.2 hz
  rw[List.replicate_succ,List.flatten_cons]
  by_cases h:q<z.length
  ·rw[List.getElem?_append_left h,if_pos (by rw[Nat.add_mul];omega),Nat.mod_eq_of_lt h]
  ·rw[List.getElem?_append_right (by omega),qwI z hz c]
   have hm:(q-z.length) % z.length=q % z.length:=by
    rw[Nat.mod_eq_sub_mod (by omega:q ≥ z.length)]
   rw[hm,Nat.add_mul,Nat.one_mul]
   by_cases h2:q-z.length<c*z.length
   ·rw[if_pos h2,if_pos (by omega)]
   ·rw[if_neg h2,if_neg (by omega)]
theorem ZK0 {ρ:Mp} {ie:TypeInfo} {z:Value} (hzs:z.cells.size=ie.size) (hs0:ie.size≠0) {zl:List AV} (hzl:VL ρ zl z.cells) (c:Nat):VL ρ ((List.replicate c zl).flatten) ((Array.range (c*ie.size)).map (z.cells[· % z.cells.size]!)):=by
 have hne:zl≠[]:=fun e=>by
  subst e
  have:=hzl.1
  simp at this
  omega
 have hl:zl.length=ie.size:=by rw[hzl.1,hzs]
 refine ⟨by simp [hl],fun q a b ha hb=>?_⟩
 rw[qwI zl hne]at ha
 split at ha
 ·rename_i hq
  rw[hl]at hq ha
  simp only[Array.getElem?_map]at hb
  obtain ⟨q',hq',rfl⟩:=Option.map_eq_some_iff.1 hb
  have:q'=q:=by
   obtain ⟨hlt,he⟩:=Array.getElem?_eq_some_iff.1 hq'
   rw[<-he]
   simp
  subst this
  have hlt:q' % ie.size<z.cells.size:=by rw[hzs];exact Nat.mod_lt _ (by omega)
  rw[hzs,getElem!_pos z.cells _ hlt]
  exact hzl.2 _ a _ ha (Array.getElem?_eq_getElem hlt)
 ·cases ha
theorem KK7 {ρ:Mp} {h:List AB} {w:World} (hr:Rel K ρ h w) (t e:TypeId) {ie:TypeInfo} {z:Value} (ht:P.underlying t=some (.slice e)) (hie:P.info? e=some ie) (hz:ie.zero=some z) (hzs:z.cells.size=ie.size) (hs0:ie.size≠0) (fl:Bool) {zl:List AV} (hzl:VL ρ zl z.cells)
  {k k':IntKind} {l c:Int} (h0:0<=l) (h1:l<=c) (h2:(ie.bytes:Int)*c<=2 ^ 47) (h3:c<=maxLen) {r:AV×List AB} (en:newB h fl ((List.replicate c.toNat zl).flatten) (fun n=>.sl n 0 l.toNat c.toNat none)=some r) :
  Good K P ρ h w (Instr.makeSlice t (.int k l) (.int k' c)) r:=by
 have hY:=ZK0 (ρ:=ρ) hzs hs0 hzl c.toNat
 have hcm:c.toNat<=maxLen:=by omega
 obtain ⟨v',w',ρ',g1,g2⟩:=YL2 (P:=P) hr e fl hY l.toNat c.toNat (by omega) hcm en
 refine ⟨v',w',ρ',?_,g2⟩
 rw[<-g1]
 have wl:IntKind.i64.wrap l=l:=IntWalk.i64_in _ (by unfold maxLen at h3;omega)
 have wc:IntKind.i64.wrap c=c:=IntWalk.i64_in _ (by unfold maxLen at h3;omega)
 have t1:¬(c<0):=by omega
 have t2:¬((ie.bytes:Int)*c > 2 ^ 48):=by omega
 have t3:¬(l<0):=by omega
 have t4:¬(l > c):=by omega
 have t5:(281474976710656<(ie.bytes:Int)*c)=False:=by simp;omega
 by_cases hn:c.toNat*ie.size=0
 ·have hc0:c.toNat=0:=by
   rcases Nat.mul_eq_zero.1 hn with q|q
   ·exact q
   ·exact absurd q hs0
  have hz0:c=0:=by omega
  subst hz0
  have hl0:l=0:=by omega
  subst hl0
  have er0:Array.range 0 = #[]:=rfl
  simp [Instr.makeSlice,run_underlying ht,asInt,asIntOf,typeInfo,hie,sizeOf,wl,er0]
 ·have hz1:z.cells.size=ie.size:=hzs
  have hne:¬(c.toNat=0\/ie.size=0):=fun q=>hn (by rcases q with q|q <;> simp [q])
  have ht3:decide (l<0)=false:=by simpa using h0
  have ht4:decide (c<l)=false:=by simpa using h1
  simp [Instr.makeSlice,run_underlying ht,asInt,asIntOf,typeInfo,hie,sizeOf,wl,wc,zeroValue,hz,t5,t1]
  rw[if_neg (by omega)]
  first|done|(intro hq;exact absurd hq hn)|(rw[if_neg hn])
end
end
end Go.Proofs.YtekeoichmdiiiaaGreat
