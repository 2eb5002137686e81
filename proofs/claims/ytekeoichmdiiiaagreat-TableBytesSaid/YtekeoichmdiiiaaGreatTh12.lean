/- Part 12 of what the laws' proofs rest on. No condition. -/
import Derived.Test.YtekeoichmdiiiaaGreatTh11
set_option linter.all false
namespace Go.Proofs.YtekeoichmdiiiaaGreat
section
open Go.RowKit
theorem JJx {g:GT} {h:List AB} {id:Nat} (hg:blkO (g id)=blkO (h[id]?)) {f m:Bool} {x:List AV} (e:g id=some (.blk f m x)):h[id]?=some (.blk f m x):=by
 rw[e]at hg
 simp only[blkO]at hg
 split at hg
 ·rename_i a b c q
  cases hg
  exact q
 ·cases hg
 ·cases hg
 ·cases hg
theorem Xf3 {g:GT} {h:List AB} {id:Nat} (hg:blkO (g id)=blkO (h[id]?)) {t:ByteArray} {p:Nat} (e:g id=some (.iter t p)):h[id]?=some (.iter t p):=by
 rw[e]at hg
 simp only[blkO]at hg
 split at hg
 ·cases hg
 ·rename_i a b q
  cases hg
  exact q
 ·cases hg
 ·cases hg
theorem XjG {g:GT} {h:List AB} {id:Nat} (hg:blkO (g id)=blkO (h[id]?)) {m:Bool} {k:MKd} {x:List AV} (e:g id=some (.mo m k x)):h[id]?=some (.mo m k x):=by
 rw[e]at hg
 simp only[blkO]at hg
 split at hg
 ·cases hg
 ·cases hg
 ·rename_i a b c q
  cases hg
  exact q
 ·cases hg
theorem JDh {g:GT} {h:List AB} {id:Nat} {p:List Nat×Nat×List AV} (hg:blkO (g id)=blkO (h[id]?)) (e:mapB (g id)=some p):mapB (h[id]?)=some p:=by
 unfold mapB at e
 split at e
 ·rename_i m bs c kv q
  rw[XjG hg q]
  exact e
 ·cases e
theorem zSi {g:GT} {h:List AB} {id:Nat} {p:List Nat×Nat×List AV} (hg:blkO (g id)=blkO (h[id]?)) (e:mapW (g id)=some p):mapW (h[id]?)=some p/\∃B,g id=some B:=by
 unfold mapW at e
 split at e
 ·rename_i bs c kv q
  rw[XjG hg q]
  exact ⟨e,_,q⟩
 ·cases e
theorem zg3 {g:GT} {h:List AB} (hg:∀id,blkO (g id)=blkO (h[id]?)) {x:AV} {p:List Nat×Nat×List AV} (e:JKW g x=some p):Jeg h x=some p:=by
 unfold JKW at e
 split at e
 ·exact JDh (hg _) e
 ·exact e
 ·cases e
theorem zx2 {g:GT} {h:List AB} {id:Nat} (hg:blkO (g id)=blkO (h[id]?)):rdG g id=zZU h id:=by
 unfold rdG zZU
 unfold blkO at hg
 split at hg <;> split at hg <;> simp_all
theorem zOu {g:GT} {h:List AB} (hg:∀id,blkO (g id)=blkO (h[id]?)) (n:Option Nat) (x:AV):ldG g n x=ldV h n x:=by
 unfold ldG ldV
 cases n <;> cases x <;> simp only[zx2 (hg _),XVU]
theorem Z3Y {g:GT} {h:List AB} (hg:∀id,blkO (g id)=blkO (h[id]?)) (sz:Nat) (x:AV):srcG g sz x=srcV h sz x:=by
 unfold srcG srcV
 cases x <;> simp only[zx2 (hg _)]
theorem KTg {g:GT} {h:List AB} (hg:∀id,blkO (g id)=blkO (h[id]?)) {id off:Nat} {l:List AV} {e:HE} (q:stG g id off l=some e):stB h id off l=some (appL h e)/\e.fits g:=by
 unfold stG at q
 split at q
 ·rename_i fl xs hB
  split at q
  ·rename_i hc
   cases q
   unfold stB
   rw[JJx (hg id) hB]
   simp only
   rw[if_pos hc]
   exact ⟨rfl,_,hB⟩
  ·cases q
 ·cases q
theorem Kq7 {g:GT} {h:List AB} (hg:∀id,blkO (g id)=blkO (h[id]?)) {n:Option Nat} {x y:AV} {e:HE} (q:stVG g n x y=some e):stV h n x y=some (appL h e)/\e.fits g:=by
 unfold stVG at q
 split at q
 ·split at q
  ·rename_i h1
   obtain ⟨a,b⟩:=KTg hg q
   simp only[stV]
   rw[if_pos h1]
   exact ⟨a,b⟩
  ·cases q
 ·split at q
  ·rename_i h1
   obtain ⟨a,b⟩:=KTg hg q
   simp only[stV]
   rw[if_pos h1]
   exact ⟨a,b⟩
  ·cases q
 ·cases q
theorem ZfP {g:GT} {h:List AB} {fl:Bool} {cs:List AV} {f:Nat->AV} {v:AV} {e:HE} (q:newG h.length fl cs f=some (v,e)):newB h fl cs f=some (v,appL h e)/\e.fits g:=by
 unfold newG at q
 split at q
 ·rename_i hc
  cases q
  unfold newB
  rw[if_pos hc]
  exact ⟨rfl,trivial⟩
 ·cases q
theorem KZE {g:GT} {h:List AB} (hg:∀id,blkO (g id)=blkO (h[id]?)) {fl:Bool} {sz by_:Nat} {s x v:AV} {e:HE} (q:appG g h.length fl sz by_ s x=some (v,e)):appV h fl sz by_ s x=some (v,appL h e)/\e.fits g:=by
 unfold appG at q
 unfold appV
 rw[Z3Y hg]at q
 obtain ⟨⟨m,ys⟩,hs,q⟩:=oQ.1 q
 rw[hs]
 simp only[Option.bind_some]
 dsimp only at q
 split at q
 ·rename_i hall
  rw[if_pos hall]
  split at q
  ·split at q
   ·rename_i h0
    cases q
    rw[if_pos h0]
    exact ⟨rfl,trivial⟩
   ·rename_i h0
    rw[if_neg h0]
    split at q
    ·rename_i h1
     cases q
     rw[if_pos h1]
     exact ⟨rfl,trivial⟩
    ·cases q
  ·dsimp only
   split at q
   ·rename_i h0
    cases q
    rw[if_pos h0]
    exact ⟨rfl,trivial⟩
   ·rename_i h0
    rw[if_neg h0]
    split at q
    ·rename_i h1
     obtain ⟨e',he,q⟩:=Option.map_eq_some_iff.1 q
     cases q
     obtain ⟨a,b⟩:=KTg hg he
     rw[if_pos h1,a]
     exact ⟨rfl,b⟩
    ·rename_i h1
     rw[if_neg h1]
     split at q
     ·rename_i fl' mu xs hB
      rw[JJx (hg _) hB]
      dsimp only
      split at q
      ·rename_i h2
       rw[if_pos h2]
       split at q
       ·rename_i h3
        cases q
        rw[if_pos h3]
        exact ⟨rfl,trivial⟩
       ·rename_i h3
        rw[if_neg h3]
        split at q
        ·rename_i h4
         cases q
         rw[if_pos h4]
         exact ⟨rfl,_,hB⟩
        ·rename_i h4
         rw[if_neg h4]
         split at q
         ·rename_i h5
          cases q
          rw[if_pos h5]
          exact ⟨rfl,_,hB⟩
         ·cases q
      ·cases q
     ·cases q
  ·cases q
 ·cases q
theorem ZBf {g:GT} {h:List AB} (hg:∀id,blkO (g id)=blkO (h[id]?)) {sz:Nat} {d s v:AV} {e:HE} (q:cpyG g sz d s=some (v,e)):cpyV h sz d s=some (v,appL h e)/\e.fits g:=by
 unfold cpyG at q
 unfold cpyV
 rw[Z3Y hg]at q
 obtain ⟨⟨m,ys⟩,hs,q⟩:=oQ.1 q
 rw[hs]
 simp only[Option.bind_some]
 dsimp only at q
 split at q
 ·split at q
  ·rename_i h1
   obtain ⟨e',he,q⟩:=Option.map_eq_some_iff.1 q
   cases q
   obtain ⟨a,b⟩:=KTg hg he
   dsimp only
   rw[if_pos h1,a]
   exact ⟨rfl,b⟩
  ·cases q
 ·cases q
theorem XvY {op:CO} (hm:op.mk=.free) {ev:Opd->AV} (g:GT) (h:List AB) {v:AV} {e:HE} (q:KFQ (op.runF ev [])=some (v,e)):op.run ev h=some (v,appL h e)/\e.fits g:=by
 rw[YNQ]at q
 unfold KFQ at q
 split at q
 ·rename_i v' h0 hr
  cases q
  rw[X32 hm,hr]
  exact ⟨rfl,trivial⟩
 ·cases q
theorem J42 (op:CO) (hc:op.isCall=none) {ev:Opd->AV} {g:GT} {h:List AB} (hg:∀id,blkO (g id)=blkO (h[id]?)) {v:AV} {e:HE} (q:opE op ev g h.length=some (v,e)):op.run ev h=some (v,appL h e)/\e.fits g:=by
 cases op with
 | call f args=>cases hc
 | stop=>cases q
 | ld n x =>
  change valG (ldG g n (ev x))=_ at q
  rw[zOu hg]at q
  unfold valG at q
  split at q
  ·rename_i v' hv
   cases q
   simp only[CO.run]
   rw[hv]
   exact ⟨rfl,trivial⟩
  ·cases q
 | st n x y =>
  change untG (stVG g n (ev x) (ev y))=_ at q
  unfold untG at q
  split at q
  ·rename_i e' he
   cases q
   obtain ⟨a,b⟩:=Kq7 hg he
   simp only[CO.run]
   rw[a]
   exact ⟨rfl,b⟩
  ·cases q
 | new fl zs =>
  change newG h.length fl zs (fun n=>.p n 0)=_ at q
  exact ZfP q
 | box fl n x =>
  change (if (ev x).cells.length=n then newG h.length fl (ev x).cells (fun n=>.p n 0) else none)=_ at q
  simp only[CO.run]
  split at q
  ·rename_i h1
   rw[if_pos h1]
   exact ZfP q
  ·cases q
 | bls fl k zs ps =>
  change ((zlr ev zs ps).bind fun cs=>newG h.length fl cs (fun n=>.sl n 0 k k none))=_ at q
  simp only[CO.run]
  obtain ⟨cs,hcs,q⟩:=oQ.1 q
  rw[hcs]
  exact ZfP q
 | mks fl z by_ le ca =>
  change (match ev le,ev ca with
   | .i _ l,.i _ c=>if 0<=l/\l<=c/\(by_:Int)*c<=2 ^ 47/\c<=maxLen then newG h.length fl ((List.replicate c.toNat z).flatten) (fun n=>.sl n 0 l.toNat c.toNat none) else none
   | _,_=>none)=_ at q
  simp only[CO.run]
  split at q
  ·rename_i h1 h2
   rw[h1,h2]
   dsimp only
   split at q
   ·rename_i h3
    rw[if_pos h3]
    exact ZfP q
   ·cases q
  ·cases q
 | app str fl sz b s x =>
  change (if (ev x).isStr=str then appG g h.length fl sz b (ev s) (ev x) else none)=_ at q
  simp only[CO.run]
  split at q
  ·rename_i h1
   rw[if_pos h1]
   exact KZE hg q
  ·cases q
 | cpy str sz d s =>
  change (if (ev s).isStr=str then cpyG g sz (ev d) (ev s) else none)=_ at q
  simp only[CO.run]
  split at q
  ·rename_i h1
   rw[if_pos h1]
   exact ZBf hg q
  ·cases q
 | apz fl z by_ s n =>
  change (match ev s,ev n with
   | .ns,.i _ m=>if m=0 then some (AV.ns,HE.z) else if 0<m/\m.toNat*by_<=140737488355328/\m.toNat<=maxLen then newG h.length fl ((List.replicate m.toNat z).flatten) (fun k=>.sl k 0 m.toNat m.toNat (some z.length)) else none
   | _,_=>none)=_ at q
  simp only[CO.run]
  split at q
  ·rename_i h1 h2
   rw[h1,h2]
   dsimp only
   split at q
   ·rename_i h3
    cases q
    rw[if_pos h3]
    exact ⟨rfl,trivial⟩
   ·rename_i h3
    rw[if_neg h3]
    split at q
    ·rename_i h4
     rw[if_pos h4]
     exact ZfP q
    ·cases q
  ·cases q
 | b2s x =>
  change (if (ev x).isStr then none else (srcG g 1 (ev x)).bind fun (_,cs)=>(bytesOf cs).map fun l=>(AV.s l,HE.z))=_ at q
  simp only[CO.run]
  rw[Z3Y hg]at q
  split at q
  ·cases q
  ·rename_i h1
   rw[if_neg h1]
   obtain ⟨⟨m,cs⟩,hs,q⟩:=oQ.1 q
   obtain ⟨l,hl,q⟩:=Option.map_eq_some_iff.1 q
   cases q
   rw[hs]
   simp only[Option.bind_some]
   rw[hl]
   exact ⟨rfl,trivial⟩
 | clr z x =>
  change (match ev x with
   | .ns=>some (AV.tu [],HE.z)
   | .se=>some (AV.tu [],HE.z)
   | .sl id off n _ _=>if n=0 then some (AV.tu [],HE.z) else untG (stG g id off ((List.replicate n z).flatten))
   | _=>none)=_ at q
  simp only[CO.run]
  split at q
  ·rename_i h1
   cases q
   rw[h1]
   exact ⟨rfl,trivial⟩
  ·rename_i h1
   cases q
   rw[h1]
   exact ⟨rfl,trivial⟩
  ·rename_i h1
   rw[h1]
   dsimp only
   split at q
   ·rename_i h2
    cases q
    rw[if_pos h2]
    exact ⟨rfl,trivial⟩
   ·rename_i h2
    rw[if_neg h2]
    unfold untG at q
    split at q
    ·rename_i e' he
     cases q
     obtain ⟨a,b⟩:=KTg hg he
     rw[a]
     exact ⟨rfl,b⟩
    ·cases q
  ·cases q
 | bcmp x y =>
  change ((srcG g 1 (ev x)).bind fun (_,xs)=>(srcG g 1 (ev y)).bind fun (_,ys)=>(bytesOf xs).bind fun l=>(bytesOf ys).map fun m=>(AV.i .i64 (Extern.BytealgCompare.cmp ⟨l.toArray⟩ ⟨m.toArray⟩),HE.z))=_ at q
  rw[Z3Y hg,Z3Y hg]at q
  simp only[CO.run]
  obtain ⟨⟨m1,xs⟩,s1,q⟩:=oQ.1 q
  obtain ⟨⟨m2,ys⟩,s2,q⟩:=oQ.1 q
  obtain ⟨l,b1,q⟩:=oQ.1 q
  obtain ⟨m,b2,q⟩:=Option.map_eq_some_iff.1 q
  cases q
  rw[s1]
  simp only[Option.bind_some]
  rw[s2]
  simp only[Option.bind_some]
  rw[b1]
  simp only[Option.bind_some]
  rw[b2]
  exact ⟨rfl,trivial⟩
 | s2b x =>
  change (match ev x with
   | .s l=>if l.length<=maxLen then some (AV.sl h.length 0 l.length l.length (some 1),HE.new (.blk true false (l.map fun b:UInt8=>.i .u8 (b.toNat:Int)))) else none
   | _=>none)=_ at q
  simp only[CO.run]
  split at q
  ·rename_i l h1
   rw[h1]
   dsimp only
   split at q
   ·rename_i h2
    cases q
    rw[if_pos h2]
    exact ⟨rfl,trivial⟩
   ·cases q
  ·cases q
 | rng x =>
  change (match ev x with
   | .s l=>some (AV.p h.length 0,HE.new (.iter ⟨l.toArray⟩ 0))
   | _=>none)=_ at q
  simp only[CO.run]
  split at q
  ·rename_i l h1
   cases q
   rw[h1]
   exact ⟨rfl,trivial⟩
  ·cases q
 | nxt x =>
  change (match ev x with
   | .p id 0=>match g id with
    | some (.iter s pos)=>if pos<s.size then some (AV.tu [.b true,.i .i64 (pos:Int),.i .i32 ((Utf8.decode s pos).1:Int)],HE.put id (.iter s (pos+(Utf8.decode s pos).2))) else some (.tu [.b false],.z)
    | _=>none
   | _=>none)=_ at q
  simp only[CO.run]
  split at q
  ·rename_i id h1
   rw[h1]
   split at q
   ·rename_i s pos h2
    have hh:=Xf3 (hg id) h2
    change (match h[id]? with
     | some (.iter s pos)=>if pos<s.size then some (AV.tu [.b true,.i .i64 (pos:Int),.i .i32 ((Utf8.decode s pos).1:Int)],h.set id (.iter s (pos+(Utf8.decode s pos).2))) else some (.tu [.b false],h)
     | _=>none)=_/\_
    rw[hh]
    change (if pos<s.size then some (AV.tu [.b true,.i .i64 (pos:Int),.i .i32 ((Utf8.decode s pos).1:Int)],h.set id (.iter s (pos+(Utf8.decode s pos).2))) else some (.tu [.b false],h))=_/\_
    split at q
    ·rename_i h3
     cases q
     rw[if_pos h3]
     exact ⟨rfl,_,h2⟩
    ·rename_i h3
     cases q
     rw[if_neg h3]
     exact ⟨rfl,trivial⟩
   ·cases q
  ·cases q
 | s2s x =>
  change (match ev x with
   | .sl id off n c k=>if n=0 then none else match g id with
    | some (.blk fl true xs)=>some (AV.sl id off n c k,HE.put id (.blk fl false xs))
    | _=>none
   | _=>none)=_ at q
  simp only[CO.run]
  split at q
  ·rename_i id off n c k h1
   rw[h1]
   split at q
   ·cases q
   ·rename_i h2
    split at q
    ·rename_i fl xs h3
     cases q
     refine ⟨?_,_,h3⟩
     change (if n=0 then none else match h[id]? with
      | some (.blk fl true xs)=>some (AV.sl id off n c k,h.set id (.blk fl false xs))
      | _=>none)=_
     rw[if_neg h2,JJx (hg id) h3]
     rfl
    ·cases q
  ·cases q
 | bix x y =>
  change (match ev x,ev y with
   | .s l,.i .u8 n=>some (AV.i .i64 (match (List.range l.length).find? fun i=>(⟨l.toArray⟩:ByteArray)[i]! == UInt8.ofNat n.toNat with|some i=>(i:Int)|none=>-1),HE.z)
   | _,_=>none)=_ at q
  simp only[CO.run]
  split at q
  ·rename_i l n h1 h2
   cases q
   rw[h1,h2]
   exact ⟨rfl,trivial⟩
  ·cases q
 | mkm =>
  cases q
  exact ⟨rfl,trivial⟩
 | mln x =>
  change (JKW g (ev x)).map _=_ at q
  obtain ⟨p,hp,q⟩:=Option.map_eq_some_iff.1 q
  cases q
  simp only[CO.run]
  rw[zg3 hg hp]
  exact ⟨rfl,trivial⟩
 | lkp ag ks ok z x k =>
  change lkG g ag ks ok z (ev x) (ev k)=_ at q
  unfold lkG at q
  obtain ⟨b,hb,q⟩:=oQ.1 q
  obtain ⟨p,hp,q⟩:=oQ.1 q
  obtain ⟨r,hr,q⟩:=Option.map_eq_some_iff.1 q
  cases q
  simp only[CO.run,lkV]
  rw[hb,zg3 hg hp]
  simp only[Option.bind_some]
  rw[hr]
  exact ⟨rfl,trivial⟩
 | mup ag ks x k y =>
  change muG g ag ks (ev x) (ev k) (ev y)=_ at q
  unfold muG at q
  split at q
  ·rename_i id hx
   obtain ⟨b,hb,q⟩:=oQ.1 q
   obtain ⟨p,hp,q⟩:=oQ.1 q
   obtain ⟨r,hr,q⟩:=Option.map_eq_some_iff.1 q
   cases q
   obtain ⟨h1,h2⟩:=zSi (hg id) hp
   simp only[CO.run,muV]
   rw[hx]
   simp only
   rw[hb,h1]
   simp only[Option.bind_some]
   rw[hr]
   exact ⟨rfl,h2⟩
  ·cases q
 | mdl ag ks x k =>
  change mdG g ag ks (ev x) (ev k)=_ at q
  unfold mdG at q
  split at q
  ·rename_i id hx
   obtain ⟨b,hb,q⟩:=oQ.1 q
   obtain ⟨p,hp,q⟩:=oQ.1 q
   obtain ⟨r,hr,q⟩:=Option.map_eq_some_iff.1 q
   cases q
   obtain ⟨h1,h2⟩:=zSi (hg id) hp
   simp only[CO.run,mdV]
   rw[hx]
   simp only
   rw[hb,h1]
   simp only[Option.bind_some]
   rw[hr]
   exact ⟨rfl,h2⟩
  ·cases q
 | mrg x =>
  change rgG g h.length (ev x)=_ at q
  unfold rgG at q
  simp only[CO.run,rgV]
  split at q
  ·rename_i id hx
   rw[hx]
   obtain ⟨p,hp,q⟩:=Option.map_eq_some_iff.1 q
   cases q
   simp only
   rw[JDh (hg id) hp]
   exact ⟨rfl,trivial⟩
  ·rename_i hx
   rw[hx]
   cases q
   exact ⟨rfl,trivial⟩
  ·cases q
 | ent x =>
  change entG g (ev x)=_ at q
  unfold entG at q
  simp only[CO.run,entV]
  split at q
  ·rename_i id hx
   rw[hx]
   split at q
   ·rename_i m s sn last mid hB
    simp only
    rw[XjG (hg id) hB]
    simp only
    obtain ⟨p,hp,q⟩:=oQ.1 q
    rw[JDh (hg mid) hp]
    simp only[Option.bind_some]
    split at q
    ·rename_i hc
     rw[if_pos hc]
     obtain ⟨b,hb,q⟩:=oQ.1 q
     obtain ⟨e,he,q⟩:=Option.map_eq_some_iff.1 q
     cases q
     rw[hb]
     simp only[Option.bind_some]
     rw[he]
     exact ⟨rfl,trivial⟩
    ·cases q
   ·cases q
  ·cases q
 | mnx x =>
  change mnxG g (ev x)=_ at q
  unfold mnxG at q
  simp only[CO.run,mnxC]
  split at q
  ·rename_i id hx
   rw[hx]
   split at q
   ·rename_i s sn last hB
    cases q
    simp only
    rw[XjG (hg id) hB]
    exact ⟨rfl,trivial⟩
   ·rename_i s sn last mid hB
    simp only
    rw[XjG (hg id) hB]
    simp only
    obtain ⟨p,hp,q⟩:=oQ.1 q
    rw[JDh (hg mid) hp]
    simp only[Option.bind_some]
    split at q
    ·rename_i hc
     rw[if_pos hc]
     unfold XMK at q
     unfold z4i
     split at q
     ·rename_i hL
      cases q
      rw[hL]
      exact ⟨rfl,trivial⟩
     ·rename_i e1 hL
      cases q
      rw[hL]
      exact ⟨rfl,_,hB⟩
     ·cases q
    ·cases q
   ·cases q
  ·cases q
 | _=>exact XvY rfl g h q
def setL:List AV->Nat->List AV->List AV
 | [],_,fr=>fr
 | a::l,k,fr=>setL l (k+1) (fr.set k a)
theorem X1i (x:AV):∀(l pre:List AV) (m:Nat),l.length<=m->setL l pre.length (pre++List.replicate m x)=pre++l++List.replicate (m-l.length) x
 | [],pre,m,_=>by simp [setL]
 | a::l,pre,m,h=>by
  obtain ⟨m',rfl⟩:∃m',m=m'+1:=⟨m-1,by simp at h;omega⟩
  have h1:(pre++List.replicate (m'+1) x).set pre.length a=(pre++[a])++List.replicate m' x:=by
   rw[List.set_append_right _ _ (Nat.le_refl _),Nat.sub_self,List.replicate_succ]
   simp
  have h2:=X1i x l (pre++[a]) m' (by simpa using h)
  simp only[setL]
  rw[h1]
  simp only[List.length_append,List.length_singleton]at h2
  rw[h2]
  simp
theorem FRel.args:∀(l:List AV) (k:Nat) {F:FR} {fr:List AV},FRel F fr->FRel (Z4C l k F) (setL l k fr)
 | [],_,_,_,h=>h
 | a::l,k,_,_,h=>FRel.args l (k+1) (h.put (some k) a)
theorem FRel.enter (l:List AV) (n:Nat) (h:l.length<=n):FRel (Z4C l 0 (FR.full n)) (l++List.replicate (n-l.length) (.tu [])):=by
 have:=FRel.args l 0 (FRel.full n)
 have e:=X1i (.tu []) l [] n h
 simp only[List.length_nil,List.nil_append]at e
 rw[e]at this
 exact this
theorem FRel.ps:∀(ps:List Nat) (az:List AV) {F:FR} {fr:List AV},FRel F fr->FRel (psT ps az F) (zHT ps az fr)
 | [],az,F,fr,h=>by
  cases az <;> exact h
 | p::ps,[],F,fr,h=>h
 | p::ps,a::az,F,fr,h=>FRel.ps ps az (h.put (some p) a)
section
variable {P:Program}
structure SoundX (P:Program) (E:RunT):Prop where
 fn:∀(g:Nat) (fn:Func) (cf:CF) (F:FR) (fr:List AV) (H:HP) (h:List AB) (v:AV) (H':HP),P.funcs[g]?=some fn->J0o P fn=some cf->FRel F fr->HRel H h->E (.fn cf) F H=some (v,H') ->
  ∃h',HRel H' h'/\AM P h.length none g [.code cf.body] fr h (fun a h''=>a=v/\h''=h')
 rd:∀(id:Nat) (asg bd:CC) (F:FR) (fr:List AV) (H:HP) (h:List AB) (v:AV) (H':HP),FRel F fr->HRel H h->E (.rd id asg bd) F H=some (v,H') ->
  ∃h',HRel H' h'/\∀g,AM P h.length (some id) g [.code asg,.br,.code bd] fr h (fun a h''=>a=v/\h''=h')
def NvOk (P:Program) (g:Nat) (f:List AV->GT->Nat->Option (AV×HE)):Prop:=
 ∀(args:List AV) (gt:GT) (h:List AB) (v:AV) (e:HE),(∀id,blkO (gt id)=blkO (h[id]?))->f args gt h.length=some (v,e)->FnC P g args h v (appL h e)/\e.fits gt
def TC.Ok (P:Program) (g:Nat):TC->Prop
 | .cf x=>∃fn,P.funcs[g]?=some fn/\J0o P fn=some x
 | .nv x=>NvOk P g x
def Z4Q (P:Program) (T:TB):Prop:=∀g c,T g=some c->c.Ok P g
theorem YgA {F:FR} {frx:List AV} (x:Opd) (h:∀t∈x.tmps,F.t.get t=nthA frx t):Opd.evT F x=Opd.ev frx x:=by
 cases x with
 | t n =>
  have:=h n (by simp [Opd.tmps])
  simp only[Opd.evT,Opd.ev]
  rw[this,QCq]
 | c v=>rfl
def Did (P:Program) (c:COper) (F:FR) (h:List AB) (v:AV) (h':List AB):Prop:=
 ∀frx:List AV,(∀t∈c.op.tmps,F.t.get t=nthA frx t)->q2n frx c.guard=some true->∀(ops:Array Oper) (i:Nat) (o:Oper),ops[i]?=some o->YXt P ops o=some c->OpOk P ops i c.dst frx h v h'
theorem QKV {c:COper} (hc:c.op.isCall=none) {F:FR} {h h':List AB} {v:AV} (q:c.op.run (Opd.evT F) h=some (v,h')):Did P c F h v h':=by
 intro frx hx hg ops i o ho hco
 obtain ⟨hk,hw⟩:=ZZw hg
 refine X2d ho hco hk hw ?_
 rw[<-q]
 refine zQS h c.op (ev:=Opd.ev frx) (ev':=Opd.evT F) (fun v=>rfl) fun t ht=>?_
 have:=hx t ht
 simp only[Opd.evT,Opd.ev]
 rw[this,QCq]
theorem KCN {T:TB} {E:RunT} (hT:Z4Q P T) (hE:SoundX P E) {F:FR} {H H':HP} {h:List AB} (hH:HRel H h) {c:COper} {f:Opd} {args:List Opd} (hcc:c.op=.call f args) {v:AV}
  (e:Q9M T E (Opd.evT F f) (args.map (Opd.evT F)) H=some (v,H')):∃h',HRel H' h'/\Did P c F h v h':=by
 have evs:∀ {frx:List AV},(∀t∈c.op.tmps,F.t.get t=nthA frx t)->Opd.evT F f=Opd.ev frx f/\args.map (Opd.evT F)=args.map (Opd.ev frx):=fun {frx} hx=>by
  rw[hcc]at hx
  exact ⟨YgA f fun t q=>hx t (List.mem_append_left _ q),List.map_congr_left fun x hxm=>YgA x fun t q=>hx t (List.mem_append_right _ (List.mem_flatMap.2 ⟨x,hxm,q⟩))⟩
 unfold Q9M at e
 split at e
 ·rename_i g fst cap hf
  split at e
  ·rename_i c0 hcf
   cases c0 with
   | cf cf =>
    change (match Nat.ble (fst++args.map (Opd.evT F)++cap).length cf.ntmps with
     | true=>E (.fn cf) (Z4C (fst++args.map (Opd.evT F)++cap) 0 (FR.full cf.ntmps)) H
     | false=>none)=_ at e
    split at e
    ·rename_i hle
     obtain ⟨fn,h1,h2⟩:=hT _ _ hcf
     have hle':(fst++args.map (Opd.evT F)++cap).length<=cf.ntmps:=by simpa using hle
     obtain ⟨h',r1,r2⟩:=hE.fn g fn cf _ _ _ _ _ _ h1 h2 (FRel.enter _ _ hle') hH e
     refine ⟨h',r1,fun frx hx hg ops i o ho hco=>?_⟩
     obtain ⟨e1,e2⟩:=evs hx
     obtain ⟨hk,hw⟩:=ZZw hg
     rw[e2]at r2
     exact QfW ho hco hk hw hcc (by rw[<-e1];exact hf) h1 h2 r2
    ·cases e
   | nv f =>
    change appR H (f (fst++args.map (Opd.evT F)++cap) H.g H.len)=_ at e
    unfold appR at e
    split at e
    ·rename_i v' eff hq
     split at e
     ·rename_i H1 hap
      cases e
      rw[hH.len]at hq
      obtain ⟨r1,r2⟩:=(show NvOk P g f from hT _ _ hcf) _ _ h _ _ (HP.g_blk hH) hq
      refine ⟨_,hH.app r2 hap,fun frx hx hg ops i o ho hco=>?_⟩
      obtain ⟨e1,e2⟩:=evs hx
      obtain ⟨hk,hw⟩:=ZZw hg
      rw[e2]at r1
      exact XtF ho hco hk hw hcc (by rw[<-e1];exact hf) r1
     ·cases e
    ·cases e
  ·cases e
 ·rename_i id hf
  split at e
  ·rename_i st pd F0 ps asg bd hlp
   obtain ⟨B,hB,fr0,hF0,rfl⟩:=hH.here hlp
   split at e
   ·rename_i hps
    obtain ⟨h',r1,r2⟩:=hE.rd id asg bd _ _ _ _ _ _ (FRel.ps ps _ hF0) hH e
    refine ⟨h',r1,fun frx hx hg ops i o ho hco=>?_⟩
    obtain ⟨e1,e2⟩:=evs hx
    obtain ⟨hk,hw⟩:=ZZw hg
    rw[e2]at r2
    exact J2Y ho hco hk hw hcc (by rw[<-e1];exact hf) hB (by have:=Nat.eq_of_beq_eq_true hps;simpa using this) r2
   ·cases e
  ·cases e
 ·cases e
theorem z1g {op:CO} {f:Opd} {args:List Opd} (h:op.isCall=some (f,args)):op=.call f args:=by
 cases op <;> first|(cases h;done)|(simp only[CO.isCall,Option.some.injEq,Prod.mk.injEq]at h;rw[h.1,h.2])
theorem QL2 {T:TB} {E:RunT} (hT:Z4Q P T) (hE:SoundX P E) {F:FR} {H H':HP} {h:List AB} (hH:HRel H h) {c:COper} {v:AV} (e:opT T E F H c.op=some (v,H')):∃h',HRel H' h'/\Did P c F h v h':=by
 unfold opT at e
 split at e
 ·rename_i f args hcc
  exact KCN hT hE hH (z1g hcc) e
 ·rename_i hcc
  unfold appR at e
  split at e
  ·rename_i v' eff hq
   split at e
   ·rename_i H1 hap
    cases e
    rw[hH.len]at hq
    obtain ⟨a,b⟩:=J42 c.op hcc (HP.g_blk hH) hq
    exact ⟨_,hH.app b hap,QKV hcc a⟩
   ·cases e
  ·cases e
theorem QrF {F:FR} {frx:List AV} (g:Option (Nat×Bool)) (h:∀t w,g=some (t,w)->F.t.get t=nthA frx t):Jeu F g=q2n frx g:=by
 cases g with
 | none=>rfl
 | some p =>
  obtain ⟨t,w⟩:=p
  simp only[Jeu,q2n]
  rw[h t w rfl]
  rfl
theorem Q4O {T:TB} {E:RunT} (hT:Z4Q P T) (hE:SoundX P E):∀(l:List COper) {F F':FR} {H H':HP} {fr:List AV} {h:List AB},FRel F fr->HRel H h->YOF T E l F H=some (F',H') ->
  ∃fr' h',FRel F' fr'/\HRel H' h'/\∀(p:Nat) (rd:Option Nat) (fn:FuncId) (k:List CI) (R:AV->List AB->Prop),AM P p rd fn k fr' h' R->AM P p rd fn (.ops l::k) fr h R
 | [],F,F',H,H',fr,h,hF,hH,e=>by
  cases e
  exact ⟨fr,h,hF,hH,fun p rd fn k R g=>AM.go rfl g⟩
 | c::l,F,F',H,H',fr,h,hF,hH,e=>by
  change zWM T E c (YOF T E l) F H=some (F',H') at e
  unfold zWM at e
  rw[QrF c.guard (fun t w _=>hF.get t)]at e
  split at e
  ·cases e
  ·rename_i b hb
   cases b with
   | true =>
    simp only[J1N]at e
    split at e
    ·cases e
    ·rename_i v H1 h2
     obtain ⟨h1,r1,r2⟩:=QL2 hT hE hH h2
     obtain ⟨fr',h',q1,q2,q3⟩:=Q4O hT hE l (hF.put c.dst v) r1 e
     exact ⟨fr',h',q1,q2,fun p rd fn k R g=>AM.op (fun ops i o ho hc=>r2 fr (fun t _=>hF.get t) hb ops i o ho hc) (q3 p rd fn k R g)⟩
   | false =>
    simp only at e
    obtain ⟨fr',h',q1,q2,q3⟩:=Q4O hT hE l (hF.put c.dst (.tu [])) hH e
    exact ⟨fr',h',q1,q2,fun p rd fn k R g=>AM.op (fun ops i o ho hc=>KRk ho hc h hb) (q3 p rd fn k R g)⟩
end
end
section
open Go.RowKit
theorem ZSp {q:Nat->Bool} {t:FT}:∀(n:Nat),okT q n t=true->∀k,k<n->(t.get k).ok q=true
 | 0,_,k,h=>by omega
 | n+1,e,k,h=>by
  change (match okV q (t.get n) with|true=>okT q n t|false=>false)=true at e
  split at e
  ·rename_i h1
   by_cases hk:k=n
   ·subst hk
    rw[<-QPW]
    exact h1
   ·exact ZSp n e k (by omega)
  ·cases e
theorem HB.ok_of {q:Nat->Bool} {X:Option HB} {B:AB} (r:BRel X B) (h:HB.ok q X=true):B.ok q=true:=by
 cases X with
 | none =>
  rw[show B=.dead from r]
  rfl
 | some X =>
  cases X with
  | b C =>
   rw[show B=C from r]
   exact h
  | lp st pd F ps asg bd =>
   obtain ⟨fr,hF,rfl⟩:=r
   refine z7N.2 fun j a ha=>?_
   have hj:j<F.n:=by rw[hF.len];exact (List.getElem?_eq_some_iff.1 ha).1
   have:=ZSp F.n h j hj
   rw[hF.get,qGQ,ha]at this
   exact this
theorem zQv {p:Nat->Bool} {lo:Nat}:∀(n:Nat),allN p lo n=true->∀k,k<n->p (lo+k)=true
 | 0,_,k,h=>by omega
 | n+1,e,k,h=>by
  change (match p (Nat.add lo n) with|true=>allN p lo n|false=>false)=true at e
  split at e
  ·rename_i h1
   by_cases hk:k=n
   ·subst hk
    exact h1
   ·exact zQv n e k (by omega)
  ·cases e
theorem Z1k (h:HT):∀(ws:List Nat) (t:HT),(∀id∈ws,t.has id)->(∀i,(KV8 h ws t).get i=if i∈ws then h.get i else t.get i)/\∀i,(KV8 h ws t).has i↔t.has i
 | [],t,_=>⟨fun i=>by simp;rfl,fun i=>Iff.rfl⟩
 | w::ws,t,hh=>by
  obtain ⟨a,b⟩:=Z1k h ws (t.set w (h.get w)) (fun id hid=>(HT.has_set _ _ _ _).2 (hh id (List.mem_cons_of_mem _ hid)))
  refine ⟨fun i=>?_,fun i=>?_⟩
  ·change (KV8 h ws (t.set w (h.get w))).get i=_
   rw[a i]
   by_cases h1:i∈ws
   ·rw[if_pos h1,if_pos (List.mem_cons_of_mem _ h1)]
   ·rw[if_neg h1]
    by_cases h2:w=i
    ·subst h2
     rw[HT.get_same _ _ _ (hh w (List.mem_cons_self ..)),if_pos (List.mem_cons_self ..)]
    ·rw[HT.get_other _ _ _ _ h2,if_neg (fun q=>by rcases List.mem_cons.1 q with q|q;exact h2 q.symm;exact h1 q)]
  ·exact (b i).trans (HT.has_set _ _ _ _)
theorem KUX (h:HT):∀(ws:List Nat) (t:HT),(∀id∈ws,t.has id)->(∀i,(zQb h ws t).get i=if i∈ws then (h.get i).bind HB.freeze else t.get i)/\∀i,(zQb h ws t).has i↔t.has i
 | [],t,_=>⟨fun i=>by simp;rfl,fun i=>Iff.rfl⟩
 | w::ws,t,hh=>by
  obtain ⟨a,b⟩:=KUX h ws (t.set w ((h.get w).bind HB.freeze)) (fun id hid=>(HT.has_set _ _ _ _).2 (hh id (List.mem_cons_of_mem _ hid)))
  refine ⟨fun i=>?_,fun i=>?_⟩
  ·change (zQb h ws (t.set w ((h.get w).bind HB.freeze))).get i=_
   rw[a i]
   by_cases h1:i∈ws
   ·rw[if_pos h1,if_pos (List.mem_cons_of_mem _ h1)]
   ·rw[if_neg h1]
    by_cases h2:w=i
    ·subst h2
     rw[HT.get_same _ _ _ (hh w (List.mem_cons_self ..)),if_pos (List.mem_cons_self ..)]
    ·rw[HT.get_other _ _ _ _ h2,if_neg (fun q=>by rcases List.mem_cons.1 q with q|q;exact h2 q.symm;exact h1 q)]
  ·exact (b i).trans (HT.has_set _ _ _ _)
theorem BRel.freeze {X:Option HB} {B:AB} (r:BRel X B):BRel (X.bind HB.freeze) B.freeze:=by
 cases X with
 | none =>
  rw[show B=.dead from r]
  rfl
 | some X =>
  cases X with
  | b C =>
   rw[show B=C from r]
   cases C <;> rfl
  | lp st pd F ps asg bd =>
   obtain ⟨fr,hF,rfl⟩:=r
   rfl
theorem HRel.mask {H:HP} {h:List AB} (r:HRel H h) {rs ws:List Nat} (hh:∀id∈rs++ws,id<h.length):HRel (qEe H rs ws) (qRB rs ws 0 h):=by
 have ht:=r.top
 have hl:=r.len
 have full:∀i,i<16001->(HT.full 14).has i:=fun i hi=>HT.full_has 14 i (by omega)
 obtain ⟨a1,a2⟩:=KUX H.t rs (HT.full 14) (fun id hid=>full id (by have:=hh id (List.mem_append_left _ hid);omega))
 obtain ⟨b1,b2⟩:=Z1k H.t ws (zQb H.t rs (HT.full 14)) (fun id hid=>(a2 id).2 (full id (by have:=hh id (List.mem_append_right _ hid);omega)))
 refine ⟨by rw[ZOs];exact r.len,ht,fun i hi=>?_,fun i B e=>?_,fun i hi=>(b2 i).2 ((a2 i).2 (full i hi))⟩
 ·change H.len<=i at hi
  change (KV8 H.t ws (zQb H.t rs (HT.full 14))).get i=none
  rw[b1,a1,if_neg (fun q=>by have:=hh i (List.mem_append_right _ q);omega),if_neg (fun q=>by have:=hh i (List.mem_append_left _ q);omega),HT.full_get]
 ·rw[z8h,Nat.zero_add]at e
  obtain ⟨C,hC,rfl⟩:=Option.map_eq_some_iff.1 e
  change BRel ((KV8 H.t ws (zQb H.t rs (HT.full 14))).get i) _
  rw[b1,a1,HT.full_get]
  have hb:=r.blk i C hC
  split
  ·exact hb
  ·split
   ·exact hb.freeze
   ·rfl
theorem z8z (g:HT):∀(ws:List Nat) (t:HT),XKe g ws t=KV8 g ws t
 | [],_=>rfl
 | w::ws,t=>z8z g ws (t.set w (g.get w))
theorem qsZ (g:HT) (lo:Nat):∀(n:Nat) (t:HT),(∀i,i<lo+n->t.has i)->(∀i,(QlY g lo n t).get i=if lo<=i/\i<lo+n/\(g.get i).isSome=true then g.get i else t.get i)/\∀i,(QlY g lo n t).has i↔t.has i
 | 0,t,_=>⟨fun i=>by rw[if_neg (by omega)];rfl,fun i=>Iff.rfl⟩
 | n+1,t,hh=>by
  change (∀i,(QlY g lo n (match g.get (Nat.add lo n) with|some B=>t.set (Nat.add lo n) (some B)|none=>t)).get i=_)/\∀i,(QlY g lo n (match g.get (Nat.add lo n) with|some B=>t.set (Nat.add lo n) (some B)|none=>t)).has i↔_
  have e0:Nat.add lo n=lo+n:=rfl
  rw[e0]
  cases hg:g.get (lo+n) with
  | none =>
   obtain ⟨a,b⟩:=qsZ g lo n t (fun i hi=>hh i (by omega))
   refine ⟨fun i=>?_,b⟩
   dsimp only
   rw[a i]
   by_cases hi:i=lo+n
   ·subst hi
    rw[hg,if_neg (by simp),if_neg (by simp)]
   ·by_cases h1:lo<=i/\i<lo+n/\(g.get i).isSome=true
    ·rw[if_pos h1,if_pos ⟨h1.1,by omega,h1.2.2⟩]
    ·rw[if_neg h1,if_neg (fun q=>h1 ⟨q.1,by omega,q.2.2⟩)]
  | some B =>
   obtain ⟨a,b⟩:=qsZ g lo n (t.set (lo+n) (some B)) (fun i hi=>(HT.has_set _ _ _ _).2 (hh i (by omega)))
   refine ⟨fun i=>?_,fun i=>(b i).trans (HT.has_set _ _ _ _)⟩
   dsimp only
   rw[a i]
   by_cases hi:i=lo+n
   ·subst hi
    rw[if_neg (by omega),HT.get_same _ _ _ (hh _ (by omega)),if_pos ⟨by omega,by omega,by rw[hg];rfl⟩,hg]
   ·rw[HT.get_other _ _ _ _ (Ne.symm hi)]
    by_cases h1:lo<=i/\i<lo+n/\(g.get i).isSome=true
    ·rw[if_pos h1,if_pos ⟨h1.1,by omega,h1.2.2⟩]
    ·rw[if_neg h1,if_neg (fun q=>h1 ⟨q.1,by omega,q.2.2⟩)]
theorem HRel.merge {H G:HP} {h g:List AB} (r:HRel H h) (s:HRel G g) {ws:List Nat} (hh:∀id∈ws,id<h.length) (hle:h.length<=g.length):HRel (qCL ws G H) (JkA ws g 0 h):=by
 have ht:=r.top
 have hl:=r.len
 have st:=s.top
 have sl:=s.len
 obtain ⟨a1,a2⟩:=Z1k G.t ws H.t (fun id hid=>r.has id (by have:=hh id hid;omega))
 obtain ⟨b1,b2⟩:=qsZ G.t H.len (G.len-H.len) (KV8 G.t ws H.t) (fun i hi=>(a2 i).2 (r.has i (by omega)))
 have e:(qCL ws G H).t=QlY G.t H.len (G.len-H.len) (KV8 G.t ws H.t):=by
  simp only[qCL,z8z]
  rfl
 refine ⟨by rw[KVe];change G.len=_;omega,st,fun i hi=>?_,fun i B q=>?_,fun i hi=>?_⟩
 ·change G.len<=i at hi
  rw[e,b1,if_neg (by omega),a1,if_neg (fun q=>by have:=hh i q;omega)]
  exact r.out i (by omega)
 ·rw[e,b1]
  rw[Xwm,Nat.zero_add]at q
  by_cases h1:i<h.length
  ·rw[if_neg (by omega),a1]
   rw[if_pos h1]at q
   by_cases h2:i∈ws
   ·rw[if_pos h2]at q ⊢
    cases q
    rw[List.getElem?_eq_getElem (by omega:i<g.length)]
    exact s.blk i _ (List.getElem?_eq_getElem _)
   ·rw[if_neg h2]at q ⊢
    exact r.blk i B q
  ·rw[if_neg h1]at q
   have hi:i<g.length:=(List.getElem?_eq_some_iff.1 q).1
   have hb:=s.blk i B q
   by_cases h2:(G.t.get i).isSome=true
   ·rw[if_pos ⟨by omega,by omega,h2⟩]
    exact hb
   ·rw[if_neg (fun z=>h2 z.2.2),a1,if_neg (fun z=>h1 (hh i z)),r.out i (by omega)]
    have hn:G.t.get i=none:=by
     cases hq:G.t.get i with
     | none=>rfl
     | some x=>rw[hq]at h2;exact absurd rfl h2
    rw[hn]at hb
    exact hb
 ·rw[e]
  exact (b2 i).2 ((a2 i).2 (r.has i hi))
section
variable {P:Program}
structure DSx (P:Program) (len0:Nat) (d:DOp) (k:Nat) (past:List Pt) (fr:List AV) (h:List AB) (v:AV) (h':List AB) (past':List Pt) (pt:Pt):Prop where
 pk:pt.k=k
 pp:past'=pt::past\/(past'=past/\pt.rs=[]/\pt.ws=[]/\pt.lo=0/\pt.hi=0)
 ind:∀p∈past,QmL d.anc pt.rs pt.ws p=true
 vok:v.ok (qOk len0 pt.lo pt.hi d.anc past)=true
 cas:(h'=h/\pt.ws=[]/\pt.lo=0/\pt.hi=0/\(∀i∈pt.rs,i<h.length) /\
   ∀frx hx,(∀t∈d.o.tmps,nthA frx t=nthA fr t)->(∀i∈pt.rs,hx[i]?=h[i]?)->∀(ops:Array Oper) (i:Nat) (o:Oper),ops[i]?=some o->YXt P ops o=some d.o->OpOk P ops i d.o.dst frx hx v hx) \/
  (pt.lo=h.length/\pt.hi=h'.length/\(∀t∈d.o.tmps,(nthA fr t).ok (fun i=>decide (i<h.length))=true) /\
   (∀i,i∈pt.rs++pt.ws->∃B,h[i]?=some B/\B.ok (fun i=>decide (i<h.length))=true) /\
   ∃G,h'=JkA pt.ws G 0 h/\h.length<=G.length /\
    (∀id∈pt.ws,((G[id]?).getD .dead).ok (qOk len0 pt.lo pt.hi d.anc past)=true)/\(∀B∈G.drop h.length,B.ok (qOk len0 pt.lo pt.hi d.anc past)=true) /\
    ∀frx,(∀t∈d.o.tmps,nthA frx t=nthA fr t)->∀(ops:Array Oper) (i:Nat) (o:Oper),ops[i]?=some o->YXt P ops o=some d.o->OpOk P ops i d.o.dst frx (qRB pt.rs pt.ws 0 h) v G)
theorem Zrd {frx fr:List AV} {c:COper} (hx:∀t∈c.tmps,nthA frx t=nthA fr t):q2n frx c.guard=q2n fr c.guard:=by
 cases hg:c.guard with
 | none=>rfl
 | some p =>
  obtain ⟨t,w⟩:=p
  simp only[q2n]
  rw[hx t (by unfold COper.tmps;rw[hg];exact List.mem_append_left _ (List.mem_singleton.2 rfl))]
theorem J1I {fr:List AV} {c:COper} (hg:q2n fr c.guard=some true) {q:Nat->Bool} (h:∀t∈c.op.tmps,(nthA fr t).ok q=true):∀t∈c.tmps,(nthA fr t).ok q=true:=fun t ht=>by
 unfold COper.tmps at ht
 rcases List.mem_append.1 ht with ht|ht
 ·cases hgd:c.guard with
  | none=>rw[hgd]at ht;simp at ht
  | some p =>
   obtain ⟨u,w⟩:=p
   rw[hgd]at ht hg
   obtain rfl:t=u:=by simpa using ht
   simp only[q2n]at hg
   split at hg
   ·rename_i x hx
    rw[hx]
    simp [AV.ok]
   ·cases hg
   ·cases hg
 ·exact h t ht
theorem Kpq {T:TB} {E:RunT} (hT:Z4Q P T) (hE:SoundX P E) {len0:Nat} {d:DOp} {k:Nat} {past:List Pt} {F:FR} {fr:List AV} {H H':HP} {h:List AB} {rs ws:List Nat} {v:AV} {past':List Pt} (hF:FRel F fr) (hH:HRel H h) (hg:q2n fr d.o.guard=some true)
  (e:attT T E len0 k d.anc past F H d.o.op rs ws=some (v,H',past')):∃h' pt,HRel H' h'/\DSx P len0 d k past fr h v h' past' pt:=by
 have hl:=hH.len
 unfold attT at e
 split at e
 ·cases e
 ·rename_i h1
  simp only[Bool.and_eq_true]at h1
  obtain ⟨⟨h1,h2⟩,h3⟩:=h1
  have hblk:∀i,i∈rs++ws->∃B,h[i]?=some B/\B.ok (fun i=>decide (i<h.length))=true:=fun i hi=>by
   have:=List.all_eq_true.1 h2 i hi
   split at this
   ·rename_i X hX
    obtain ⟨B,hB,hr⟩:=hH.here hX
    rw[hl,QRM]at this
    exact ⟨B,hB,HB.ok_of hr this⟩
   ·cases this
  have hlt:∀i,i∈rs++ws->i<h.length:=fun i hi=>by
   obtain ⟨B,hB,_⟩:=hblk i hi
   exact (List.getElem?_eq_some_iff.1 hB).1
  split at e
  ·cases e
  ·rename_i v' G hrun
   obtain ⟨g,rG,did⟩:=QL2 hT hE (hH.mask hlt) hrun
   split at e
   ·rename_i h4
    simp only[Bool.and_eq_true]at h4
    obtain ⟨⟨⟨h4,h5⟩,h6⟩,h7⟩:=h4
    cases e
    have gl:=rG.len
    have hle:h.length<=g.length:=by
     rw[<-hl,<-gl]
     simpa [Nat.ble_eq] using h5
    rw[hl,gl]at h4 h6 h7
    refine ⟨_,⟨k,H.len,G.len,rs,ws⟩,hH.merge rG (fun id hid=>hlt id (List.mem_append_right _ hid)) hle,rfl,.inl rfl,fun p hp=>List.all_eq_true.1 h3 p hp,?_,.inr ⟨hl,?_,J1I hg fun t ht=>?_,hblk,g,rfl,hle,fun id hid=>?_,fun B hB=>?_,fun frx hx ops i o ho hco=>did frx (fun t ht=>?_) ?_ ops i o ho hco⟩⟩
    ·dsimp only
     rw[hl,gl]
     rw[QPW]at h4
     exact h4
    ·simp only[KVe]
     rw[gl]
     omega
    ·have:=List.all_eq_true.1 h1 t ht
     rw[QPW,QRM,hF.get,hl]at this
     exact this
    ·dsimp only
     rw[hl,gl]
     have:=List.all_eq_true.1 h6 id hid
     have hlt':=hlt id (List.mem_append_right _ hid)
     rw[List.getElem?_eq_getElem (by omega:id<g.length)]
     exact HB.ok_of (rG.blk id _ (List.getElem?_eq_getElem (by omega))) this
    ·dsimp only
     rw[hl,gl]
     obtain ⟨j,hj⟩:=List.mem_iff_getElem?.1 hB
     rw[List.getElem?_drop]at hj
     have hj':=(List.getElem?_eq_some_iff.1 hj).1
     exact HB.ok_of (rG.blk _ B hj) (zQv _ h7 j (by change j<g.length-h.length;omega))
    ·rw[hF.get]
     exact (hx t (List.mem_append_right _ ht)).symm
    ·rw[Zrd hx]
     exact hg
   ·cases e
noncomputable def qWf (T:TB) (E:RunT) (len0:Nat) (d:DOp) (k:Nat) (past:List Pt) (F:FR) (H:HP):Option (AV×HP×List Pt):=
 match Jeu F d.o.guard with
 | none=>none
 | some b=>match b with
  | true=>ZVR T E len0 k d.anc past F H d.o.op
  | false=>some (.tu [],H,past)
theorem ZqF {T:TB} {E:RunT} {len0:Nat} {d:DOp} {l:List DOp} {k:Nat} {past:List Pt} {F:FR} {H:HP} {r:FR×HP} (e:XQO T E len0 (d::l) k past F H=some r) :
  ∃v H' past',qWf T E len0 d k past F H=some (v,H',past')/\XQO T E len0 l (k+1) past' (F.put d.o.dst v) H'=some r:=by
 change zp6 T E len0 d (XQO T E len0 l) k past F H=some r at e
 unfold zp6 at e
 unfold qWf
 split at e
 ·cases e
 ·rename_i b hb
  rw[hb]
  cases b with
  | true =>
   simp only[Z3U]at e
   split at e
   ·cases e
   ·rename_i v h' past' hq
    exact ⟨v,h',past',hq,e⟩
  | false =>
   simp only at e
   exact ⟨_,_,_,rfl,e⟩
theorem ZtN {op:CO} (hm:op.mk=.free) {ev:Opd->AV} {g:GT} {n:Nat} {v:AV} {e:HE} (q:opE op ev g n=some (v,e)) (g':GT) (n':Nat):opE op ev g' n'=some (v,e):=by
 cases op <;> first|(cases hm;done)|exact q
theorem Z8A {T:TB} {E:RunT} (hT:Z4Q P T) (hE:SoundX P E) {len0:Nat} {d:DOp} {k:Nat} {past:List Pt} {F:FR} {fr:List AV} {H H':HP} {h:List AB} {v:AV} {past':List Pt} (hF:FRel F fr) (hH:HRel H h)
  (e:qWf T E len0 d k past F H=some (v,H',past')):∃h' pt,HRel H' h'/\DSx P len0 d k past fr h v h' past' pt:=by
 have triv:∀p:Pt,QmL d.anc [] [] p=true:=fun p=>by
  unfold QmL
  split <;> simp
 have hl:=hH.len
 have plain:∀(hx:List AB) (e':HE),d.o.op.isCall=none->e'=.z->opE d.o.op (Opd.evT F) (fun id=>hx[id]?) hx.length=some (v,e')->∀frx,(∀t∈d.o.tmps,nthA frx t=nthA fr t)->q2n fr d.o.guard=some true->∀(ops:Array Oper) (i:Nat) (o:Oper),ops[i]?=some o->YXt P ops o=some d.o->OpOk P ops i d.o.dst frx hx v hx:=by
  rintro hx e' hc rfl q frx hfx hg ops i o ho hco
  obtain ⟨a,_⟩:=J42 d.o.op hc (fun _=>rfl) q
  exact QKV (c:=d.o) hc a frx (fun t ht=>by rw[hF.get];exact (hfx t (List.mem_append_right _ ht)).symm) (by rw[Zrd hfx];exact hg) ops i o ho hco
 unfold qWf at e
 rw[QrF d.o.guard (fun t w _=>hF.get t)]at e
 split at e
 ·cases e
 ·rename_i b hg
  cases b with
  | false =>
   simp only at e
   cases e
   exact ⟨h,⟨k,0,0,[],[]⟩,hH,rfl,.inr ⟨rfl,rfl,rfl,rfl,rfl⟩,fun p _=>triv p,rfl,.inl ⟨rfl,rfl,rfl,rfl,fun i hi=>by simp at hi,fun frx hx hfx _ ops i o ho hco=>KRk ho hco hx (by rw[Zrd hfx];exact hg)⟩⟩
  | true =>
   simp only at e
   unfold ZVR at e
   split at e
   ·rename_i hm
    have hc:d.o.op.isCall=none:=by
     cases hop:d.o.op <;> rw[hop]at hm <;> first|(cases hm;done)|rfl
    unfold XJJ at e
    split at e
    ·rename_i v' hq
     split at e
     ·rename_i hok
      cases e
      rw[QPW]at hok
      exact ⟨h,⟨k,0,0,[],[]⟩,hH,rfl,.inr ⟨rfl,rfl,rfl,rfl,rfl⟩,fun p _=>triv p,hok,.inl ⟨rfl,rfl,rfl,rfl,fun i hi=>by simp at hi,fun frx hx hfx _=>plain hx .z hc rfl (ZtN hm hq _ _) frx hfx hg⟩⟩
     ·cases e
    ·cases e
   ·rename_i x hm
    have hop:∃n,d.o.op=.ld n x:=by
     cases hop:d.o.op <;> rw[hop]at hm <;> cases hm
     exact ⟨_,rfl⟩
    obtain ⟨n,hop⟩:=hop
    unfold ZUV at e
    split at e
    ·rename_i hall
     split at e
     ·rename_i v' hq
      split at e
      ·rename_i hok
       cases e
       rw[QPW]at hok
       rw[hop]at hq
       change valG (ldG H.g n (Opd.evT F x))=_ at hq
       rw[zOu (HP.g_blk hH)]at hq
       have hld:ldV h n (Opd.evT F x)=some v:=by
        unfold valG at hq
        split at hq
        ·rename_i u hu
         cases hq
         exact hu
        ·cases hq
       refine ⟨h,⟨k,0,0,idOf (Opd.evT F x),[]⟩,hH,rfl,.inl rfl,fun p hp=>List.all_eq_true.1 hall p hp,hok,.inl ⟨rfl,rfl,rfl,rfl,fun i hi=>?_,fun frx hx hfx hhx=>plain hx .z (by rw[hop];rfl) rfl ?_ frx hfx hg⟩⟩
       ·have key:∀ {id:Nat} {xs:List AV},zZU h id=some xs->id<h.length:=fun {id xs} q=>by
         unfold zZU at q
         split at q
         ·rename_i h1
          exact (List.getElem?_eq_some_iff.1 h1).1
         ·cases q
        dsimp only at hi
        cases hx:Opd.evT F x with
        | p id off =>
         rw[hx]at hi hld
         obtain rfl:i=id:=by simpa [idOf] using hi
         cases n <;> simp only[ldV]at hld <;> obtain ⟨xs,hxs,_⟩:=oQ.1 hld <;> exact key hxs
        | _=>rw[hx]at hld;cases n <;> cases hld
       ·rw[hop]
        change valG (ldG (fun id=>hx[id]?) n (Opd.evT F x))=_
        rw[zOu (h:=hx) (fun _=>rfl),QxO hhx,hld]
        rfl
      ·cases e
     ·cases e
    ·cases e
   ·unfold qNX at e
    split at e
    ·rename_i r hr
     cases e
     exact Kpq hT hE hF hH hg hr
    ·exact Kpq hT hE hF hH hg e
   ·exact Kpq hT hE hF hH hg e
theorem YbT {T:TB} {E:RunT} (hT:Z4Q P T) (hE:SoundX P E) {len0:Nat}:∀(l:List DOp) (k:Nat) (past:List Pt) (F:FR) (H:HP) (fr:List AV) (h:List AB) (r:FR×HP),FRel F fr->HRel H h->XQO T E len0 l k past F H=some r ->
  ∃(S:Nat->St) (V:Nat->AV) (PT:Nat->Pt),S 0=⟨fr,h,past⟩/\(∀j d,l[j]?=some d->DSx P len0 d (k+j) (S j).past (S j).fr (S j).h (V j) (S (j+1)).h (S (j+1)).past (PT j)/\(S (j+1)).fr=put (S j).fr d.o.dst (V j)) /\
   FRel r.1 (S l.length).fr/\HRel r.2 (S l.length).h
 | [],k,past,F,H,fr,h,r,hF,hH,e=>by
  cases e
  exact ⟨fun _=>⟨fr,h,past⟩,fun _=>.tu [],fun _=>⟨0,0,0,[],[]⟩,rfl,fun j d q=>by simp at q,hF,hH⟩
 | d::l,k,past,F,H,fr,h,r,hF,hH,e=>by
  obtain ⟨v,H',past',hs,e⟩:=ZqF e
  obtain ⟨h',pt,hH',hpt⟩:=Z8A hT hE hF hH hs
  obtain ⟨S,V,PT,s0,s1,s2,s3⟩:=YbT hT hE l (k+1) past' _ H' _ h' r (hF.put d.o.dst v) hH' e
  refine ⟨fun j=>Nat.casesOn j ⟨fr,h,past⟩ S,fun j=>Nat.casesOn j v V,fun j=>Nat.casesOn j pt PT,rfl,fun j d' hd=>?_,s2,s3⟩
  cases j with
  | zero =>
   cases hd
   refine ⟨?_,?_⟩
   ·change DSx P len0 d (k+0) past fr h v (S 0).h (S 0).past pt
    rw[s0]
    exact hpt
   ·change (S 0).fr=put fr d.o.dst v
    rw[s0]
  | succ j =>
   have:=s1 j d' (by simpa using hd)
   rw[show k+1+j=k+(j+1) by omega]at this
   exact this
theorem J5T {T:TB} {E:RunT} (hT:Z4Q P T) (hE:SoundX P E) {ops:Array Oper} {l:List (COper×List Nat)} (hl:qmN P ops (List.range ops.size)=some l) (hok:qXC [] (clos [] l) (l.map (·.2))=true)
  {F F':FR} {H0 H':HP} {fr:List AV} {h:List AB} (hF:FRel F fr) (hH:HRel H0 h) (e:XQO T E H0.len (clos [] l) 0 [] F H0=some (F',H')) :
  ∃(DS:Nat->DOp) (FR:Nat->List AV) (H:Nat->List AB) (V:Nat->AV) (PT:Nat->Pt),Can P ops ops.size h.length DS FR H V PT/\FR 0=fr/\H 0=h/\FRel F' (FR ops.size)/\HRel H' (H ops.size):=by
 rw[hH.len]at e
 obtain ⟨S,V,PT,s0,s1,s2,s3⟩:=YbT hT hE (clos [] l) 0 [] F H0 fr h _ hF hH e
 obtain ⟨c1,c2⟩:=qjF hl
 rw[List.length_range]at c1
 have hlen:(clos [] l).length=ops.size:=by rw[ZeO,c1]
 rw[hlen]at s2 s3
 let DS:Nat->DOp:=fun k=>((clos [] l)[k]?).getD ⟨⟨none,none,.stop⟩,0,0⟩
 have dget:∀k,k<ops.size->(clos [] l)[k]?=some (DS k):=fun k hk=>by
  simp only[DS]
  rw[List.getElem?_eq_getElem (by omega)]
  rfl
 have K:∀k,k<ops.size->∃o,ops[k]?=some o/\YXt P ops o=some (DS k).o/\(DS k).us=K89 (DS k).o.tmps/\l[k]?=some ((DS k).o,zqT o) /\
   (DS k).anc=(zqT o).foldl (fun m x=>Nat.lor m (Nat.lor (Nat.shiftLeft 1 x) (([]++((clos [] l).map DOp.anc).take k).getD x 0))) 0:=fun k hk=>by
  obtain ⟨c,deps,h1,h2,h3,h4⟩:=YtZ l [] k (DS k) (dget k hk)
  obtain ⟨i,o,h5,h6,h7,rfl⟩:=c2 k c deps h1
  rw[List.getElem?_range hk]at h5
  cases h5
  exact ⟨o,h6,by rw[h2];exact h7,by rw[h2];exact h3,by rw[h2];exact h1,h4⟩
 have T1:∀k,k<ops.size->DSx P h.length (DS k) k (S k).past (S k).fr (S k).h (V k) (S (k+1)).h (S (k+1)).past (PT k)/\(S (k+1)).fr=put (S k).fr (DS k).o.dst (V k):=fun k hk=>by
  have:=s1 k (DS k) (dget k hk)
  rw[Nat.zero_add]at this
  exact this
 have hdr:=QUW _ _ _ hok
 have D1:∀k,k<ops.size->∀o,ops[k]?=some o->(∀x∈zqT o,bit x (DS k).anc=true)/\(DS k).anc<2 ^ k/\zif (DS k) 0 ((clos [] l).take k)=true:=fun k hk o ho=>by
  obtain ⟨o',h1,_,_,h4,_⟩:=K k hk
  rw[h1]at ho
  cases ho
  have:=hdr.2 k (DS k) (zqT o) (dget k hk) (by rw[List.getElem?_map,h4];rfl)
  simpa using this
 have lt:∀k,k<ops.size->∀j,bit j (DS k).anc=true->j<k:=fun k hk j hj=>by
  obtain ⟨o',h1,_⟩:=K k hk
  exact qRw (D1 k hk o' h1).2.1 hj
 have past:∀k,k<=ops.size->(∀p∈(S k).past,∃m,m<k/\p=PT m)/\(∀m,m<k->PT m∈(S k).past\/((PT m).rs=[]/\(PT m).ws=[]/\(PT m).lo=0/\(PT m).hi=0)):=by
  intro k
  induction k with
  | zero =>
   intro _
   rw[s0]
   exact ⟨fun p hp=>by simp at hp,fun m hm=>by omega⟩
  | succ k ih =>
   intro hk
   obtain ⟨i1,i2⟩:=ih (by omega)
   have hd:=(T1 k (by omega)).1
   rcases hd.pp with q|⟨q,r⟩
   ·rw[q]
    refine ⟨fun p hp=>?_,fun m hm=>?_⟩
    ·rcases List.mem_cons.1 hp with rfl|hp
     ·exact ⟨k,by omega,rfl⟩
     ·obtain ⟨m,hm,rfl⟩:=i1 p hp
      exact ⟨m,by omega,rfl⟩
    ·by_cases e:m=k
     ·subst e
      exact .inl (List.mem_cons_self ..)
     ·exact (i2 m (by omega)).imp (List.mem_cons_of_mem _) (fun x=>x)
   ·rw[q]
    refine ⟨fun p hp=>?_,fun m hm=>?_⟩
    ·obtain ⟨m,hm,rfl⟩:=i1 p hp
     exact ⟨m,by omega,rfl⟩
    ·by_cases e:m=k
     ·subst e
      exact .inr r
     ·exact i2 m (by omega)
 have pk:∀k,k<ops.size->(PT k).k=k:=fun k hk=>(T1 k hk).1.pk
 have own:∀k,k<ops.size->∀id,qOk h.length (PT k).lo (PT k).hi (DS k).anc (S k).past id=true->ownQ h.length PT (fun k=>(DS k).anc) k id=true:=fun k hk id hq=>by
  simp only[qOk,Bool.or_eq_true,Bool.and_eq_true,Nat.blt_eq,Nat.ble_eq,List.any_eq_true]at hq
  simp only[ownQ,decide_eq_true_eq]
  rcases hq with (hq|hq)|⟨p,hp,hq⟩
  ·exact .inl hq
  ·exact .inr ⟨k,Nat.le_refl _,.inl rfl,hq.1,hq.2⟩
  ·obtain ⟨m,hm,rfl⟩:=(past k (by omega)).1 p hp
   rw[pk m (by omega)]at hq
   exact .inr ⟨m,by omega,.inr hq.1.1,hq.1.2,hq.2⟩
 refine ⟨DS,fun k=>(S k).fr,fun k=>(S k).h,V,PT,⟨rfl,fun k hk=>(T1 k hk).2,fun k hk=>?_,by simp [s0],fun k hk=>?_,fun k hk i hi=>?_,fun k hk i hi=>?_,fun j k hjk hk=>?_,fun k hk=>?_,fun k hk i B hi hB=>?_,fun j k hjk hk=>?_,lt,fun k hk o ho=>(D1 k hk o ho).1,fun k hk o ho m hm=>?_,fun k hk=>?_⟩,by simp [s0],by simp [s0],s2,s3⟩
 ·rcases (T1 k hk).1.cas with ⟨q,_⟩|⟨_,_,_,_,G,q,q2,_⟩
  ·rw[q];exact Nat.le_refl _
  ·rw[q,KVe];omega
 ·rcases (T1 k hk).1.cas with ⟨_,_,q,q',_⟩|⟨q,q',_⟩
  ·exact .inl ⟨q,q'⟩
  ·exact .inr ⟨q,q'⟩
 ·rcases (T1 k hk).1.cas with ⟨q,_⟩|⟨q,q',_,_,G,hG,q2,_⟩
  ·rw[q]
  ·have hn:=K3K.1 hi
   rw[hG,Xwm,Nat.zero_add,if_neg hn.1]
   split
   ·rfl
   ·rename_i hlt
    rw[hG,KVe]at q'
    rw[q,q']at hn
    have h1:G.length<=i:=by have:=hn.2;omega
    rw[List.getElem?_eq_none h1,List.getElem?_eq_none (by omega)]
 ·rcases (T1 k hk).1.cas with ⟨_,q,_,_,q',_⟩|⟨_,_,_,q,_⟩
  ·rw[q,List.append_nil]at hi
   exact q' i hi
  ·obtain ⟨B,hB,_⟩:=q i hi
   exact (List.getElem?_eq_some_iff.1 hB).1
 ·rcases (past k (by omega)).2 j hjk with q|⟨q1,q2,q3,q4⟩
  ·have:=(T1 k hk).1.ind _ q
   unfold QmL at this
   rw[pk j (by omega)]at this
   split at this
   ·rename_i hb
    exact .inl hb
   ·simp only[Bool.and_eq_true,List.all_eq_true,Bool.not_eq_true']at this
    refine .inr ⟨fun i hi=>this.1 i hi,fun i hi hm=>?_⟩
    have:=this.2 i hi
    rw[qS5.2 hm]at this
    cases this
  ·refine .inr ⟨fun i _=>K3K.2 ⟨by rw[q2];simp,by omega⟩,fun i _ hm=>?_⟩
   rw[q1,q2]at hm
   simp at hm
 ·exact AV.ok_mono (own k hk) _ (T1 k hk).1.vok
 ·rcases (T1 k hk).1.cas with ⟨_,q,q1,q2,_⟩|⟨q,q',_,hrw,G,hG,q2,q3,q4,_⟩
  ·exfalso
   rcases ZPE.1 hi with u|u
   ·rw[q]at u;simp at u
   ·omega
  ·refine AB.ok_mono (own k hk) B ?_
   rw[hG,Xwm,Nat.zero_add]at hB
   by_cases hw:i∈(PT k).ws
   ·have:=q3 i hw
    have hlt:i<(S k).h.length:=by
     obtain ⟨B',hB',_⟩:=hrw i (List.mem_append_right _ hw)
     exact (List.getElem?_eq_some_iff.1 hB').1
    rw[if_pos hlt,if_pos hw]at hB
    cases hB
    exact this
   ·have hr:(PT k).lo<=i/\i<(PT k).hi:=(ZPE.1 hi).resolve_left hw
    rw[q]at hr
    rw[if_neg (by omega)]at hB
    refine q4 B (List.mem_of_getElem? (i:=i-(S k).h.length) ?_)
    rw[List.getElem?_drop,show (S k).h.length+(i-(S k).h.length)=i by omega]
    exact hB
 ·obtain ⟨o,ho,_⟩:=K k hk
  have:=Zbo _ _ (D1 k hk o ho).2.2 j (DS j) (by rw[List.getElem?_take,if_pos hjk];exact dget j (by omega))
  rw[Nat.zero_add]at this
  exact this
 ·obtain ⟨o',ho',_,_,_,h5⟩:=K k hk
  rw[ho']at ho
  cases ho
  rw[h5,q1u,KEx]at hm
  rcases hm with hm|⟨x,hx,hm⟩
  ·cases hm
  ·refine ⟨x,hx,hm.imp (fun q=>q) fun q=>?_⟩
   rw[List.nil_append,List.getD_eq_getElem?_getD,List.getElem?_take]at q
   split at q
   ·rename_i hxk
    rw[List.getElem?_map,dget x (by omega)]at q
    exact q
   ·rw[Option.getD_none,KEx]at q
    cases q
 ·obtain ⟨o,ho,hc,hus,_⟩:=K k hk
  have hmem:∀ {frx:List AV},(∀t,bit t (DS k).us=true->nthA frx t=nthA (S k).fr t)->∀t∈(DS k).o.tmps,nthA frx t=nthA (S k).fr t:=fun {frx} hx t ht=>hx t (by rw[hus];exact (Jhf t _).2 ht)
  rcases (T1 k hk).1.cas with ⟨q,q1,_,q2,q3,q4⟩|⟨q1,q2,q3,q4,G,hG,q5,q6,q7,q8⟩
  ·exact .inl ⟨q1,q2,fun frx hx hf hh=>q4 frx hx (hmem hf) hh ops k o ho hc⟩
  ·refine .inr ⟨q1,q2,fun t ht=>?_,q4,G,?_,fun i hi=>?_,fun frx hf=>q8 frx (hmem hf) ops k o ho hc⟩
   ·rw[hus,Jhf]at ht
    exact q3 t ht
   ·rw[hG,KVe];omega
   ·rw[hG,Xwm,Nat.zero_add]
    by_cases hw:i∈(PT k).ws
    ·have hlt:i<(S k).h.length:=by
      obtain ⟨B',hB',_⟩:=q4 i (List.mem_append_right _ hw)
      exact (List.getElem?_eq_some_iff.1 hB').1
     rw[if_pos hlt,if_pos hw,List.getElem?_eq_getElem (by omega)]
     rfl
    ·have hr:(PT k).lo<=i/\i<(PT k).hi:=(ZPE.1 hi).resolve_left hw
     rw[q1]at hr
     rw[if_neg (by omega)]
theorem AM.drwT (hm:P.follows .mixedOrders=true) {T:TB} {E:RunT} (hT:Z4Q P T) (hE:SoundX P E) {p:Nat} {rd:Option Nat} {fn:FuncId} {id:Nat} {ds:List DOp} {k:List CI} {F F':FR} {H0 H0':HP} {fr:List AV} {h:List AB} {R:AV->List AB->Prop} (hF:FRel F fr) (hH:HRel H0 h)
  (e:XQO T E H0.len ds 0 [] F H0=some (F',H0')) (g:∀fr' h',FRel F' fr'->HRel H0' h'->AM P p rd fn k fr' h' R):AM P p rd fn (.code (.drw id ds)::k) fr h R:=by
 intro ρ w tmps items b cs ms hf hk hro hp hi hv hr hmk
 obtain ⟨c',its,rfl,hc,hi2⟩:=hi.code
 obtain ⟨ops,l,rfl,hl,rfl,hok⟩:=qIN hc
 obtain ⟨DS,FR,H,V,PT,C,rfl,rfl,z1',z2'⟩:=J5T hT hE hl hok hF hH e
 have hlen:=C.mono (j:=0) (k:=ops.size) (by omega) (Nat.le_refl _)
 obtain ⟨p1,p2,p3⟩:=hr.pad ((H ops.size).length-(H 0).length) (Nat.le_refl _)
 have f0:∀(t:Nat) (a:AV),(FR 0)[t]?=some a->a.ok (fun i=>decide (i<(H 0).length))=true:=fun t a ha=>by
  obtain ⟨c,_,hc⟩:=hv.get ha
  exact hc.okLe (by rw[hr.len];exact Nat.le_refl _)
 have h0:∀(i:Nat) (B:AB),(H 0)[i]?=some B->B.ok (fun i=>decide (i<(H 0).length))=true:=fun i B hB=>by
  have:=hr.okLen hB
  rw[hr.len]at this
  exact this
 have zero:∀j,(Array.replicate ops.size false).getD j false=false:=fun j=>by
  rw[Array.getD_eq_getD_getElem?,Array.getElem?_replicate]
  split <;> rfl
 have z1:∀m,frD DS FR V (fun j=>(Array.replicate ops.size false).getD j false) m=FR 0:=by
  intro m
  induction m with
  | zero=>rfl
  | succ m ih =>
   simp only[frD,zero m,Bool.false_eq_true,if_false]
   exact ih
 have z2:∀i m,hD H PT (fun j=>(Array.replicate ops.size false).getD j false) i m=(H 0)[i]?:=by
  intro i m
  induction m with
  | zero=>rfl
  | succ m ih =>
   simp only[hD,zero m,Bool.false_and,Bool.false_eq_true,if_false]
   exact ih
 have z3:hL H PT ops.size (fun j=>(Array.replicate ops.size false).getD j false)=H 0++List.replicate ((H ops.size).length-(H 0).length) .dead:=by
  refine List.ext_getElem? fun i=>?_
  rw[Kaw,z2]
  by_cases h1:i<(H 0).length
  ·rw[if_pos (by omega),List.getElem?_append_left h1,List.getElem?_eq_getElem h1]
   rfl
  ·rw[List.getElem?_append_right (by omega),List.getElem?_replicate,List.getElem?_eq_none (by omega:(H 0).length<=i)]
   by_cases h2:i<(H ops.size).length
   ·rw[if_pos h2,if_pos (by omega)]
    rfl
   ·rw[if_neg h2,if_neg (by omega)]
 have p1':Rel (KC P) (ρ++List.replicate ((H ops.size).length-(H 0).length) (0,0,0)) (hL H PT ops.size (fun j=>(Array.replicate ops.size false).getD j false)) { w with drawn:=w.drawn+1 }:=by
  rw[z3]
  exact p1.heap rfl
 obtain ⟨tmps',w',ρ',st,v',r',e'⟩:=C.sched f0 h0 (Nat.le_refl _) its cs (ms.map mkD) hk ops.size (w.tape w.drawn (.order b.fn id)) (Array.replicate ops.size false) _ _ tmps (by simp) (by
  unfold unL
  refine Nat.le_trans (List.length_filter_le _ _) ?_
  simp) (fun j hj hd=>by
  dsimp only at hd
  rw[zero j]at hd
  cases hd) (by rw[z1];exact hv.ext p3) p1'
 rw[z3]at e'
 have eall:=(p2.trans (EffP.drewn _ _ _ w)).trans e'
 have hend:=g _ _ z1' z2' ρ' w' tmps' its b cs ms hf hk (hro.ext (eall.ext hr)) (by omega) hi2 v' r' (hmk.eff eall)
 refine Ret.steps ((Steps.one stepR_region_draw).trans ?_) ((hend.mono fun v w'' q=>q.from (eall.weak hp) (fun r hr=>.inl hr)))
 have hsch:Region.schedule (P.follows .mixedOrders) ops (w.tape w.drawn (.order b.fn id))=Region.linearise.go .any ops ops.size (w.tape w.drawn (.order b.fn id)) (Array.replicate ops.size false) []:=by
  simp only[Region.schedule,hm,Bool.true_or,if_true]
  rfl
 rw[hsch]
 exact st.trans (.one stepR_region_end)
end
end
end Go.Proofs.YtekeoichmdiiiaaGreat
