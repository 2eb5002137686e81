/- Part 25 of what the laws' proofs rest on. No condition. -/
import Derived.Test.YtekeoichmdiiiaaGreatTh24
set_option linter.all false
namespace Go.Proofs.YtekeoichmdiiiaaGreat
section
structure DRow (α δ:Type) where
 r:Row α
 get:List AB->α->Option δ
 app:∀ {h:List AB} {a:α} {d:δ} (x:List AB),get h a=some d->get (h++x) a=some d
 frz:∀ {h:List AB} {a:α} {d:δ},get h a=some d->get (h.map AB.freeze) a=some d
section
variable {α δ:Type}
def rdP (D:DRow α δ) (h:List AB):List α->Option (List (α×δ))
 | []=>some []
 | x::l=>if okL (fun i=>decide (i<h.length)) (D.r.f x)=true then (D.get h x).bind fun d=>(rdP D h l).map ((x,d) :: ·) else none
structure RdP (D:DRow α δ) (h:List AB) (s:AV) (m:List (α×δ)):Prop where
 s:Rd D.r h s (m.map (·.1))
 d:∀e∈m,D.get h e.1=some e.2
 o:∀e∈m,okL (fun i=>decide (i<h.length)) (D.r.f e.1)=true
theorem KC7 {D:DRow α δ} {h:List AB}:∀ {l:List α} {m:List (α×δ)},rdP D h l=some m->m.map (·.1)=l/\∀e∈m,D.get h e.1=some e.2/\okL (fun i=>decide (i<h.length)) (D.r.f e.1)=true
 | [],m,e=>by cases e;exact ⟨rfl,fun e h=>by simp at h⟩
 | x::l,m,e=>by
  rw[rdP]at e
  split at e
  ·rename_i ho
   obtain ⟨d,hd,e⟩:=oQ.1 e
   obtain ⟨m',hm,rfl⟩:=Option.map_eq_some_iff.1 e
   obtain ⟨h1,h2⟩:=KC7 hm
   exact ⟨by rw[List.map_cons,h1],fun e he=>by
    rcases List.mem_cons.1 he with rfl|he
    ·exact ⟨hd,ho⟩
    ·exact h2 e he⟩
  ·cases e
theorem zHV {D:DRow α δ} {h:List AB}:∀ {m:List (α×δ)},(∀e∈m,D.get h e.1=some e.2/\okL (fun i=>decide (i<h.length)) (D.r.f e.1)=true)->rdP D h (m.map (·.1))=some m
 | [],_=>rfl
 | e::m,hm=>by
  have h1:=(hm e (List.mem_cons_self ..)).1
  have h2:=zHV (m:=m) fun e he=>hm e (List.mem_cons_of_mem _ he)
  rw[List.map_cons,rdP,if_pos (hm e (List.mem_cons_self ..)).2,h1,Option.bind_some,h2]
  rfl
noncomputable def getP (D:DRow α δ) (h:List AB) (s:AV):Option (List (α×δ)):=(getS D.r h s).bind (rdP D h)
theorem RdP.get {D:DRow α δ} {h:List AB} {s:AV} {m:List (α×δ)} (e:RdP D h s m):getP D h s=some m:=by
 unfold getP
 rw[e.s.get,Option.bind_some]
 exact zHV fun a ha=>⟨e.d a ha,e.o a ha⟩
theorem YM3 {D:DRow α δ} {h:List AB} {s:AV} {m:List (α×δ)} (e:getP D h s=some m):RdP D h s m:=by
 unfold getP at e
 obtain ⟨l,hl,e⟩:=Qk0 e
 obtain ⟨h1,h2⟩:=KC7 e
 exact ⟨by rw[h1];exact hl,fun a ha=>(h2 a ha).1,fun a ha=>(h2 a ha).2⟩
theorem ZN7 {β:Type} {D:DRow α δ} {h:List AB} {s:AV} {f:List (α×δ)->Option β} {b:β} (e:(getP D h s).bind f=some b):∃m,RdP D h s m/\f m=some b:=by
 obtain ⟨m,hm,e⟩:=oQ.1 e
 exact ⟨m,YM3 hm,e⟩
theorem YN2 {h:List AB} (x:List AB) {l:List AV} (ho:okL (fun i=>decide (i<h.length)) l=true):okL (fun i=>decide (i<(h++x).length)) l=true:=Yit (fun i q=>by simp only[decide_eq_true_eq,List.length_append]at q ⊢;omega) _ ho
theorem RdP.app {D:DRow α δ} {h:List AB} {s:AV} {m:List (α×δ)} (e:RdP D h s m) (x:List AB):RdP D (h++x) s m:=⟨e.s.app x,fun a ha=>D.app x (e.d a ha),fun a ha=>YN2 x (e.o a ha)⟩
theorem RdP.frz {D:DRow α δ} {h:List AB} {s:AV} {m:List (α×δ)} (e:RdP D h s m):RdP D (h.map AB.freeze) s m:=⟨e.s.frz,fun a ha=>D.frz (e.d a ha),fun a ha=>by rw[List.length_map];exact e.o a ha⟩
theorem RdP.len {D:DRow α δ} {h:List AB} {s:AV} {m:List (α×δ)} (e:RdP D h s m):m.length<=maxLen:=by
 have:=e.s.2
 rwa [List.length_map]at this
noncomputable def YXi (D:DRow α δ) (h:List AB) (s:AV):Option (List δ):=(getP D h s).map (·.map (·.2))
theorem RdP.get' {D:DRow α δ} {h:List AB} {s:AV} {m:List (α×δ)} (e:RdP D h s m):YXi D h s=some (m.map (·.2)):=by
 unfold YXi
 rw[e.get]
 rfl
theorem JFD {β:Type} {D:DRow α δ} {h:List AB} {s:AV} {f:List δ->Option β} {b:β} (e:(YXi D h s).bind f=some b):∃m,RdP D h s m/\f (m.map (·.2))=some b:=by
 unfold YXi at e
 rw[Option.bind_map]at e
 exact ZN7 e
theorem XNX {D:DRow α δ} {h:List AB} {s:AV} {l:List δ} (x:List AB) (e:YXi D h s=some l):YXi D (h++x) s=some l:=by
 unfold YXi at e
 obtain ⟨m,hm,rfl⟩:=Option.map_eq_some_iff.1 e
 exact ((YM3 hm).app x).get'
theorem Ked {D:DRow α δ} {h:List AB} {s:AV} {l:List δ} (e:YXi D h s=some l):YXi D (h.map AB.freeze) s=some l:=by
 unfold YXi at e
 obtain ⟨m,hm,rfl⟩:=Option.map_eq_some_iff.1 e
 exact ((YM3 hm).frz).get'
theorem RdP.at {D:DRow α δ} {h:List AB} {s:AV} {m:List (α×δ)} (e:RdP D h s m) {i:Nat} (g:i<m.length):(m.map (·.1)).getD i D.r.d=m[i].1/\D.get h m[i].1=some m[i].2/\okL (fun j=>decide (j<h.length)) (D.r.f m[i].1)=true:=
 ⟨by rw[List.getD_eq_getElem?_getD,List.getElem?_map,List.getElem?_eq_getElem g];rfl,e.d _ (List.getElem_mem g),e.o _ (List.getElem_mem g)⟩
end
end
section
structure TagA where
 name:List UInt8
 held:SlA
structure TgD where
 name:List UInt8
 held:List Hd
deriving DecidableEq
structure RepA where
 name:List UInt8
 tags:SlA
 mans:SlA
structure RpD where
 name:List UInt8
 tags:List TgD
 mans:List Hd
deriving DecidableEq
structure TbD where
 v:List Int
 repos:List RpD
deriving DecidableEq
def tagR:Row TagA:=⟨fun x=>[.s x.name,x.held.a],2,fun _=>rfl,by decide,⟨[],⟨.ns,rfl⟩⟩,fun x y e=>by
 obtain ⟨a,b⟩:=x
 obtain ⟨c,d⟩:=y
 simp only[List.cons.injEq,AV.s.injEq,and_true]at e
 obtain ⟨rfl,e2⟩:=e
 rw[SlA.ext e2]⟩
def repR:Row RepA:=⟨fun x=>[.s x.name,x.tags.a,x.mans.a],3,fun _=>rfl,by decide,⟨[],⟨.ns,rfl⟩,⟨.ns,rfl⟩⟩,fun x y e=>by
 obtain ⟨a,b,c⟩:=x
 obtain ⟨d,f,g⟩:=y
 simp only[List.cons.injEq,AV.s.injEq,and_true]at e
 obtain ⟨rfl,e2,e3⟩:=e
 rw[SlA.ext e2,SlA.ext e3]⟩
theorem q2E (x:TagA):tagR.f x=[.s x.name,x.held.a]:=oI rfl
theorem X6g (x:RepA):repR.f x=[.s x.name,x.tags.a,x.mans.a]:=oI rfl
noncomputable def tagD:DRow TagA TgD:=⟨tagR,fun h a=>(getS zEN h a.held.a).map fun l=>⟨a.name,l⟩,fun x e=>by
 obtain ⟨l,hl,rfl⟩:=Option.map_eq_some_iff.1 e
 rw[((YdW hl).app x).get]
 rfl,fun e=>by
 obtain ⟨l,hl,rfl⟩:=Option.map_eq_some_iff.1 e
 rw[((YdW hl).frz).get]
 rfl⟩
noncomputable def repD:DRow RepA RpD:=⟨repR,fun h a=>(YXi tagD h a.tags.a).bind fun t=>(getS zEN h a.mans.a).map fun l=>⟨a.name,t,l⟩,fun x e=>by
 obtain ⟨t,ht,e⟩:=oQ.1 e
 obtain ⟨l,hl,rfl⟩:=Option.map_eq_some_iff.1 e
 rw[XNX x ht,Option.bind_some,((YdW hl).app x).get]
 rfl,fun e=>by
 obtain ⟨t,ht,e⟩:=oQ.1 e
 obtain ⟨l,hl,rfl⟩:=Option.map_eq_some_iff.1 e
 rw[Ked ht,Option.bind_some,((YdW hl).frz).get]
 rfl⟩
theorem QMV:tagD.r=tagR:=oI rfl
theorem XBQ:repD.r=repR:=oI rfl
theorem J9V {h:List AB} {a:TagA} {d:TgD} (e:tagD.get h a=some d):a.name=d.name/\Rd zEN h a.held.a d.held:=by
 obtain ⟨l,hl,rfl⟩:=Option.map_eq_some_iff.1 e
 exact ⟨rfl,YdW hl⟩
theorem Qaj {h:List AB} {a:TagA} {l:List Hd} (e:Rd zEN h a.held.a l):tagD.get h a=some ⟨a.name,l⟩:=by
 show (getS zEN h a.held.a).map _=_
 rw[e.get]
 rfl
theorem Xxg {h:List AB} {a:RepA} {d:RpD} (e:repD.get h a=some d):a.name=d.name/\(∃m,RdP tagD h a.tags.a m/\d.tags=m.map (·.2))/\Rd zEN h a.mans.a d.mans:=by
 obtain ⟨m,hm,e⟩:=JFD e
 obtain ⟨l,hl,rfl⟩:=Option.map_eq_some_iff.1 e
 exact ⟨rfl,⟨m,hm,rfl⟩,YdW hl⟩
theorem XZF {h:List AB} {a:RepA} {m:List (TagA×TgD)} {l:List Hd} (e:RdP tagD h a.tags.a m) (e2:Rd zEN h a.mans.a l):repD.get h a=some ⟨a.name,m.map (·.2),l⟩:=by
 show (YXi tagD h a.tags.a).bind _=_
 rw[e.get',Option.bind_some,e2.get]
 rfl
structure RdT (h:List AB) (v s:AV) (n:List Int) (m:List (RepA×RpD)):Prop where
 v:Rd intR h v n
 s:RdP repD h s m
noncomputable def getT (h:List AB) (a:AV):Option TbD:=match a with
 | .ag [v,s]=>(getS intR h v).bind fun n=>(YXi repD h s).map fun m=>⟨n,m⟩
 | _=>none
theorem RdT.get {h:List AB} {v s:AV} {n:List Int} {m:List (RepA×RpD)} (e:RdT h v s n m):getT h (.ag [v,s])=some ⟨n,m.map (·.2)⟩:=by
 show (getS intR h v).bind _=_
 rw[e.v.get,Option.bind_some,e.s.get']
 rfl
theorem JfV {β:Type} {h:List AB} {a:AV} {f:TbD->Option β} {b:β} (e:(getT h a).bind f=some b):∃v s n m,a=.ag [v,s]/\RdT h v s n m/\f ⟨n,m.map (·.2)⟩=some b:=by
 obtain ⟨t,ht,e⟩:=oQ.1 e
 unfold getT at ht
 split at ht
 ·rename_i v s
  obtain ⟨n,hn,ht⟩:=Qk0 ht
  obtain ⟨m,hm,rfl⟩:=Option.map_eq_some_iff.1 ht
  unfold YXi at hm
  obtain ⟨m2,hm2,rfl⟩:=Option.map_eq_some_iff.1 hm
  exact ⟨v,s,n,m2,rfl,⟨hn,YM3 hm2⟩,e⟩
 ·cases ht
theorem RdT.app {h:List AB} {v s:AV} {n:List Int} {m:List (RepA×RpD)} (e:RdT h v s n m) (x:List AB):RdT (h++x) v s n m:=⟨e.v.app x,e.s.app x⟩
theorem RdT.frz {h:List AB} {v s:AV} {n:List Int} {m:List (RepA×RpD)} (e:RdT h v s n m):RdT (h.map AB.freeze) v s n m:=⟨e.v.frz,e.s.frz⟩
theorem zUA (x:RepA):(repR.f x).all (wrOk false)=true:=by
 rw[X6g]
 have h1:∀s:SlA,wrOk false s.a=true:=fun s=>by
  obtain ⟨a,h⟩:=s
  cases a <;> first|rfl|cases h
 simp only[List.all_cons,List.all_nil,h1,Bool.and_true]
 rfl
theorem Z4X (x:TagA):(tagR.f x).all (wrOk false)=true:=by
 rw[q2E]
 have h1:∀s:SlA,wrOk false s.a=true:=fun s=>by
  obtain ⟨a,h⟩:=s
  cases a <;> first|rfl|cases h
 simp only[List.all_cons,List.all_nil,h1,Bool.and_true]
 rfl
end
section
structure RwD where
 repo:List UInt8
 tag:List UInt8
 push:Bool
 held:Hd
deriving DecidableEq
def K3d (n:List UInt8) (ts:List TgD):List RwD:=ts.flatMap fun g=>g.held.map fun h=>⟨n,g.name,false,h⟩
def qyh (n:List UInt8) (l:List Hd):List RwD:=l.map fun h=>⟨n,[],true,h⟩
def qEk (r:RpD):List RwD:=K3d r.name r.tags++qyh r.name r.mans
def ZrA (l:List RpD):List RwD:=l.flatMap qEk
theorem Qn2 {n:List UInt8} {ts:List TgD} {x:RwD}:x∈K3d n ts↔∃g∈ts,∃h∈g.held,x=⟨n,g.name,false,h⟩:=by
 unfold K3d
 simp only[List.mem_flatMap,List.mem_map]
 exact ⟨fun ⟨g,h1,h,h2,h3⟩=>⟨g,h1,h,h2,h3.symm⟩,fun ⟨g,h1,h,h2,h3⟩=>⟨g,h1,h,h2,h3.symm⟩⟩
theorem KZf {n:List UInt8} {l:List Hd} {x:RwD}:x∈qyh n l↔∃h∈l,x=⟨n,[],true,h⟩:=by
 unfold qyh
 simp only[List.mem_map]
 exact ⟨fun ⟨h,h2,h3⟩=>⟨h,h2,h3.symm⟩,fun ⟨h,h2,h3⟩=>⟨h,h2,h3.symm⟩⟩
theorem Yg4 {l:List RpD} {x:RwD}:x∈ZrA l↔∃r∈l,x∈qEk r:=List.mem_flatMap
structure FineR (r:RpD):Prop where
 tags:(r.tags.map (·.name)).Pairwise ltS
 some:r.tags≠[]\/r.mans≠[]
 held:∀g∈r.tags,g.held≠[]/\(g.held.map (·.1)).Pairwise JTv
 mans:(r.mans.map (·.1)).Pairwise JTv
structure FineT (l:List RpD):Prop where
 names:(l.map (·.name)).Pairwise ltS
 all:∀r∈l,FineR r
end
section
section
variable {α β γ:Type}
structure RdW (f:List UInt8->RSt->α×RSt) (e:List UInt8) (v:α):Prop where
 has:∀bs s,s.err=0->Has bs s.pos e->f bs s=(v,{ s with pos:=s.pos+e.length })
 cut:∀bs s,s.err=0->Short bs s.pos e->(f bs s).2.err≠0
 err:∀bs s,s.err≠0->(f bs s).2=s
theorem Rdr.w {f:List UInt8->RSt->α×RSt} {e:List UInt8} {v:α} (h:Rdr f e v):RdW f e v:=⟨h.1,fun bs s hs q=>by rw[h.2.1 bs s hs q];decide,h.2.2⟩
theorem RdW.seq {f:List UInt8->RSt->α×RSt} {g:List UInt8->RSt->β×RSt} {e e':List UInt8} {v:α} {v':β} (hf:RdW f e v) (hg:RdW g e' v') :
  RdW (fun bs s=>(((f bs s).1,(g bs (f bs s).2).1),(g bs (f bs s).2).2)) (e++e') (v,v'):=by
 refine ⟨fun bs s hs h=>?_,fun bs s hs h=>?_,fun bs s hs=>?_⟩
 ·try dsimp only
  rw[hf.1 bs s hs h.left,hg.1 bs ⟨s.pos+e.length,s.err,s.ea⟩ hs h.right,List.length_append,Nat.add_assoc]
 ·try dsimp only
  rcases h.cut with h1|⟨h1,h2⟩
  ·have:=hf.2 bs s hs h1
   rw[hg.3 bs _ this]
   exact this
  ·rw[hf.1 bs s hs h1]
   exact hg.2 bs ⟨s.pos+e.length,s.err,s.ea⟩ hs h2
 ·try dsimp only
  rw[hf.3 bs s hs,hg.3 bs s hs]
theorem RdW.map {f:List UInt8->RSt->α×RSt} {e:List UInt8} {v:α} (hf:RdW f e v) (φ:α->β):RdW (fun bs s=>(φ (f bs s).1,(f bs s).2)) e (φ v):=
 ⟨fun bs s hs h=>by rw[hf.1 bs s hs h],fun bs s hs h=>hf.2 bs s hs h,fun bs s hs=>hf.3 bs s hs⟩
def QgU (f:List UInt8->RSt->α×RSt) (bs:List UInt8):Nat->RSt->List α->List α×RSt
 | 0,s,acc=>(acc,s)
 | n+1,s,acc=>if s.err=0 then QgU f bs n (f bs s).2 (acc++[(f bs s).1]) else (acc,s)
def Qk4 (f:List UInt8->RSt->α×RSt) (bs:List UInt8) (s:RSt):List α×RSt:=
 if s.err=0 then QgU f bs (qlW bs s bs.length).1.toNat (qlW bs s bs.length).2 [] else ([],s)
theorem zvO (f:List UInt8->RSt->α×RSt) (bs:List UInt8) (n:Nat) (s:RSt) (acc:List α) (h:s.err≠0):QgU f bs n s acc=(acc,s):=by
 cases n with
 | zero=>rfl
 | succ n=>rw[QgU,if_neg h]
def encL (enc:α->List UInt8) (l:List α):List UInt8:=qkv l.length++l.flatMap enc
theorem KyD {f:List UInt8->RSt->α×RSt} {enc:α->List UInt8}:∀(l:List α),(∀x∈l,RdW f (enc x) x)->∀(bs:List UInt8) (s:RSt) (acc:List α),s.err=0->Has bs s.pos (l.flatMap enc)->QgU f bs l.length s acc=(acc++l,{ s with pos:=s.pos+(l.flatMap enc).length })
 | [],_,bs,s,acc,_,_=>by simp [QgU]
 | x::l,h,bs,s,acc,hs,hh=>by
  rw[List.flatMap_cons]at hh ⊢
  have h1:=(h x (.head _)).has bs s hs hh.left
  rw[List.length_cons,QgU,if_pos hs,h1]
  dsimp only
  rw[KyD l (fun y hy=>h y (.tail _ hy)) bs { s with pos:=s.pos+(enc x).length } _ hs hh.right,List.length_append,Nat.add_assoc,List.append_assoc]
  rfl
theorem Kyl {f:List UInt8->RSt->α×RSt} {enc:α->List UInt8}:∀(l:List α),(∀x∈l,RdW f (enc x) x)->∀(bs:List UInt8) (s:RSt) (acc:List α),s.err=0->Short bs s.pos (l.flatMap enc)->(QgU f bs l.length s acc).2.err≠0
 | [],_,bs,s,acc,_,hh=>by
  obtain ⟨x,h0,h1,_⟩:=hh
  simp at h1
  exact absurd h1.2 h0
 | x::l,h,bs,s,acc,hs,hh=>by
  rw[List.flatMap_cons]at hh
  rw[List.length_cons,QgU,if_pos hs]
  rcases hh.cut with h1|⟨h1,h2⟩
  ·have:=(h x (.head _)).cut bs s hs h1
   rw[zvO _ _ _ _ _ this]
   exact this
  ·rw[(h x (.head _)).has bs s hs h1]
   exact Kyl l (fun y hy=>h y (.tail _ hy)) bs { s with pos:=s.pos+(enc x).length } _ hs h2
theorem YOW {enc:α->List UInt8}:∀ {l:List α},(∀x∈l,enc x≠[])->l.length<=(l.flatMap enc).length
 | [],_=>Nat.zero_le _
 | x::l,h=>by
  have h1:=List.length_pos_iff.2 (h x (.head _))
  have h2:=YOW (l:=l) fun y hy=>h y (.tail _ hy)
  rw[List.flatMap_cons,List.length_append,List.length_cons]
  omega
theorem KyF {f:List UInt8->RSt->α×RSt} {enc:α->List UInt8} {l:List α} (h:∀x∈l,RdW f (enc x) x) (hn:∀x∈l,enc x≠[]) (hl:l.length<=1048576):RdW (Qk4 f) (encL enc l) l:=by
 refine ⟨fun bs s hs hh=>?_,fun bs s hs hh=>?_,fun bs s hs=>by unfold Qk4;rw[if_neg hs]⟩
 ·have h1:=hh.right.le
  have h2:=YOW hn
  unfold Qk4
  rw[if_pos hs,QQw hs (by omega) (by omega) (by omega) hh.left]
  dsimp only
  rw[Int.toNat_natCast,KyD l h bs { s with pos:=s.pos+(qkv l.length).length } _ hs hh.right]
  unfold encL
  rw[List.length_append,Nat.add_assoc]
  rfl
 ·unfold Qk4
  rw[if_pos hs]
  rcases hh.cut with h1|⟨h1,h2⟩
  ·have:=X4x (most:=bs.length) hs h1
   have h0:(qlW bs s bs.length).2.err≠0:=by rw[this];decide
   rw[zvO _ _ _ _ _ h0]
   exact h0
  ·by_cases q:(l.length:Int)<=bs.length
   ·rw[QQw hs (by omega) (by omega) q h1]
    dsimp only
    rw[Int.toNat_natCast]
    exact Kyl l h bs { s with pos:=s.pos+(qkv l.length).length } _ hs h2
   ·have h0:(qlW bs s bs.length).2.err≠0:=by
     unfold qlW
     rw[if_pos hs,J58 hs (by omega) (by omega) h1,if_pos (by dsimp only;omega)]
     unfold RSt.fail
     rw[if_pos hs]
     show (4:Int)≠0
     decide
    rw[zvO _ _ _ _ _ h0]
    exact h0
theorem KUH {f:List UInt8->RSt->α×RSt} {enc:α->List UInt8} {P:α->Prop} (F:Rok f enc P) (bs:List UInt8):∀(n:Nat) (s:RSt) (acc:List α),s.err=0->RGood bs s->(QgU f bs n s acc).2.err=0->∃l:List α,l.length=n/\(QgU f bs n s acc)=(acc++l,{ s with pos:=s.pos+(l.flatMap enc).length })/\Has bs s.pos (l.flatMap enc)/\∀x∈l,P x
 | 0,s,acc,hs,hg,_=>⟨[],rfl,by simp [QgU],⟨bs.drop s.pos,rfl,hg.1⟩,fun x hx=>by cases hx⟩
 | n+1,s,acc,hs,hg,h=>by
  rw[QgU,if_pos hs]at h ⊢
  have h1:(f bs s).2.err=0:=by
   apply Classical.byContradiction
   intro q
   rw[zvO _ _ _ _ _ q]at h
   exact q h
  obtain ⟨a1,a2,a3⟩:=F.1 bs s hs hg h1
  obtain ⟨l,b1,b2,b3,b4⟩:=KUH F bs n _ (acc++[(f bs s).1]) h1 (F.2.2 bs s hg) h
  refine ⟨(f bs s).1::l,by rw[List.length_cons,b1],?_,?_,fun x hx=>?_⟩
  ·rw[b2]
   generalize hfb:f bs s=p at *
   obtain ⟨v,t⟩:=p
   dsimp only at a2 ⊢
   rw[a2]
   simp [List.append_assoc,Nat.add_assoc]
  ·rw[List.flatMap_cons]
   rw[a2]at b3
   exact a1.join b3
  ·rcases List.mem_cons.1 hx with rfl|hx
   ·exact a3
   ·exact b4 x hx
theorem JzB {f:List UInt8->RSt->α×RSt} {enc:α->List UInt8} {P:α->Prop} (F:Rok f enc P):Rok (Qk4 f) (encL enc) fun l=>∀x∈l,P x:=by
 have good:∀bs n s acc,RGood bs s->RGood bs (QgU f bs n s acc).2:=fun bs n=>by
  induction n with
  | zero=>intro s acc h;exact h
  | succ n ih =>
   intro s acc h
   rw[QgU]
   split
   ·exact ih _ _ (F.2.2 bs s h)
   ·exact h
 refine ⟨fun bs s hs hg h=>?_,fun bs s h=>by unfold Qk4;rw[if_neg h],fun bs s h=>?_⟩
 ·unfold Qk4 at h ⊢
  rw[if_pos hs]at h ⊢
  have hm:(qlW bs s bs.length).2.err=0:=by
   apply Classical.byContradiction
   intro q
   rw[zvO _ _ _ _ _ q]at h
   exact q h
  obtain ⟨h1,h2,h3⟩:=QRN _ hs hm
  have hge:=YTr bs s bs.length
  obtain ⟨l,b1,b2,b3,b4⟩:=KUH F bs _ _ [] hm (hg.many _) h
  rw[b2,List.nil_append]
  dsimp only
  have hlen:(l.length:Int)=(qlW bs s bs.length).1:=by omega
  unfold encL
  rw[hlen]
  rw[h2]at b3
  refine ⟨h1.join b3,?_,b4⟩
  rw[h2,List.length_append]
  simp [Nat.add_assoc]
 ·unfold Qk4
  split
  ·exact good _ _ _ _ (h.many _)
  ·exact h
end
def qq2 (x:Hd):List UInt8:=(qkv x.1.1++qkv x.1.2)++x.2.l
def qMO (s:List UInt8):List UInt8:=qkv s.length++s
def YvM (g:TgD):List UInt8:=qMO g.name++encL qq2 g.held
def Jpu (r:RpD):List UInt8:=qMO r.name++(encL YvM r.tags++encL qq2 r.mans)
def encT (t:TbD):List UInt8:=(qkv t.v.length++qBw t.v)++encL Jpu t.repos
def mkDg (l:List UInt8):Dg:=if h:l.length=32 then ⟨l,h⟩ else ⟨List.replicate 32 0,by simp⟩
def rdHd (bs:List UInt8) (s:RSt):Hd×RSt:=(((Z3k bs s).1,mkDg (rdID bs (Z3k bs s).2).1),(rdID bs (Z3k bs s).2).2)
def rdTg (bs:List UInt8) (s:RSt):TgD×RSt:=(⟨(JrE bs s 64).1,(Qk4 rdHd bs (JrE bs s 64).2).1⟩,(Qk4 rdHd bs (JrE bs s 64).2).2)
def rdRp (bs:List UInt8) (s:RSt):RpD×RSt:=(⟨(JrE bs s 128).1,(Qk4 rdTg bs (JrE bs s 128).2).1,(Qk4 rdHd bs (Qk4 rdTg bs (JrE bs s 128).2).2).1⟩,(Qk4 rdHd bs (Qk4 rdTg bs (JrE bs s 128).2).2).2)
def rdTb (bs:List UInt8) (s:RSt):TbD×RSt:=(⟨(QDw bs s 16).1,(Qk4 rdRp bs (QDw bs s 16).2).1⟩,(Qk4 rdRp bs (QDw bs s 16).2).2)
structure HdIn (x:Hd):Prop where
 r0:0<=x.1.1
 r1:x.1.1<=9223372036854775807
 n0:0<=x.1.2
 n1:x.1.2<=9223372036854775807
def LIn (l:List Hd):Prop:=l.length<=1048576/\∀x∈l,HdIn x
structure TgIn (g:TgD):Prop where
 name:g.name.length<=64
 held:LIn g.held
structure RpIn (r:RpD):Prop where
 name:r.name.length<=128
 n:r.tags.length<=1048576
 tags:∀g∈r.tags,TgIn g
 mans:LIn r.mans
structure TbIn (t:TbD):Prop where
 n:t.v.length<=16
 v:∀x∈t.v,0<=x/\x<=9223372036854775807
 m:t.repos.length<=1048576
 r:∀r∈t.repos,RpIn r
theorem Zom (n:Int):qkv n≠[]:=by
 unfold qkv
 split <;> simp
theorem QCu {a b:Int} (ha:0<=a) (ha1:a<=9223372036854775807) (hb:0<=b) (hb1:b<=9223372036854775807):Rdr Z3k (qkv a++qkv b) (a,b):=
 ⟨fun _ _ hs h=>YU6 hs ha ha1 hb hb1 h,fun _ _ hs h=>KMa hs ha ha1 h,fun bs s h=>XTv bs s h⟩
theorem qvS (d:Dg):mkDg d.l=d:=by
 unfold mkDg
 rw[dif_pos d.h]
theorem J1p {x:Hd} (h:HdIn x):RdW rdHd (qq2 x) x:=by
 have:=(((QCu h.r0 h.r1 h.n0 h.n1).w).seq (Zhm x.2.h).w).map fun p:(Int×Int)×List UInt8=>((p.1,mkDg p.2):Hd)
 rw[qvS]at this
 exact this
theorem zdi (x:Hd):qq2 x≠[]:=fun e=>by
 have:=List.append_eq_nil_iff.1 (List.append_eq_nil_iff.1 e).1
 exact Zom _ this.1
theorem XLm {l:List UInt8} {most:Int} (hm:(l.length:Int)<=most) (h2:l.length<=1048576):RdW (fun bs s=>JrE bs s most) (qMO l) l:=(KPv h2 hm).w
theorem XQb (l:List UInt8):qMO l≠[]:=fun e=>Zom _ (List.append_eq_nil_iff.1 e).1
theorem qk3 {l:List Hd} (h:LIn l):RdW (Qk4 rdHd) (encL qq2 l) l:=KyF (fun x hx=>J1p (h.2 x hx)) (fun x _=>zdi x) h.1
theorem zg1 {g:TgD} (h:TgIn g):RdW rdTg (YvM g) g:=
 ((XLm (most:=64) (by have:=h.name;omega) (by have:=h.name;omega)).seq (qk3 h.held)).map fun p:List UInt8×List Hd=>(⟨p.1,p.2⟩:TgD)
theorem XsZ (g:TgD):YvM g≠[]:=fun e=>XQb _ (List.append_eq_nil_iff.1 e).1
theorem XI8 {r:RpD} (h:RpIn r):RdW rdRp (Jpu r) r:=
 ((XLm (most:=128) (by have:=h.name;omega) (by have:=h.name;omega)).seq ((KyF (fun g hg=>zg1 (h.tags g hg)) (fun g _=>XsZ g) h.n).seq (qk3 h.mans))).map fun p:List UInt8×List TgD×List Hd=>(⟨p.1,p.2.1,p.2.2⟩:RpD)
theorem zSc (r:RpD):Jpu r≠[]:=fun e=>XQb _ (List.append_eq_nil_iff.1 e).1
theorem YQn {xs:List Int} {most:Int} (hl:xs.length<=1048576) (hm:(xs.length:Int)<=most) (hx:∀x∈xs,0<=x/\x<=9223372036854775807):RdW (fun bs s=>QDw bs s most) (qkv xs.length++qBw xs) xs:=by
 refine ⟨fun bs s hs h=>?_,fun bs s hs h=>?_,fun bs s h=>JAu bs s most h⟩
 ·try dsimp only
  unfold QDw
  rw[QQw hs (by omega) (by omega) hm h.left]
  dsimp only
  rw[Int.toNat_natCast,YQi bs xs { s with pos:=s.pos+(qkv xs.length).length } [] hs hx h.right,List.length_append,Nat.add_assoc]
  rfl
 ·try dsimp only
  unfold QDw
  rcases h.cut with h1|⟨h1,h2⟩
  ·have:=X4x (most:=most) hs h1
   rw[Q7s _ _ _ _ (by rw[this];decide),this]
   decide
  ·rw[QQw hs (by omega) (by omega) hm h1]
   dsimp only
   rw[Int.toNat_natCast,YmL bs xs { s with pos:=s.pos+(qkv xs.length).length } [] hs hx h2]
   decide
theorem Z2o {t:TbD} (h:TbIn t):RdW rdTb (encT t) t:=
 ((YQn (most:=16) (by have:=h.n;omega) (by have:=h.n;omega) h.v).seq (KyF (fun r hr=>XI8 (h.r r hr)) (fun r _=>zSc r) h.m)).map fun p:List Int×List RpD=>(⟨p.1,p.2⟩:TbD)
theorem qme:Rok Z3k (fun d=>qkv d.1++qkv d.2) fun d=>(0<=d.1/\d.1<=9223372036854775807)/\0<=d.2/\d.2<=9223372036854775807:=by
 have K:=Q99.seq Q99
 have hd:∀bs s,(Z3k bs s).2=(KqA bs (KqA bs s).2).2:=fun bs s=>by unfold Z3k;split <;> rfl
 refine ⟨fun bs s hs hg h=>?_,fun bs s h=>XTv bs s h,fun _ _ h=>h.dot⟩
 rw[hd]at h ⊢
 have e1:(Z3k bs s).1=((KqA bs s).1,(KqA bs (KqA bs s).2).1):=by
  unfold Z3k
  rw[if_pos h]
 rw[e1]
 exact K.1 bs s hs hg h
theorem KaL:Rok rdHd qq2 HdIn:=by
 have K:=(qme.seq zwJ).map (fun p:(Int×Int)×List UInt8=>((p.1,mkDg p.2):Hd)) (eb:=fun x=>qq2 x) (Q:=fun _=>True)
 refine ⟨fun bs s hs hg h=>?_,fun bs s h=>?_,fun bs s h=>?_⟩
 ·have k:=(qme.seq zwJ).1 bs s hs hg h
  dsimp only at k
  have e2:(mkDg (rdID bs (Z3k bs s).2).1).l=(rdID bs (Z3k bs s).2).1:=by
   unfold mkDg
   rw[dif_pos k.2.2.2]
  refine ⟨?_,?_,k.2.2.1.1.1,k.2.2.1.1.2,k.2.2.1.2.1,k.2.2.1.2.2⟩
  ·unfold qq2 rdHd
   dsimp only
   rw[e2]
   exact k.1
  ·have:=k.2.1
   unfold qq2 rdHd
   dsimp only
   rw[e2]
   exact this
 ·exact (qme.seq zwJ).2.1 bs s h
 ·exact (qme.seq zwJ).2.2 bs s h
theorem Ztk:Rok (Qk4 rdHd) (encL qq2) fun l=>∀x∈l,HdIn x:=JzB KaL
theorem Zya:Rok rdTg YvM fun _=>True:=
 ((Y89 (most:=64)).seq Ztk).map (fun p:List UInt8×List Hd=>(⟨p.1,p.2⟩:TgD)) (fun _=>rfl) fun _ _=>trivial
theorem ZzN:Rok rdRp Jpu fun _=>True:=
 ((Y89 (most:=128)).seq ((JzB Zya).seq Ztk)).map (fun p:List UInt8×List TgD×List Hd=>(⟨p.1,p.2.1,p.2.2⟩:RpD)) (fun _=>rfl) fun _ _=>trivial
theorem YkQ {bs:List UInt8}:∀(k:Nat) (s:RSt) (acc:List Int),s.err=0->RGood bs s->(KiA bs k s acc).2.err=0->∃l:List Int,l.length=k/\KiA bs k s acc=(acc++l,{ s with pos:=s.pos+(qBw l).length })/\Has bs s.pos (qBw l)
 | 0,s,acc,hs,hg,_=>⟨[],rfl,by obtain ⟨p,e,a⟩:=s;dsimp only at hs;subst hs;simp [KiA,qBw],⟨bs.drop s.pos,rfl,hg.1⟩⟩
 | n+1,s,acc,hs,hg,h=>by
  rw[KiA,if_pos hs]at h ⊢
  have h1:(KqA bs s).2.err=0:=by
   apply Classical.byContradiction
   intro q
   rw[Q7s _ _ _ _ q]at h
   exact q h
  obtain ⟨a1,a2,_⟩:=Q99.1 bs s hs hg h1
  obtain ⟨l,b1,b2,b3⟩:=YkQ n _ (acc++[(KqA bs s).1]) h1 (Q99.2.2 bs s hg) h
  refine ⟨(KqA bs s).1::l,by rw[List.length_cons,b1],?_,?_⟩
  ·rw[b2]
   generalize KqA bs s=p at *
   obtain ⟨v,t⟩:=p
   dsimp only at a2 ⊢
   rw[a2]
   simp [qBw,List.append_assoc,Nat.add_assoc]
  ·have e:qBw ((KqA bs s).1::l)=qkv (KqA bs s).1++qBw l:=by simp [qBw]
   rw[e]
   rw[a2]at b3
   exact a1.join b3
theorem zw3 {most:Int}:Rok (fun bs s=>QDw bs s most) (fun l=>qkv l.length++qBw l) fun _=>True:=by
 refine ⟨fun bs s hs hg h=>?_,fun bs s h=>JAu bs s most h,fun _ _ h=>h.vec most⟩
 dsimp only at h ⊢
 unfold QDw at h ⊢
 have hm:(qlW bs s most).2.err=0:=by
  apply Classical.byContradiction
  intro q
  rw[Q7s _ _ _ _ q]at h
  exact q h
 obtain ⟨h1,h2,h3⟩:=QRN most hs hm
 have hge:=YTr bs s most
 obtain ⟨l,b1,b2,b3⟩:=YkQ _ _ [] hm (hg.many _) h
 rw[b2,List.nil_append]
 dsimp only
 have hlen:(l.length:Int)=(qlW bs s most).1:=by omega
 rw[hlen]
 rw[h2]at b3
 refine ⟨h1.join b3,?_,trivial⟩
 rw[h2,List.length_append]
 simp [Nat.add_assoc]
theorem Y6J:Rok rdTb encT fun _=>True:=
 ((zw3 (most:=16)).seq (JzB ZzN)).map (fun p:List Int×List RpD=>(⟨p.1,p.2⟩:TbD)) (fun _=>rfl) fun _ _=>trivial
def tdec (c:TbD->Int) (bs:List UInt8):TbD×Int×Int:=
 if Q60 bs (rdTb bs ⟨0,0,0⟩).2=(0,0) then (if c (rdTb bs ⟨0,0,0⟩).1=0 then ((rdTb bs ⟨0,0,0⟩).1,0,0) else (⟨[],[]⟩,c (rdTb bs ⟨0,0,0⟩).1,0)) else (⟨[],[]⟩,Q60 bs (rdTb bs ⟨0,0,0⟩).2)
theorem J74 {c:TbD->Int} {t:TbD} (h:TbIn t) (hc:c t=0):tdec c (encT t)=(t,0,0):=by
 have hh:Has (encT t) 0 (encT t):=⟨[],by simp,Nat.zero_le _⟩
 have e:=(Z2o h).has _ ⟨0,0,0⟩ rfl hh
 unfold tdec
 rw[e]
 dsimp only
 rw[Nat.zero_add]
 have:Q60 (encT t) ⟨(encT t).length,0,0⟩=(0,0):=by
  unfold Q60
  rw[if_neg (by simp)]
 rw[if_pos this,if_pos hc]
theorem zyv {c:TbD->Int} {t:TbD} (h:TbIn t) {k:Nat} (hk:k<(encT t).length):(tdec c ((encT t).take k)).2.1≠0:=by
 have hh:Short ((encT t).take k) 0 (encT t):=⟨(encT t).drop k,fun q=>by have:=congrArg List.length q;rw[List.length_drop]at this;simp at this;omega,by simp,Nat.zero_le _⟩
 have e:=(Z2o h).cut _ ⟨0,0,0⟩ rfl hh
 unfold tdec
 have f1:Q60 ((encT t).take k) (rdTb ((encT t).take k) ⟨0,0,0⟩).2=((rdTb ((encT t).take k) ⟨0,0,0⟩).2.err,(rdTb ((encT t).take k) ⟨0,0,0⟩).2.ea):=by
  unfold Q60
  rw[if_neg fun q=>e q.1]
 rw[f1,if_neg fun q=>e (congrArg Prod.fst q)]
 exact e
theorem zGh {c:TbD->Int} {b:List UInt8} (h:(tdec c b).2.1≠0):(tdec c b).1=⟨[],[]⟩:=by
 unfold tdec at h ⊢
 split
 ·rename_i q
  rw[if_pos q]at h
  split
  ·rename_i q2
   rw[if_pos q2]at h
   exact absurd rfl h
  ·rfl
 ·rfl
theorem K9T {c:TbD->Int} {b:List UInt8} (h:(tdec c b).2.1=0):encT (tdec c b).1=b/\c (tdec c b).1=0/\(tdec c b).2=(0,0):=by
 have g0:RGood b ⟨0,0,0⟩:=⟨Nat.zero_le _,fun q=>absurd rfl q⟩
 unfold tdec at h ⊢
 split at h
 ·rename_i q
  rw[if_pos q]
  split at h
  ·rename_i q2
   rw[if_pos q2]
   have q3:=q
   unfold Q60 at q3
   split at q3
   ·cases q3
   ·rename_i q4
    rw[Prod.mk.injEq]at q3
    obtain ⟨a1,a2,_⟩:=Y6J.1 b ⟨0,0,0⟩ rfl g0 q3.1
    refine ⟨?_,q2,rfl⟩
    have hp:(rdTb b ⟨0,0,0⟩).2.pos=(encT (rdTb b ⟨0,0,0⟩).1).length:=by rw[a2];simp
    have hl:=a1.le
    dsimp only at hl
    have hge:b.length<=(encT (rdTb b ⟨0,0,0⟩).1).length:=by
     have:=fun z=>q4 ⟨q3.1,z⟩
     omega
    obtain ⟨y,y1,_⟩:=a1
    have:=congrArg List.length y1
    rw[List.length_drop,List.length_append]at this
    have hy:y=[]:=List.eq_nil_of_length_eq_zero (by omega)
    rw[hy,List.append_nil,List.drop_zero]at y1
    exact y1.symm
  ·rename_i q2
   exact absurd h q2
 ·rename_i q
  exfalso
  dsimp only at h
  unfold Q60 at h q
  split at h
  ·cases h
  ·rename_i q4
   rw[if_neg q4]at q
   obtain ⟨a1,a2,_⟩:=Y6J.1 b ⟨0,0,0⟩ rfl g0 h
   refine q ?_
   rw[Prod.mk.injEq]
   exact ⟨h,by rw[a2]⟩
theorem ZQa (c:TbD->Int) (b:List UInt8):0<=(tdec c b).2.2/\(tdec c b).2.2<=b.length:=by
 have g0:RGood b ⟨0,0,0⟩:=⟨Nat.zero_le _,fun q=>absurd rfl q⟩
 have g:=Y6J.2.2 b _ g0
 unfold tdec
 split
 ·split
  ·dsimp only;omega
  ·dsimp only;omega
 ·rename_i q
  unfold Q60 at q ⊢
  split
  ·try dsimp only
   have:=g.1
   omega
  ·rename_i q2
   rw[if_neg q2]at q
   dsimp only
   by_cases he:(rdTb b ⟨0,0,0⟩).2.err=0
   ·obtain ⟨_,a2,_⟩:=Y6J.1 b ⟨0,0,0⟩ rfl g0 he
    rw[a2]
    dsimp only
    omega
   ·exact g.2 he
end
section
section
variable {α:Type}
abbrev RFt:=RSt×(Int×Int)
def flsV (st:RFt):Prop:=st.2≠(0,0)\/st.1.err≠0
instance (st:RFt):Decidable (flsV st):=inferInstanceAs (Decidable (_\/_))
def vir (st:RFt):RSt:=if st.2=(0,0) then st.1 else ⟨st.1.pos,st.2.1,st.2.2⟩
structure RFok (bs:List UInt8) (st:RFt):Prop where
 f:st.2=(0,0)\/(st.2.1=4/\st.1.err=0)
 e:st.1.err=0->st.1.ea=0
 g:RGood bs st.1
theorem Yh0 {bs:List UInt8} {st:RFt} (h:RFok bs st):flsV st↔(vir st).err≠0:=by
 unfold flsV vir
 split
 ·rename_i q
  exact ⟨fun z=>z.elim (fun z=>absurd q z) _root_.id,.inr⟩
 ·rename_i q
  rcases h.f with z|z
  ·exact absurd z q
  ·dsimp only
   rw[z.1]
   exact ⟨fun _=>by decide,fun _=>.inl q⟩
theorem YdI {bs:List UInt8} {st:RFt} (h:RFok bs st):flsV st↔(st.2≠(0,0)\/(YnR bs st.1=0/\Q60 bs st.1≠(0,0))):=by
 unfold flsV
 refine or_congr Iff.rfl ⟨fun q=>?_,fun ⟨q1,q2⟩ z=>?_⟩
 ·unfold YnR Q60
  rw[if_neg q,if_neg fun z=>q z.1]
  exact ⟨rfl,fun z=>q (congrArg Prod.fst z)⟩
 ·unfold YnR at q1
  rw[if_pos z]at q1
  unfold Q60 at q2
  rw[if_neg (by omega),z,h.e z]at q2
  exact q2 rfl
def lstS (g:RFt->α×RFt):Nat->RFt->List α->List α×RFt
 | 0,st,acc=>(acc,st)
 | n+1,st,acc=>if flsV st then (acc,st) else lstS g n (g st).2 (acc++[(g st).1])
def manS (bs:List UInt8) (st:RFt):Nat×RFt:=((KqA bs st.1).1.toNat,((KqA bs st.1).2,if (bs.length:Int)<(KqA bs st.1).1 then (4,(st.1.pos:Int)) else st.2))
def seqS (bs:List UInt8) (g:RFt->α×RFt) (st:RFt):List α×RFt:=if flsV st then ([],st) else lstS g (manS bs st).1 (manS bs st).2 []
def SimS (bs:List UInt8) (g:RFt->α×RFt) (f:List UInt8->RSt->α×RSt):Prop:=∀st,RFok bs st->¬flsV st->(g st).1=(f bs (vir st)).1/\vir (g st).2=(f bs (vir st)).2/\RFok bs (g st).2
theorem KqE {bs:List UInt8} {g:RFt->α×RFt} {f:List UInt8->RSt->α×RSt} (h:SimS bs g f):∀(n:Nat) (st:RFt) (acc:List α),RFok bs st->(lstS g n st acc).1=(QgU f bs n (vir st) acc).1/\vir (lstS g n st acc).2=(QgU f bs n (vir st) acc).2/\RFok bs (lstS g n st acc).2
 | 0,st,acc,ho=>⟨rfl,rfl,ho⟩
 | n+1,st,acc,ho=>by
  rw[lstS,QgU]
  by_cases q:flsV st
  ·rw[if_pos q,if_neg ((Yh0 ho).1 q)]
   exact ⟨rfl,rfl,ho⟩
  ·rw[if_neg q,if_pos (Decidable.byContradiction fun z=>q ((Yh0 ho).2 z))]
   obtain ⟨h1,h2,h3⟩:=h st ho q
   rw[<-h1,<-h2]
   exact KqE h n _ _ h3
theorem Xzd (bs:List UInt8) (s:RSt) (h:s.err=0->s.ea=0):(KqA bs s).2.err=0->(KqA bs s).2.ea=0:=by
 intro q
 by_cases hs:s.err=0
 ·have:=(zNu hs q).2
  rw[this]
  exact h hs
 ·rw[KMw bs s hs]at q ⊢
  exact h q
theorem YTO {bs:List UInt8} {st:RFt} (ho:RFok bs st) (q:¬flsV st):(manS bs st).1=(qlW bs (vir st) bs.length).1.toNat/\vir (manS bs st).2=(qlW bs (vir st) bs.length).2/\RFok bs (manS bs st).2:=by
 have hf:st.2=(0,0):=Decidable.byContradiction fun z=>q (.inl z)
 have he:st.1.err=0:=Decidable.byContradiction fun z=>q (.inr z)
 have hv:vir st=st.1:=by unfold vir;rw[if_pos hf]
 have hg:=ho.g.num
 have hea:=Xzd bs st.1 ho.e
 rw[hv]
 unfold manS qlW
 rw[if_pos he]
 by_cases z:(bs.length:Int)<(KqA bs st.1).1
 ·have hn0:(KqA bs st.1).2.err=0:=by
   apply Classical.byContradiction
   intro w
   have:(KqA bs st.1).1=0:=by
    unfold KqA at w ⊢
    rw[if_pos he]at w ⊢
    split at w
    ·rfl
    ·rename_i c hc
     unfold qUk at w ⊢
     split at w
     ·rename_i y;rw[if_pos y]
     ·rename_i y;rw[if_neg y]
      split at w
      ·rename_i y;rw[if_pos y]
      ·rename_i y;rw[if_neg y]
       split at w
       ·exact absurd he w
       ·rename_i y;rw[if_neg y]
        dsimp only at w ⊢
        split at w
        ·rename_i y;rw[if_pos y]
        ·exact absurd he w
   omega
  rw[if_pos z,if_pos z]
  refine ⟨rfl,?_,.inr ⟨rfl,hn0⟩,hea,hg⟩
  unfold vir RSt.fail
  rw[if_neg (by simp),if_pos hn0]
 ·rw[if_neg z,if_neg z]
  refine ⟨rfl,?_,.inl hf,hea,hg⟩
  unfold vir
  rw[if_pos hf]
theorem Zok {bs:List UInt8} {g:RFt->α×RFt} {f:List UInt8->RSt->α×RSt} (h:SimS bs g f) {st:RFt} (ho:RFok bs st):(seqS bs g st).1=(Qk4 f bs (vir st)).1/\vir (seqS bs g st).2=(Qk4 f bs (vir st)).2/\RFok bs (seqS bs g st).2:=by
 unfold seqS Qk4
 by_cases q:flsV st
 ·rw[if_pos q,if_neg ((Yh0 ho).1 q)]
  exact ⟨rfl,rfl,ho⟩
 ·rw[if_neg q,if_pos (Decidable.byContradiction fun z=>q ((Yh0 ho).2 z))]
  obtain ⟨h1,h2,h3⟩:=YTO ho q
  rw[<-h1,<-h2]
  exact KqE h _ _ _ h3
end
def hdS (bs:List UInt8) (st:RFt):Hd×RFt:=((rdHd bs st.1).1,((rdHd bs st.1).2,st.2))
def tgS (bs:List UInt8) (st:RFt):TgD×RFt:=(⟨(JrE bs st.1 64).1,(seqS bs (hdS bs) ((JrE bs st.1 64).2,st.2)).1⟩,(seqS bs (hdS bs) ((JrE bs st.1 64).2,st.2)).2)
def rpS (bs:List UInt8) (st:RFt):RpD×RFt:=(⟨(JrE bs st.1 128).1,(seqS bs (tgS bs) ((JrE bs st.1 128).2,st.2)).1,(seqS bs (hdS bs) (seqS bs (tgS bs) ((JrE bs st.1 128).2,st.2)).2).1⟩,(seqS bs (hdS bs) (seqS bs (tgS bs) ((JrE bs st.1 128).2,st.2)).2).2)
def tbS (bs:List UInt8):TbD×RFt:=(⟨(QDw bs ⟨0,0,0⟩ 16).1,(seqS bs (rpS bs) ((QDw bs ⟨0,0,0⟩ 16).2,(0,0))).1⟩,(seqS bs (rpS bs) ((QDw bs ⟨0,0,0⟩ 16).2,(0,0))).2)
theorem XeB {α:Type} {f:List UInt8->RSt->α×RSt} {enc:α->List UInt8} {P:α->Prop} (F:Rok f enc P) {bs:List UInt8} {s:RSt} (hg:RGood bs s) (h:s.err=0->s.ea=0):(f bs s).2.err=0->(f bs s).2.ea=0:=fun q=>by
 have hs:=F.nz q
 rw[(F.1 bs s hs hg q).2.1]
 exact h hs
theorem zSM {st:RFt} (q:¬flsV st):st.2=(0,0)/\vir st=st.1:=by
 have hf:st.2=(0,0):=Decidable.byContradiction fun z=>q (.inl z)
 exact ⟨hf,by unfold vir;rw[if_pos hf]⟩
theorem YkB (r:RSt) {f:Int×Int} (hf:f=(0,0)):vir (r,f)=r:=by
 unfold vir
 rw[if_pos hf]
theorem XpZ (bs:List UInt8):SimS bs (hdS bs) rdHd:=fun st ho q=>by
 obtain ⟨hf,hv⟩:=zSM q
 rw[hv]
 exact ⟨rfl,YkB _ hf,.inl hf,XeB KaL ho.g ho.e,KaL.2.2 bs _ ho.g⟩
theorem XFH {bs:List UInt8} {st:RFt} (ho:RFok bs st) (hf:st.2=(0,0)) (most:Int):RFok bs ((JrE bs st.1 most).2,st.2):=⟨.inl hf,XeB (Y89 (most:=most)) ho.g ho.e,ho.g.bytes most⟩
theorem zMo (bs:List UInt8):SimS bs (tgS bs) rdTg:=fun st ho q=>by
 obtain ⟨hf,hv⟩:=zSM q
 obtain ⟨h1,h2,h3⟩:=Zok (XpZ bs) (XFH ho hf 64)
 rw[YkB _ hf]at h1 h2
 rw[hv]
 unfold tgS rdTg
 exact ⟨by rw[h1],h2,h3⟩
theorem Y5T (bs:List UInt8):SimS bs (rpS bs) rdRp:=fun st ho q=>by
 obtain ⟨hf,hv⟩:=zSM q
 obtain ⟨h1,h2,h3⟩:=Zok (zMo bs) (XFH ho hf 128)
 rw[YkB _ hf]at h1 h2
 obtain ⟨k1,k2,k3⟩:=Zok (XpZ bs) h3
 rw[h2]at k1 k2
 rw[hv]
 unfold rpS rdRp
 exact ⟨by rw[h1,k1],k2,k3⟩
theorem QtM (bs:List UInt8):(tbS bs).1=(rdTb bs ⟨0,0,0⟩).1/\vir (tbS bs).2=(rdTb bs ⟨0,0,0⟩).2/\RFok bs (tbS bs).2:=by
 have g0:RGood bs ⟨0,0,0⟩:=⟨Nat.zero_le _,fun q=>absurd rfl q⟩
 have ho:RFok bs ((QDw bs ⟨0,0,0⟩ 16).2,(0,0)):=⟨.inl rfl,XeB (zw3 (most:=16)) g0 fun _=>rfl,g0.vec 16⟩
 obtain ⟨h1,h2,h3⟩:=Zok (Y5T bs) ho
 rw[YkB _ rfl]at h1 h2
 unfold tbS rdTb
 exact ⟨by rw[h1],h2,h3⟩
def fltS (bs:List UInt8) (st:RFt):Int×Int:=if st.2=(0,0) then Q60 bs st.1 else st.2
theorem Ygn {bs:List UInt8} {st:RFt} (ho:RFok bs st):fltS bs st=Q60 bs (vir st):=by
 unfold fltS vir
 split
 ·rfl
 ·rename_i q
  unfold Q60
  rcases ho.f with z|z
  ·exact absurd z q
  ·rw[if_neg]
   intro w
   have:=w.1
   dsimp only at this
   omega
end
section
section
variable {σ:Type}
open Classical in
noncomputable def TQ (P:Program) (g:Nat) (I:List AV->List AB->σ->Prop) (O:σ->List AB->AV->List AB->Prop):List AV->List AB->Option (AV×List AB):=fun args H =>
 if e:∃x:σ×AV×List AB,I args H x.1/\FnC P g args H x.2.1 x.2.2/\O x.1 H x.2.1 x.2.2 then some e.choose.2 else none
theorem Z7n (P:Program) (g:Nat) (I:List AV->List AB->σ->Prop) (O:σ->List AB->AV->List AB->Prop):Spec P g (TQ P g I O):=by
 intro args h v h' e
 unfold TQ at e
 split at e
 ·rename_i hx
  have h1:=hx.choose_spec.2.1
  have h2:=Option.some.inj e
  rw[h2]at h1
  exact h1
 ·cases e
theorem XsQ {P:Program} {g:Nat} {I:List AV->List AB->σ->Prop} {O:σ->List AB->AV->List AB->Prop} {args:List AV} {H:List AB} (hu:∀x y,I args H x->I args H y->x=y) {x:σ} {v:AV} {H':List AB} (hi:I args H x) (hf:FnC P g args H v H') (ho:O x H v H'):∃v' H'',TQ P g I O args H=some (v',H'')/\O x H v' H'':=by
 have hx:∃x:σ×AV×List AB,I args H x.1/\FnC P g args H x.2.1 x.2.2/\O x.1 H x.2.1 x.2.2:=⟨(x,v,H'),hi,hf,ho⟩
 refine ⟨hx.choose.2.1,hx.choose.2.2,?_,?_⟩
 ·unfold TQ
  rw[dif_pos hx]
 ·have:=hx.choose_spec.2.2
  rw[hu _ _ hx.choose_spec.1 hi]at this
  exact this
end
section
variable {h H H':List AB} {i j xi:Nat} {s:AV} {bs:List UInt8} {st:RFt}
theorem q4d {α:Type} {r:Row α} {h h':List AB} {s:AV} {l:List α} (hm:∀id∈idOf s,zZU h' id=zZU h id) (e:Rd r h s l):Rd r h' s l:=by
 refine ⟨?_,e.2⟩
 have h1:=e.1
 cases s <;> first|exact h1|skip
 rename_i id off len cap k
 have q:=hm id (by simp [idOf])
 simp only[rdS]at h1 ⊢
 rw[q]
 exact h1
abbrev xB (i:Nat) (bs:List UInt8) (f:Int×Int):AB:=.blk false true [.p i 0,.i .i64 (bs.length:Nat),.i .i64 f.1,.i .i64 f.2]
structure RI (i j xi:Nat) (s:AV) (bs:List UInt8) (st:RFt) (H:List AB):Prop where
 hi:H[i]?=some (.blk false true [.p j 0,s,.i .i64 (st.1.pos:Nat)])
 hj:H[j]?=some (.blk true true [.i .i64 st.1.err,.i .i64 st.1.ea])
 hx:H[xi]?=some (xB i bs st.2)
 R:RdH H i j s bs
 nx:xi≠i/\xi≠j/\∀k∈idOf s,k≠xi
 ok:RFok bs st
theorem QKY {id:Nat} {fl m:Bool} {xs:List AV} (e:H[id]?=some (.blk fl m xs)):zZU H id=some xs:=by unfold zZU;rw[e]
theorem RI.pos (e:RI i j xi s bs st H):st.1.pos<=bs.length:=e.ok.g.1
theorem RI.put (e:RI i j xi s bs st H) {st':RFt} (hl:H.length<=H'.length) (h1:H'[i]?=some (.blk false true [.p j 0,s,.i .i64 (st'.1.pos:Nat)])) (h2:H'[j]?=some (.blk true true [.i .i64 st'.1.err,.i .i64 st'.1.ea])) (h3:H'[xi]?=some (xB i bs st'.2)) (hs:∀k∈idOf s,zZU H' k=zZU H k) (ok:RFok bs st'):RI i j xi s bs st' H':=
 ⟨h1,h2,h3,⟨Nat.lt_of_lt_of_le e.R.hi hl,Nat.lt_of_lt_of_le e.R.hj hl,e.R.ne,q4d hs e.R.rd,e.R.q,e.R.cap,fun k hk=>Nat.lt_of_lt_of_le (e.R.lt k hk) hl⟩,e.nx,ok⟩
theorem RI.oth (e:RI i j xi s bs st H) (hl:H.length<=H'.length) (hs:∀k,k=i\/k=j\/k=xi\/k∈idOf s->H'[k]?=H[k]?):RI i j xi s bs st H':=
 e.put hl ((hs i (.inl rfl)).trans e.hi) ((hs j (.inr (.inl rfl))).trans e.hj) ((hs xi (.inr (.inr (.inl rfl)))).trans e.hx) (fun k hk=>by unfold zZU;rw[hs k (.inr (.inr (.inr hk)))]) e.ok
theorem RI.xlt (e:RI i j xi s bs st H):xi<H.length:=(List.getElem?_eq_some_iff.1 e.hx).1
theorem RI.app (e:RI i j xi s bs st H) (L:List AB):RI i j xi s bs st (H++L):=
 e.oth (by rw[List.length_append];omega) fun k hk=>List.getElem?_append_left (by
  rcases hk with rfl|rfl|rfl|hk
  ·exact e.R.hi
  ·exact e.R.hj
  ·exact e.xlt
  ·exact e.R.lt k hk)
theorem RI.rB (e:RI i j xi s bs st H) {y:RSt} (ok:RFok bs (y,st.2)):RI i j xi s bs (y,st.2) (rB H i j s y):=
 e.put (by rw[Kz5];exact Nat.le_refl _) (rB_i e.R) (rB_j e.R) ((qO8 e.nx.1 e.nx.2.1).trans e.hx) (fun k hk=>by unfold zZU;rw[qO8 (e.R.q k hk).1 (e.R.q k hk).2]) ok
theorem RI.setx (e:RI i j xi s bs st H) {f:Int×Int} (ok:RFok bs (st.1,f)):RI i j xi s bs (st.1,f) (H.set xi (xB i bs f)):=
 e.put (by rw[List.length_set];exact Nat.le_refl _) ((List.getElem?_set_ne e.nx.1).trans e.hi) ((List.getElem?_set_ne e.nx.2.1).trans e.hj) (List.getElem?_set_self e.xlt) (fun k hk=>by unfold zZU;rw[List.getElem?_set_ne (Ne.symm (e.nx.2.2 k hk))]) ok
theorem RI.asis (e:RI i j xi s bs st H):Go.Proofs.YtekeoichmdiiiaaGreat.rB H i j s st.1=H:=Y8O e.hi e.hj
theorem RI.m (e:RI i j xi s bs st H):rdM H i=some (j,s,bs,st.1):=by
 have:=qdK (h:=H) (x:=st.1) e.R e.pos []
 rw[e.asis,List.append_nil]at this
 exact this
theorem RI.r (e:RI i j xi s bs st H):rdr H i=some (j,s,((st.1.pos:Nat):Int),st.1.err,st.1.ea):=by
 have:=XgF (h:=H) (x:=st.1) e.R []
 rw[e.asis,List.append_nil]at this
 exact this
theorem RI.num (e:RI i j xi s bs st H):ZRt [.p i 0] H=some (.i .i64 (KqA bs st.1).1,Go.Proofs.YtekeoichmdiiiaaGreat.rB H i j s (KqA bs st.1).2):=by
 show (rdM H i).bind _=_
 rw[e.m,Option.bind_some]
theorem RI.rest (e:RI i j xi s bs st H):ZTf [.p i 0] H=some (.i .i64 (YnR bs st.1),H):=by
 have:=e.pos
 show (rdr H i).bind _=_
 rw[e.r,Option.bind_some]
 dsimp only
 rw[e.R.rd.get,Option.bind_some,if_pos ⟨by omega,by omega⟩,Int.toNat_natCast]
theorem RI.ld (e:RI i j xi s bs st H):ldV H none (.p xi 0)=some (.p i 0)/\ldV H none (.p xi 1)=some (.i .i64 (bs.length:Nat))/\ldV H (some 2) (.p xi 2)=some (.ag [.i .i64 st.2.1,.i .i64 st.2.2]):=by
 simp only[ldV,QKY e.hx,Option.bind_some]
 exact ⟨rfl,rfl,rfl⟩
theorem RI.sto (e:RI i j xi s bs st H) (a b:Int):stV H (some 2) (.p xi 2) (.ag [.i .i64 a,.i .i64 b])=some (H.set xi (xB i bs (a,b))):=by
 simp only[stV,stB,e.hx]
 rfl
theorem RI.inj {st':RFt} {i' j':Nat} {s':AV} {bs':List UInt8} (e:RI i j xi s bs st H) (e':RI i' j' xi s' bs' st' H):i=i'/\j=j'/\s=s'/\bs=bs'/\st=st':=by
 have h1:=e.hx.symm.trans e'.hx
 simp only[xB,Option.some.injEq,AB.blk.injEq,List.cons.injEq,AV.p.injEq,AV.i.injEq,and_true,true_and]at h1
 obtain ⟨h1,_,h3,h4⟩:=h1
 subst h1
 have h5:=e.m.symm.trans e'.m
 simp only[Option.some.injEq,Prod.mk.injEq]at h5
 exact ⟨rfl,h5.1,h5.2.1,h5.2.2.1,Prod.ext h5.2.2.2 (Prod.ext h3 h4)⟩
noncomputable def zCT:List AV->List AB->Option (AV×List AB)
 | [.p xi 0],h=>match h[xi]? with
  | some (.blk _ _ [.p i 0,.i .i64 _,.i .i64 f1,.i .i64 f2])=>(rdr h i).bind fun x=>(getS X0d h x.2.1).bind fun bs=>if 0<=x.2.2.1/\x.2.2.1<=bs.length then some (.b (decide ((f1,f2)≠(0,0)\/(YnR bs ⟨x.2.2.1.toNat,x.2.2.2.1,x.2.2.2.2⟩=0/\Q60 bs ⟨x.2.2.1.toNat,x.2.2.2.1,x.2.2.2.2⟩≠(0,0)))),h) else none
  | _=>none
 | _,_=>none
theorem RI.fls (e:RI i j xi s bs st H):zCT [.p xi 0] H=some (.b (decide (flsV st)),H):=by
 have:=e.pos
 have q:=YdI e.ok
 unfold zCT
 simp only[e.hx,e.r,Option.bind_some,e.R.rd.get]
 rw[if_pos ⟨by omega,by omega⟩,Int.toNat_natCast]
 congr 3
 exact decide_eq_decide.2 q.symm
end
structure Fr (W:List Nat) (H0 H:List AB):Prop where
 le:H0.length<=H.length
 eq:∀k,k<H0.length->k∉W->H[k]?=H0[k]?
theorem Fr.refl (W:List Nat) (H:List AB):Fr W H H:=⟨Nat.le_refl _,fun _ _ _=>rfl⟩
theorem Fr.trans {W:List Nat} {A B C:List AB} (a:Fr W A B) (b:Fr W B C):Fr W A C:=⟨Nat.le_trans a.le b.le,fun k h1 h2=>(b.eq k (Nat.lt_of_lt_of_le h1 a.le) h2).trans (a.eq k h1 h2)⟩
theorem Fr.mono {W W':List Nat} {A B:List AB} (h:∀k∈W,k∈W') (a:Fr W A B):Fr W' A B:=⟨a.le,fun k h1 h2=>a.eq k h1 fun q=>h2 (h k q)⟩
theorem Fr.app (W:List Nat) (H L:List AB):Fr W H (H++L):=⟨by rw[List.length_append];omega,fun _ h1 _=>List.getElem?_append_left h1⟩
theorem Fr.set {W:List Nat} {m:Nat} (hm:m∈W) (H:List AB) (B:AB):Fr W H (H.set m B):=⟨by rw[List.length_set];exact Nat.le_refl _,fun k _ h2=>List.getElem?_set_ne fun q=>h2 (by rw[<-q];exact hm)⟩
theorem Fr.rB {W:List Nat} {i j:Nat} (hi:i∈W) (hj:j∈W) (H:List AB) (s:AV) (y:RSt):Fr W H (rB H i j s y):=⟨by rw[Kz5];exact Nat.le_refl _,fun k _ h2=>qO8 (fun q=>h2 (q▸hi)) fun q=>h2 (q▸hj)⟩
end
section
set_option maxRecDepth 100000
set_option maxHeartbeats 8000000
theorem Xvm (a b c d:Int):JTs [.i,.i] [.i .i64 a,.i .i64 b] [.i .i64 c,.i .i64 d]=some (decide (a=c)&&decide (b=d)):=by
 simp only[JTs,QsB,if_true,Option.bind_some,Option.map_some,Option.some.injEq,Bool.and_true]
 rfl
theorem Jas:Spec Tryz.prog 203 zCT:=by
  intro args h v h' e
  unfold zCT at e
  split at e
  · rename_i xi
    split at e
    · rename_i m1 m2 i q0 x1 x2 hx
      obtain ⟨j,s,p,er,a,⟨m,hi⟩,hb,hc,e⟩:=Zyn e
      dsimp only at e
      obtain ⟨bs,hs,e⟩:=Qk0 e
      split at e
      · rename_i hp
        cases e
        obtain ⟨n,rfl⟩:=Int.eq_ofNat_of_zero_le hp.1
        refine FnAt.c (FnAt.frz0 fun hz=>?_)
        replace hb:=Kz1 hb
        replace hc:=Kz1 hc
        replace hs:=hs.frz
        replace hi:(h.map AB.freeze)[i]?=some (.blk false false [.p j 0,s,.i .i64 (n:Int)]):=by rw[List.getElem?_map,hi];rfl
        replace hx:(h.map AB.freeze)[xi]?=some (.blk m1 false [.p i 0,.i .i64 q0,.i .i64 x1,.i .i64 x2]):=by rw[List.getElem?_map,hx];rfl
        generalize h.map AB.freeze=h at *
        refine (FnAt.run (by kernel_rfl) (T:=⟨[⟨107,zJN,fun _=>[]⟩,⟨204,ZTf,fun _=>[]⟩],[]⟩) ⟨⟨ZLZ,qz4,trivial⟩,trivial⟩ Tryz.func203 Xnl fun ho hh=>?_)
        have f1:=X5u hb
        have f2:=X5u hc
        have fx:=X5u (QKY hx)
        have f3:=hs.fx (qC8 hh hi) (sz:=1) rfl
        have f4:∀L,rdr (h++L) i=some (j,s,(n:Int),er,a):=fun L=>by
          unfold rdr
          rw[List.getElem?_append_left (List.getElem?_eq_some_iff.1 hi).1,hi]
          simp only[f2.1]
        have q1:=eq_true hp
        have hn:((n:Int)).toNat=n:=Int.toNat_natCast n
        have hn':=eq_true (show n<=bs.length by omega)
        unfold w203
        simp only[hn]
        obtain ⟨r,hr⟩:∃r,r=YnR bs ⟨n,er,a⟩:=⟨_,rfl⟩
        obtain ⟨⟨y1,y2⟩,hy⟩:∃y,y=Q60 bs ⟨n,er,a⟩:=⟨_,rfl⟩
        rw[<-hr,<-hy]
        have hy1:(Q60 bs ⟨n,er,a⟩).1=y1:=by rw[<-hy]
        have hy2:(Q60 bs ⟨n,er,a⟩).2=y2:=by rw[<-hy]
        rcases emG (x1=0) with g1|g1 <;> rcases emG (x2=0) with g2|g2 <;> rcases emG (r=0) with g3|g3 <;> rcases emG (y1=0) with g4|g4 <;> rcases emG (y2=0) with g5|g5 <;>
        (simp only[z49,Qs3,XtK,K1H,JS3,simprocAttr,CO.tmps,Opd.tmps,optT,fx,f1,f2,f3,f4,q1,hn,hn',<-hr,hy1,hy2,g1,g2,g3,g4,g5,zJN,ZTf,Xvm,Bool.and_true,Bool.true_and,Bool.and_false,Bool.false_and,Bool.and_self,Bool.xor_true,Bool.xor_false,Bool.not_true,Bool.not_false,oW hh hz,YNB,List.getElem?_cons_zero,List.getElem?_cons_succ,ne_eq,not_true_eq_false,not_false_eq_true,Prod.mk.injEq,and_true,true_and,and_false,false_and,or_true,true_or,or_false,false_or,decide_true,decide_false]
         exact Bt.drop _ hh rfl rfl)
      · cases e
    · cases e
  · cases e
end
end Go.Proofs.YtekeoichmdiiiaaGreat
