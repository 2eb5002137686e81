/- Part 19 of what the laws' proofs rest on. No condition. -/
import Derived.Test.YtekeoichmdiiiaaGreatTh18
set_option linter.all false
namespace Go.Proofs.YtekeoichmdiiiaaGreat
section
section
variable {lim:Int} {r:List UInt8×Int} {t:List UInt8} {m:Man}
def WS (lim:Int) (r:List UInt8×Int) (t:List UInt8):Prop:=(r=(t,0)/\(t.length:Int)<=lim)\/(r.2=4/\lim<(t.length:Int))
theorem WS.put (h:WS lim r t) (enc:List UInt8):WS lim (wput lim r.1 r.2 enc true) (t++enc):=by
 unfold WS wput
 rw[List.length_append]
 rcases h with ⟨rfl,h⟩|⟨h1,h2⟩
 ·dsimp only
  rw[if_pos rfl,if_pos rfl]
  by_cases q:lim<t.length+enc.length
  ·rw[if_pos q]
   exact .inr ⟨rfl,by omega⟩
  ·rw[if_neg q]
   exact .inl ⟨rfl,by omega⟩
 ·rw[h1,if_neg (by decide)]
  exact .inr ⟨rfl,by omega⟩
theorem WS.num (h:WS lim r t) {n:Int} (h0:0<=n):WS lim (wN lim r n) (t++qkv n):=by
 unfold wN
 rw[decide_eq_true h0]
 exact h.put _
theorem WS.txt (h:WS lim r t) (s:List UInt8):WS lim (wTx lim r s) (t++(qkv s.length++s)):=h.put _
theorem WS.id (h:WS lim r t) (s:List UInt8):WS lim (wId lim r s) (t++s):=h.put _
end
end
section
section
variable {α β γ:Type}
def Rok (f:List UInt8->RSt->α×RSt) (enc:α->List UInt8) (P:α->Prop):Prop:=
 (∀bs s,s.err=0->RGood bs s->(f bs s).2.err=0->Has bs s.pos (enc (f bs s).1)/\(f bs s).2 = { s with pos:=s.pos+(enc (f bs s).1).length }/\P (f bs s).1) /\
 (∀bs s,s.err≠0->(f bs s).2=s)/\(∀bs s,RGood bs s->RGood bs (f bs s).2)
theorem Rok.nz {f:List UInt8->RSt->α×RSt} {enc:α->List UInt8} {P:α->Prop} (F:Rok f enc P) {bs:List UInt8} {s:RSt} (h:(f bs s).2.err=0):s.err=0:=by
 apply Classical.byContradiction
 intro q
 rw[F.2.1 bs s q]at h
 exact q h
theorem Rok.seq {f:List UInt8->RSt->α×RSt} {g:List UInt8->RSt->β×RSt} {ea:α->List UInt8} {eb:β->List UInt8} {P:α->Prop} {Q:β->Prop} (F:Rok f ea P) (G:Rok g eb Q) :
  Rok (fun bs s=>(((f bs s).1,(g bs (f bs s).2).1),(g bs (f bs s).2).2)) (fun x=>ea x.1++eb x.2) (fun x=>P x.1/\Q x.2):=by
 refine ⟨fun bs s hs hg h=>?_,fun bs s h=>?_,fun bs s h=>G.2.2 bs _ (F.2.2 bs s h)⟩
 ·dsimp only at h ⊢
  have h1:=G.nz h
  obtain ⟨a1,a2,a3⟩:=F.1 bs s hs hg h1
  obtain ⟨b1,b2,b3⟩:=G.1 bs _ h1 (F.2.2 bs s hg) h
  have b1':=b1
  rw[a2]at b1'
  have hp:(f bs s).2.pos=s.pos+(ea (f bs s).1).length:=by rw[a2]
  have he:(f bs s).2.ea=s.ea:=by rw[a2]
  refine ⟨a1.join (by rw[hp]at b1;exact b1),?_,a3,b3⟩
  rw[b2,h1,hp,he,List.length_append,Nat.add_assoc,hs]
 ·dsimp only
  rw[F.2.1 bs s h,G.2.1 bs s h]
theorem Rok.map {f:List UInt8->RSt->α×RSt} {ea:α->List UInt8} {P:α->Prop} (F:Rok f ea P) (φ:α->β) {eb:β->List UInt8} {Q:β->Prop} (he:∀x,eb (φ x)=ea x) (hQ:∀x,P x->Q (φ x)):Rok (fun bs s=>(φ (f bs s).1,(f bs s).2)) eb Q:=
 ⟨fun bs s hs hg h=>by
  obtain ⟨a1,a2,a3⟩:=F.1 bs s hs hg h
  dsimp only
  rw[he]
  exact ⟨a1,a2,hQ _ a3⟩,F.2.1,F.2.2⟩
theorem Q99:Rok KqA qkv fun n=>0<=n/\n<=9223372036854775807:=
 ⟨fun bs s hs _ h=>⟨(zNu hs h).1,(zNu hs h).2,zpc bs s⟩,fun bs s h=>by rw[KMw bs s h],fun _ _ h=>h.num⟩
theorem zwJ:Rok rdID (fun l=>l) fun l=>l.length=32:=
 ⟨fun bs s hs hg h=>⟨(YiQ hs hg h).1,(YiQ hs hg h).2,ZIz bs s⟩,fun bs s h=>Y2T bs s h,fun _ _ h=>h.id⟩
theorem Y89 {most:Int}:Rok (fun bs s=>JrE bs s most) (fun l=>qkv l.length++l) fun l=>(l.length:Int)<=most:=by
 refine ⟨fun bs s hs hg h=>?_,fun bs s h=>by dsimp only;rw[KtJ bs s most h],fun _ _ h=>h.bytes most⟩
 dsimp only at h ⊢
 have hm:(qlW bs s most).2.err=0:=by
  apply Classical.byContradiction
  intro hne
  unfold JrE at h
  rw[z3v _ _ _ _ hne]at h
  exact hne h
 obtain ⟨h1,h2,h3⟩:=QRN most hs hm
 have hge:=YTr bs s most
 obtain ⟨t1,t2,t3⟩:=K6Q _ _ hm (hg.many most) h
 have hlen:((JrE bs s most).1.length:Int)=(qlW bs s most).1:=by
  have:(JrE bs s most).1.length=(qlW bs s most).1.toNat:=t2
  omega
 rw[hlen]
 have t1':Has bs (qlW bs s most).2.pos (JrE bs s most).1:=t1
 have t3':(JrE bs s most).2 = { (qlW bs s most).2 with pos:=(qlW bs s most).2.pos+(qlW bs s most).1.toNat }:=t3
 rw[h2]at t1' t3'
 refine ⟨h1.join t1',?_,by omega⟩
 rw[t3',List.length_append]
 have:(JrE bs s most).1.length=(qlW bs s most).1.toNat:=t2
 rw[this]
 simp [Nat.add_assoc]
end
end
section
def X0d:Row UInt8:=⟨fun b=>[u8A b],1,fun _=>rfl,by decide,0,fun x y e=>Z1w (by simpa using e)⟩
theorem qrk (b:UInt8):X0d.f b=[u8A b]:=rfl
theorem YPl:X0d.sz=1:=oI rfl
theorem YG4 (l:List UInt8):X0d.cells l=l.map u8A:=by
 induction l with
 | nil=>rfl
 | cons x l ih=>simp only[Row.cells,List.flatMap_cons,List.map_cons]at ih ⊢;rw[ih];rfl
theorem JOF:∀x,∀a∈X0d.f x,a.fl=true:=fun x a h=>by rw[List.mem_singleton.1 h];rfl
end
section
open Go.RowKit
section
variable {P:Program} {α:Type} {r:Row α}
theorem Bt.less {p:Nat} {fr:List AV} {h:List AB} {i:Nat} {B B':AB} (hi:h[i]?=some B) (hbr:∀ρ w b o n,BR (KC P) ρ w b o n B->BR (KC P) ρ w b o n B') (hm:B'.mut=true->B.mut=true) (hl:B'.live=true->B.live=true):Bt P p fr h fr (h.set i B'):=by
 intro ρ w cs hp rr v
 have hlt:=(List.getElem?_eq_some_iff.1 hi).1
 have cls:∀(j:Nat) C,(h.set i B')[j]?=some C->∃C0,h[j]?=some C0/\(C.mut=true->C0.mut=true)/\(C.live=true->C0.live=true)/\∀ρ w b o n,BR (KC P) ρ w b o n C0->BR (KC P) ρ w b o n C:=fun j C hC=>by
  rw[List.getElem?_set]at hC
  split at hC
  ·rename_i hij
   subst hij
   cases hC
   exact ⟨B,hi,hm,hl,hbr⟩
  ·exact ⟨C,hC,fun z=>z,fun z=>z,fun _ _ _ _ _ z=>z⟩
 refine ⟨by rw[List.length_set];exact hp,ρ,v,⟨by rw[List.length_set];exact rr.len,fun j C b o n h1 h2=>?_,fun j k bj oj bk ok Bj Bk hne h1 h2 h3 h4 g1 g2=>?_,rr.gl.sub fun b ⟨j,C,o,h1,h2,h3⟩=>by
  obtain ⟨C0,q1,q2,_,_⟩:=cls j C h1
  exact ⟨j,C0,o,q1,q2 h2,h3⟩⟩,fun b ⟨j,C,o,h1,h2,h3⟩=>?_,fun j b ⟨C,o,h1,h2,h3⟩=>?_,fun _ _=>rfl⟩
 ·obtain ⟨C0,q1,_,_,q4⟩:=cls j C h1
  exact q4 _ _ _ _ _ (rr.blk j C0 b o n q1 h2)
 ·obtain ⟨C0,q1,q2,_,_⟩:=cls j Bj h1
  obtain ⟨C1,z1,_,z3,_⟩:=cls k Bk h2
  exact rr.sep j k bj oj bk ok C0 C1 hne q1 z1 h3 h4 (q2 g1) (z3 g2)
 ·obtain ⟨C0,q1,q2,_,_⟩:=cls j C h1
  exact ⟨j,C0,o,q1,q2 h2,h3⟩
 ·obtain ⟨C0,q1,_,q3,_⟩:=cls j C h1
  exact ⟨j,⟨C0,o,q1,q3 h2,h3⟩,fun _=>rfl,fun z=>z⟩
end
end
end Go.Proofs.YtekeoichmdiiiaaGreat
