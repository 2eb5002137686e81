/- Part 5 of what the laws' proofs rest on. No condition. -/
import Derived.MapKept
import Derived.Maps.RangeRun
import Derived.Test.YtekeoichmdiiiaaGreatTh4
set_option linter.all false
namespace Go.Proofs.YtekeoichmdiiiaaGreat
section
open Go.RowKit
section
variable {P:Program} {K:Code->CC->Prop}
def Yuh (P:Program) (d:Nat) (t:TypeId) (ks:List CK):Prop:=∀(k:Nat) (ρ:Mp) (X:List AV) (C:Array Value) (off:Nat) (r:Bool),VL ρ X C->JTs ks (win X off ks.length) (win X off ks.length)=some r ->
 ∀(em:Bool) (w:World) (a:Value),(part t C off).run P w=.ok a w->(Instr.checkKey em (d+k) t a).run P w=.ok () w
theorem JG2:∀(d:Nat) (t:TypeId) (ks:List CK),ckOf P d t=some ks->Yuh P d t ks
 | 0,t,ks,h=>by cases h
 | d+1,t,ks,h=>by
  have hq:=(Qmp (d+1) t ks h).1
  simp only[ckOf]at h
  obtain ⟨k1,h1,h2⟩:=oQ.1 h
  clear h
  split at h2
  case isFalse=>cases h2
  rename_i hsz
  cases h2
  clear hsz
  intro k ρ X C off r hX e em w a ha
  rw[show d+1+k=(d+k)+1 by omega,Instr.checkKey]
  split at h1
  ·rename_i hu
   simp only[Sem.run_bind,run_underlying hu,Result.andThen_ok]
   rfl
  ·rename_i kk hu
   simp only[Sem.run_bind,run_underlying hu,Result.andThen_ok]
   rfl
  ·rename_i hu
   simp only[Sem.run_bind,run_underlying hu,Result.andThen_ok]
   rfl
  ·rename_i fs hu
   split at h1
   ·cases h1
   ·rw[QnA hu rfl hq C off w]at ha
    cases ha
    simp only[Sem.run_bind,run_underlying hu,Result.andThen_ok]
    rw[<-Array.forIn_toList]
    have hX':=hX.extract off ks.length
    have e1:win ((X.drop off).take ks.length) 0 ks.length=win X off ks.length:=by have:=QN2 X off ks.length 0 ks.length (by omega);simpa [win] using this
    rw[<-e1]at e
    generalize (X.drop off).take ks.length=X' at hX' e
    generalize C.extract off (off+ks.length)=C' at hX'
    clear hX hq e1 hu
    generalize fs.toList=L at h1
    generalize 0=o at h1 e
    induction L generalizing o ks r with
    | nil=>simp
    | cons f L ih =>
     simp only[JCg]at h1
     split at h1
     ·cases h1
     ·rename_i hn
      obtain ⟨k1,hk1,h1⟩:=oQ.1 h1
      obtain ⟨k2,hk2,rfl⟩:=Option.map_eq_some_iff.1 h1
      have hname : f.name ≠ "_" := fun q => hn (.inl q)
      have hoff:f.offset=o:=Decidable.byContradiction fun q=>hn (.inr q)
      obtain ⟨r1,r2,e1,e2,rfl⟩:=Xh2 k1 k2 _ _ r e
      rw[List.length_append,Z1F _ _ _ _ (by omega)]at e1
      rw[List.length_append,YxB,Nat.add_sub_cancel_left]at e2
      obtain ⟨a,_,p1,_,_⟩:=(Qmp d f.type k1 hk1).2 k ρ X' X' C' C' o r1 hX' hX' e1 w
      have p2:=JG2 d f.type k1 hk1 k ρ X' C' o r1 hX' e1 em w a p1
      simp only[List.forIn_cons,Sem.run_bind,hname,ne_eq,not_false_eq_true,if_true,hoff,Result.andThen_ok,p1,p2,Sem.run_pure]
      exact ih k2 _ (o+k1.length) hk2 e2
  ·rename_i n e' hu
   obtain ⟨k2,hk2,rfl⟩:=Option.map_eq_some_iff.1 h1
   rw[QnA hu rfl hq C off w]at ha
   cases ha
   obtain ⟨i,hi,his⟩:=q6Y (Qmp d e' k2 hk2).1
   simp only[Sem.run_bind,run_underlying hu,Result.andThen_ok]
   simp only[Std.Legacy.Range.forIn_eq_forIn_range',Std.Legacy.Range.size,Nat.sub_zero,Nat.add_one_sub_one,Nat.div_one]
   have hX':=hX.extract off ((List.replicate n k2).flatten).length
   have e1:win ((X.drop off).take ((List.replicate n k2).flatten).length) 0 ((List.replicate n k2).flatten).length=win X off ((List.replicate n k2).flatten).length:=by have:=QN2 X off ((List.replicate n k2).flatten).length 0 ((List.replicate n k2).flatten).length (by omega);simpa [win] using this
   rw[<-e1]at e
   have hln:((List.replicate n k2).flatten).length=n*k2.length:=by simp
   generalize (X.drop off).take ((List.replicate n k2).flatten).length=X' at hX' e
   generalize C.extract off (off+((List.replicate n k2).flatten).length)=C' at hX'
   rw[hln,show 0=0*k2.length from (Nat.zero_mul _).symm]at e
   clear hX hq e1 hu hln h1
   generalize 0=s at e ⊢
   induction n generalizing s r with
   | zero=>simp
   | succ n ih =>
    rw[List.replicate_succ,List.flatten_cons]at e
    obtain ⟨r1,r2,g1,g2,rfl⟩:=Xh2 _ _ _ _ r e
    rw[Z1F _ _ _ _ (by rw[Nat.add_mul];omega)]at g1
    rw[YxB,Nat.add_mul,Nat.one_mul,Nat.add_sub_cancel,show s*k2.length+k2.length=(s+1)*k2.length by rw[Nat.add_mul,Nat.one_mul]]at g2
    obtain ⟨a,_,p1,_,_⟩:=(Qmp d e' k2 hk2).2 k ρ X' X' C' C' _ r1 hX' hX' g1 w
    have p2:=JG2 d e' k2 hk2 k ρ X' C' _ r1 hX' g1 em w a p1
    rw[List.range'_succ]
    have hsz:(sizeOf e').run P w=.ok k2.length w:=by simp [sizeOf,typeInfo,hi,his]
    simp only[List.forIn_cons,Sem.run_bind,hsz,Result.andThen_ok,p1,p2,Sem.run_pure]
    exact ih _ (s+1) g2
  ·cases h1
theorem Y3D {ρ:Mp} {ag:Bool} {k:AV} {vk:Value} (h:VR ρ k vk) {l:List AV} (e:XHe ag k=some l):(ag=true/\∃C,vk=.agg C/\VL ρ l C)\/(ag=false/\l=[k]/\VL ρ [k] #[vk]):=by
 unfold XHe at e
 split at e
 ·split at e
  ·rename_i ha
   cases e
   obtain ⟨C,rfl,hC⟩:=zef h
   exact .inl ⟨ha,C,rfl,hC⟩
  ·cases e
 ·split at e
  ·cases e
  ·rename_i ha
   cases e
   exact .inr ⟨by simpa using ha,rfl,VL.one h⟩
structure KeyTy (P:Program) (kt:TypeId) (ag:Bool) (ks:List CK):Prop where
 ck:ckOf P 20 kt=some ks
 ag:(P.underlying kt).map isAg=some ag
theorem zcy {kt:TypeId} {ag:Bool} {ks:List CK} (K0:KeyTy P kt ag ks) {ρ:Mp} {k:AV} {vk:Value} (h:VR ρ k vk) {l:List AV} (e:XHe ag k=some l) (hl:l.length=ks.length):∃C,VL ρ l C/\∀w,(part kt C 0).run P w=.ok vk w:=by
 obtain ⟨dd,hdd,hag⟩:=Option.map_eq_some_iff.1 K0.ag
 rcases Y3D h e with ⟨rfl,C,rfl,hC⟩|⟨rfl,rfl,hC⟩
 ·refine ⟨C,hC,fun w=>?_⟩
  have q1:=QnA hdd hag (Qmp 20 kt ks K0.ck).1 C 0 w
  have hCs:C.extract 0 (0+ks.length)=C:=by rw[Nat.zero_add,<-hl,hC.1];simp
  rw[hCs]at q1
  exact q1
 ·exact ⟨_,hC,fun w=>Z19 hdd hag rfl w⟩
theorem Xqm {l:List AV} {n:Nat} (h:l.length=n):win l 0 n=l:=by simp [win,<-h]
theorem QKH {kt:TypeId} {ag:Bool} {ks:List CK} (K0:KeyTy P kt ag ks) {ρ:Mp} {x y:AV} {vx vy:Value} (hx:VR ρ x vx) (hy:VR ρ y vy) {r:Bool} (e:K8D ag ks x y=some r) (w:World):(Op.equal kt vx vy).run P w=.ok r w:=by
 obtain ⟨a,ha,e⟩:=oQ.1 e
 obtain ⟨b,hb,e⟩:=oQ.1 e
 have hl:=X90 _ _ _ _ e
 obtain ⟨C,hC,pC⟩:=zcy K0 hx ha hl.1
 obtain ⟨D,hD,pD⟩:=zcy K0 hy hb hl.2
 obtain ⟨u,v,p1,p2,p3⟩:=(Qmp 20 kt ks K0.ck).2 9980 ρ a b C D 0 r hC hD (by rw[Xqm hl.1,Xqm hl.2];exact e) w
 rw[pC w]at p1
 rw[pD w]at p2
 cases p1
 cases p2
 exact p3
theorem Jvx {kt:TypeId} {ag:Bool} {ks:List CK} (K0:KeyTy P kt ag ks) {ρ:Mp} {x:AV} {vx:Value} (hx:VR ρ x vx) {r:Bool} (e:K8D ag ks x x=some r) (em:Bool) (w:World):(Instr.checkKey em 10000 kt vx).run P w=.ok () w:=by
 obtain ⟨a,ha,e⟩:=oQ.1 e
 obtain ⟨b,hb,e⟩:=oQ.1 e
 rw[ha]at hb
 cases hb
 have hl:=X90 _ _ _ _ e
 obtain ⟨C,hC,pC⟩:=zcy K0 hx ha hl.1
 exact JG2 20 kt ks K0.ck 9980 ρ a C 0 r hC (by rw[Xqm hl.1];exact e) em w vx (pC w)
theorem J1q {ρ:Mp}:∀(ks:List CK) (xs ys:List AV) (cs ds:List Value),JTs ks xs ys=some true->VL ρ xs cs.toArray->VL ρ ys ds.toArray->cs=ds/\∀v∈cs,∀n,Instr.sameBits n v v=true
 | [],[],[],cs,ds,_,h1,h2=>by
  have a1:=h1.1;have a2:=h2.1
  simp at a1 a2
  have:cs=[]:=List.eq_nil_of_length_eq_zero a1.symm
  have:ds=[]:=List.eq_nil_of_length_eq_zero a2.symm
  subst_vars
  exact ⟨rfl,fun v hv=>by cases hv⟩
 | [],[],_::_,_,_,h,_,_=>by simp [JTs]at h
 | [],_::_,_,_,_,h,_,_=>by simp [JTs]at h
 | _::_,[],_,_,_,h,_,_=>by simp [JTs]at h
 | _::_,_::_,[],_,_,h,_,_=>by simp [JTs]at h
 | k::ks,x::xs,y::ys,cs,ds,h,h1,h2=>by
  simp only[JTs]at h
  obtain ⟨a,ha,h⟩:=oQ.1 h
  obtain ⟨b,hb,hab⟩:=Option.map_eq_some_iff.1 h
  obtain ⟨rfl,rfl⟩:=Bool.and_eq_true_iff.1 hab
  have a1:=h1.1;have a2:=h2.1
  simp at a1 a2
  match cs,ds,a1,a2 with
  | c::cs,d::ds,_,_ =>
   have t1:VL ρ xs cs.toArray:=⟨by have:=h1.1;simpa using this,fun j a c' q1 q2=>h1.2 (j+1) a c' (by simpa using q1) (by simpa using q2)⟩
   have t2:VL ρ ys ds.toArray:=⟨by have:=h2.1;simpa using this,fun j a c' q1 q2=>h2.2 (j+1) a c' (by simpa using q1) (by simpa using q2)⟩
   obtain ⟨rfl,hs⟩:=J1q ks xs ys cs ds hb t1 t2
   have v1:VR ρ x c:=h1.2 0 x c rfl rfl
   have v2:VR ρ y d:=h2.2 0 y d rfl rfl
   have hcd:c=d/\∀n,Instr.sameBits n c c=true:=by
    cases k with
    | b =>
     cases x <;> cases y <;> simp [QsB]at ha
     subst ha
     cases v1;cases v2
     exact ⟨rfl,fun n=>by cases n <;> simp [Instr.sameBits]⟩
    | i =>
     cases x <;> cases y <;> simp [QsB]at ha
     obtain ⟨rfl,rfl⟩:=ha
     cases v1;cases v2
     exact ⟨rfl,fun n=>by cases n <;> simp [Instr.sameBits]⟩
    | s =>
     cases x <;> cases y <;> simp [QsB]at ha
     subst ha
     cases v1 with
     | s _ b1 g1=>cases v2 with
      | s _ b2 g2 =>
       have:b1=b2:=by
        have:b1.data.toList=b2.data.toList:=g1.trans g2.symm
        cases b1;cases b2
        simp only at this
        rw[Array.toList_inj.1 this]
       subst this
       exact ⟨rfl,fun n=>by cases n <;> simp [Instr.sameBits,(MapKept.bytes_beq b1 b1).2 rfl]⟩
   obtain ⟨rfl,hc⟩:=hcd
   exact ⟨rfl,fun v hv n=>by
    rcases List.mem_cons.1 hv with rfl|hv
    ·exact hc n
    ·exact hs v hv n⟩
theorem XbZ {kt:TypeId} {ag:Bool} {ks:List CK} (K0:KeyTy P kt ag ks) {ρ:Mp} {x y:AV} {vx vy:Value} (hx:VR ρ x vx) (hy:VR ρ y vy) (e:K8D ag ks x y=some true) (w:World):vx=vy/\(Instr.keyThatStays vy vx).run P w=.ok vx w:=by
 obtain ⟨a,ha,e1⟩:=oQ.1 e
 obtain ⟨b,hb,e2⟩:=oQ.1 e1
 clear e e1
 have key:vx=vy/\Instr.sameBits 10000 vx vx=true:=by
  rcases Y3D hx ha with ⟨rfl,C,rfl,hC⟩|⟨rfl,rfl,hC⟩
  ·rcases Y3D hy hb with ⟨_,D,rfl,hD⟩|⟨q,_,_⟩
   ·obtain ⟨q1,q2⟩:=J1q ks a b C.toList D.toList e2 (by simpa using hC) (by simpa using hD)
    have:C=D:=Array.toList_inj.1 q1
    subst this
    refine ⟨rfl,?_⟩
    have hz:∀l:List Value,(∀v∈l,∀n,Instr.sameBits n v v=true)->((l.zip l).all fun (p:Value×Value)=>Instr.sameBits 9999 p.1 p.2)=true:=fun l=>by
     induction l with
     | nil=>intro _;rfl
     | cons v l ih =>
      intro hv
      simp only[List.zip_cons_cons,List.all_cons,Bool.and_eq_true]
      exact ⟨hv v (.head _) _,ih fun u hu=>hv u (.tail _ hu)⟩
    simp only[Instr.sameBits,beq_self_eq_true,Bool.true_and]
    exact hz C.toList q2
   ·cases q
  ·rcases Y3D hy hb with ⟨q,_⟩|⟨_,rfl,hD⟩
   ·cases q
   ·obtain ⟨q1,q2⟩:=J1q ks [x] [y] [vx] [vy] e2 hC hD
    cases q1
    exact ⟨rfl,q2 vx (.head _) _⟩
 obtain ⟨rfl,hs⟩:=key
 exact ⟨rfl,by simp [Instr.keyThatStays,hs]⟩
theorem Jok:∀(bs:List Nat) (cs:List Value),cs.length=2*bs.length->(zJU bs cs).length=bs.length
 | [],cs,h=>by
  have:cs=[]:=List.eq_nil_of_length_eq_zero (by simpa using h)
  subst this
  rfl
 | b::bs,cs,h=>by
  match cs,h with
  | k::v::cs,h =>
   have:=Jok bs cs (by simp at h;omega)
   simp [zJU,this]
  | [_],h=>simp at h;omega
  | [],h=>simp at h
theorem qQx:∀(bs:List Nat) (cs:List Value) (c:Nat) (k v:Value),cs.length=2*bs.length->zJU (bs++[c]) (cs++[k,v])=zJU bs cs++[⟨k,v,c⟩]
 | [],cs,c,k,v,h=>by
  have:cs=[]:=List.eq_nil_of_length_eq_zero (by simpa using h)
  subst this
  rfl
 | b::bs,cs,c,k,v,h=>by
  match cs,h with
  | k0::v0::cs,h =>
   have:=qQx bs cs c k v (by simp at h;omega)
   simp [zJU,this]
  | [_],h=>simp at h;omega
  | [],h=>simp at h
theorem Kdn:∀(bs:List Nat) (cs:List Value) (i:Nat) (v:Value),zJU bs (cs.set (2*i+1) v)=(zJU bs cs).modify i fun e=>{ e with val:=v }
 | [],cs,i,v=>by simp [zJU]
 | b::bs,[],i,v=>by simp [zJU]
 | b::bs,[k],i,v=>by
  cases i with
  | zero=>simp [zJU]
  | succ i=>rw[show 2*(i+1)+1=2*i+1+1+1 by omega];simp [zJU]
 | b::bs,k::v0::cs,0,v=>by simp [zJU]
 | b::bs,k::v0::cs,i+1,v=>by
  have:=Kdn bs cs i v
  rw[show 2*(i+1)+1=2*i+1+1+1 by omega]
  simp [zJU,this]
theorem zB0:∀(bs:List Nat) (cs:List Value) (i:Nat),cs.length=2*bs.length->zJU (bs.eraseIdx i) (cs.take (2*i)++cs.drop (2*i+2))=(zJU bs cs).eraseIdx i
 | [],cs,i,h=>by simp [zJU]
 | b::bs,[],i,h=>by simp at h
 | b::bs,[k],i,h=>by simp at h;omega
 | b::bs,k::v0::cs,0,h=>by simp [zJU]
 | b::bs,k::v0::cs,i+1,h=>by
  have:=zB0 bs cs i (by simp at h;omega)
  rw[show 2*(i+1)=2*i+1+1 by omega,show 2*i+1+1+2=2*i+2+1+1 by omega]
  simp [zJU,this]
theorem VL.two {ρ:Mp} {a b:AV} {l:List AV} {cs:List Value} (h:VL ρ (a::b::l) cs.toArray):∃c d cs',cs=c::d::cs'/\VR ρ a c/\VR ρ b d/\VL ρ l cs'.toArray:=by
 have a1:=h.1
 simp at a1
 match cs,a1 with
 | c::d::cs,_ =>
  exact ⟨c,d,cs,rfl,h.2 0 a c rfl rfl,h.2 1 b d rfl rfl,⟨by have:=h.1;simpa using this,fun j x c' q1 q2=>h.2 (j+2) x c' (by simpa using q1) (by simpa using q2)⟩⟩
theorem Zmq {kt:TypeId} {ag:Bool} {ks:List CK} (K0:KeyTy P kt ag ks) {ρ:Mp} {k:AV} {vk:Value} (hk:VR ρ k vk) (w:World):∀(bs:List Nat) (kv:List AV) (cs:List Value) (i:Nat) (r:Option (Nat×AV)),kv.length=2*bs.length->VL ρ kv cs.toArray->Kq6 ag ks k kv i=some r ->
  ∃r',(Instr.findAsking kt vk (zJU bs cs) i).run P w=.ok r' w/\match r with
   | none=>r'=none
   | some (j,v)=>∃v' q key,r'=some (j,v')/\j=i+q/\q<bs.length/\VR ρ v v'/\(zJU bs cs)[q]?=some key/\key.val=v'/\vk=key.key/\(Instr.keyThatStays key.key vk).run P w=.ok vk w
 | [],kv,cs,i,r,hl,hv,e=>by
  have:kv=[]:=List.eq_nil_of_length_eq_zero (by simpa using hl)
  subst this
  cases e
  exact ⟨none,by simp [zJU,Instr.findAsking],rfl⟩
 | b::bs,[],cs,i,r,hl,hv,e=>by simp at hl
 | b::bs,[_],cs,i,r,hl,hv,e=>by simp at hl;omega
 | b::bs,key::v::kv,cs,i,r,hl,hv,e=>by
  obtain ⟨ck,cv,cs,rfl,v1,v2,v3⟩:=hv.two
  simp only[Kq6]at e
  obtain ⟨t,ht,e⟩:=oQ.1 e
  have hr:=QKH K0 hk v1 ht w
  cases t with
  | true =>
   rw[if_pos rfl]at e
   cases e
   obtain ⟨q1,q2⟩:=XbZ K0 hk v1 ht w
   refine ⟨some (i,cv),by simp [zJU,Instr.findAsking,hr],cv,0,⟨ck,cv,b⟩,rfl,rfl,by simp,v2,by simp [zJU],rfl,q1,q2⟩
  | false =>
   rw[if_neg (by decide)]at e
   obtain ⟨r',g1,g2⟩:=Zmq K0 hk w bs kv cs (i+1) r (by simp at hl;omega) v3 e
   refine ⟨r',by simp [zJU,Instr.findAsking,hr,g1],?_⟩
   cases r with
   | none=>exact g2
   | some p =>
    obtain ⟨j,u⟩:=p
    obtain ⟨v',q,key',h1,h2,h3,h4,h5,h6⟩:=g2
    exact ⟨v',q+1,key',h1,by omega,by simp;omega,h4,by simpa [zJU] using h5,h6⟩
theorem Kmm {kt:TypeId} {kind:TypeDesc} (hu:P.underlying kt=some kind) {x y:Value} {b:Bool} (e:Instr.sameNow kind x y=some b) (w:World):(Op.equal kt x y).run P w=.ok b w:=by
 unfold Instr.sameNow at e
 split at e
 ·rename_i q k a k' a'
  split at e
  ·rename_i hk
   cases e
   subst hk
   exact run_equalIn_int w 9999 kt k q a a' hu
  ·cases e
 ·cases e
  rename_i a a'
  have hb:(a.toList == a'.toList)=(a == a'):=by
   rw[Bool.eq_iff_iff,beq_iff_eq,MapKept.bytes_beq]
   refine ⟨fun h=>?_,fun h=>by rw[h]⟩
   rw[zfI,zfI]at h
   cases a;cases a'
   simp only at h
   rw[Array.toList_inj.1 h]
  rw[<-hb]
  exact run_equalIn_string w 9999 kt a a' hu
 ·cases e
  rename_i a a'
  exact run_equalIn_bool' w 9999 kt a a' hu
 ·cases e
theorem ZnY {kt:TypeId} {kind:TypeDesc} (hu:P.underlying kt=some kind) (x:Value) (w:World):∀(es:List MapEntry) (i:Nat) (r:Option (Nat×Value)),Instr.findNow kind x es i=some r->(Instr.findAsking kt x es i).run P w=.ok r w
 | [],i,r,e=>by cases e;simp [Instr.findAsking]
 | y::es,i,r,e=>by
  simp only[Instr.findNow]at e
  split at e
  ·rename_i hs
   cases e
   simp [Instr.findAsking,Kmm hu hs w]
  ·rename_i hs
   have:=ZnY hu x w es (i+1) r e
   simp [Instr.findAsking,Kmm hu hs w,this]
  ·cases e
theorem Qru {kt:TypeId} {kind:TypeDesc} (hu:P.underlying kt=some kind) {x:Value} {w:World} {es:List MapEntry} {r:Option (Nat×Value)} (h:(Instr.findAsking kt x es).run P w=.ok r w):(Instr.findKey kt x es).run P w=.ok r w:=by
 simp only[Instr.findKey,Sem.run_bind,run_underlying hu,Result.andThen_ok]
 cases hf:Instr.findNow kind x es 0 with
 | none=>exact h
 | some r' =>
  have:=ZnY hu x w es 0 r' hf
  rw[h]at this
  cases this
  rfl
theorem KeyTy.und {kt:TypeId} {ag:Bool} {ks:List CK} (K0:KeyTy P kt ag ks):∃d,P.underlying kt=some d:=by
 obtain ⟨dd,hdd,_⟩:=Option.map_eq_some_iff.1 K0.ag
 exact ⟨dd,hdd⟩
theorem J9T {B:Option AB} {bs:List Nat} {c:Nat} {kv:List AV} (e:mapB B=some (bs,c,kv)):∃m,B=some (.mo m (.map bs c) kv)/\kv.length=2*bs.length:=by
 unfold mapB at e
 split at e
 ·split at e
  ·cases e
   exact ⟨_,rfl,by assumption⟩
  ·cases e
 ·cases e
theorem JDj {B:Option AB} {bs:List Nat} {c:Nat} {kv:List AV} (e:mapW B=some (bs,c,kv)):B=some (.mo true (.map bs c) kv)/\kv.length=2*bs.length:=by
 unfold mapW at e
 split at e
 ·split at e
  ·cases e
   exact ⟨rfl,by assumption⟩
  ·cases e
 ·cases e
theorem qcz {ρ:Mp} {h:List AB} {w:World} (hr:Rel K ρ h w) {id:Nat} {m:Bool} {bs:List Nat} {c:Nat} {kv:List AV} (hi:h[id]?=some (.mo m (.map bs c) kv)) {b o n:Nat} (hρ:ρ[id]?=some (b,o,n)) :
  ∃cs:List Value,w.heap[b]?=some (.map (zJU bs cs).toArray c)/\VL ρ kv cs.toArray:=by
 obtain ⟨_,cs,h1,h2⟩:=hr.blk id _ b o n hi hρ
 exact ⟨cs.toList,h1,by simpa using h2⟩
theorem J2N {ρ:Mp} {h:List AB} {w:World} (hr:Rel K ρ h w) (t kt et:TypeId) (ht:P.underlying t=some (.map kt et)) {ag:Bool} {ks:List CK} (K0:KeyTy P kt ag ks) {i:TypeInfo} (hi:P.info? et=some i) {z:Value} (hz:i.zero=some z) {za:AV} (hza:VR ρ za z) (ok:Bool)
    {x k:AV} {vx vk:Value} (hx:VR ρ x vx) (hk:VR ρ k vk) {v:AV} (e:lkV h ag ks ok za x k=some v):Good K P ρ h w (Instr.lookup t vx vk ok) (v,h):=by
  unfold lkV at e
  obtain ⟨r0,hkk,e⟩:=oQ.1 e
  obtain ⟨⟨bs,c,kv⟩,hm,e⟩:=oQ.1 e
  obtain ⟨r,hf,rfl⟩:=Option.map_eq_some_iff.1 e
  obtain ⟨kd,hkd⟩:=K0.und
  have hzero:(zeroValue et).run P w=.ok z w:=by simp [zeroValue,typeInfo,hi,hz]
  have hchk:=fun em=>Jvx K0 hk hkk em w
  have two:∀(a:AV) (u:Value) (t:Bool),VR ρ a u->VR ρ (if ok then .tu [a,.b t] else a) (if ok then .tuple #[u,.bool t] else u):=fun a u t q=>by
    cases ok
    · exact q
    · simp only[if_true]
      have:=VL.cons q (VL.one (VR.b (ρ:=ρ) t))
      exact .tu _ _ this.1 this.2
  have core : ∀ (cs : List Value), kv.length = 2 * bs.length → VL ρ kv cs.toArray → ∃ u, ((do
        let (v,o)<-match<-Instr.findKey kt vk (zJU bs cs) with
          | some (_,v)=>pure (v,true)
          | none=>pure (<-zeroValue et,false)
        pure (if ok then .tuple #[v,.bool o] else v):Sem Value)).run P w=.ok u w/\VR ρ (lkR ok za r) u:=fun cs hl hv=>by
    obtain ⟨r',g1,g2⟩:=Zmq K0 hk w bs kv cs 0 r hl hv hf
    have g3:=Qru hkd g1
    cases r with
    | none =>
      subst g2
      exact ⟨_,by simp only[Sem.run_bind,g3,Result.andThen_ok,hzero,Sem.run_pure],two za z false hza⟩
    | some p =>
      obtain ⟨j,a⟩:=p
      obtain ⟨v',q,key,rfl,_,_,hva,_⟩:=g2
      exact ⟨_,by simp only[Sem.run_bind,g3,Result.andThen_ok,Sem.run_pure],two a v' true hva⟩
  unfold Jeg at hm
  split at hm
  · obtain ⟨m,hB,hl⟩:=J9T hm
    cases hx with
    | m _ b o n hρ =>
      obtain ⟨cs,hw,hv⟩:=qcz hr hB hρ
      obtain ⟨u,hu,hvr⟩:=core cs hl hv
      refine ⟨u,w,ρ,?_,Ext.refl _,hr,hvr,Eff.refl _ _ _⟩
      rw[<-hu]
      simp only[Instr.lookup,Sem.run_bind,run_underlying ht,Result.andThen_ok,MapKept.run_getObj_map hw,hchk,Sem.run_pure]
      rfl
  · cases hm
    cases hx
    obtain ⟨u,hu,hvr⟩:=core [] rfl (VL.nil ρ)
    refine ⟨u,w,ρ,?_,Ext.refl _,hr,hvr,Eff.refl _ _ _⟩
    rw[<-hu]
    simp only[Instr.lookup,Sem.run_bind,run_underlying ht,Result.andThen_ok,hchk,Sem.run_pure]
    rfl
  · cases hm
theorem JJK {ρ:Mp} {h:List AB} {w:World} (hr:Rel K ρ h w) {id:Nat} {bs:List Nat} {c:Nat} {kv:List AV} (hi:h[id]?=some (.mo true (.map bs c) kv)) {b o n:Nat} (hρ:ρ[id]?=some (b,o,n)) {bs':List Nat} {c':Nat} {kv':List AV} {cs':List Value} (hv:VL ρ kv' cs'.toArray) :
  ∃w',w' = { w with heap:=w.heap.setIfInBounds b (.map (zJU bs' cs').toArray c') }/\Rel K ρ (h.set id (.mo true (.map bs' c') kv')) w'/\Eff ρ h w ρ (h.set id (.mo true (.map bs' c') kv')) w':=by
 obtain ⟨h0,cs,hw,hv0⟩:=hr.blk id _ b o n hi hρ
 have hb:b<w.heap.size:=(Array.getElem?_eq_some_iff.1 hw).1
 refine ⟨_,rfl,hr.put hi rfl hρ ⟨h0,cs'.toArray,?_,by simpa using hv⟩ rfl rfl ⟨rfl,Nat.le_refl _⟩ (by simp) (fun k hk=>?_) (fun _=>rfl)⟩
 ·rw[Array.getElem?_setIfInBounds_self_of_lt hb]
  rfl
 ·rw[Array.getElem?_setIfInBounds_ne (Ne.symm hk)]
theorem Y1o {ρ:Mp} {h:List AB} {w:World} (hr:Rel K ρ h w) (t kt et:TypeId) (ht:P.underlying t=some (.map kt et)) {ag:Bool} {ks:List CK} (K0:KeyTy P kt ag ks)
  {x k a:AV} {vx vk va:Value} (hx:VR ρ x vx) (hk:VR ρ k vk) (ha:VR ρ a va) {h':List AB} (e:muV h ag ks x k a=some h'):∃w',(Instr.mapUpdate t vx vk va).run P w=.ok () w'/\Rel K ρ h' w'/\Eff ρ h w ρ h' w':=by
 unfold muV at e
 split at e
 ·obtain ⟨r0,hkk,e⟩:=oQ.1 e
  obtain ⟨⟨bs,c,kv⟩,hm,e⟩:=oQ.1 e
  obtain ⟨r,hf,rfl⟩:=Option.map_eq_some_iff.1 e
  obtain ⟨hB,hl⟩:=JDj hm
  obtain ⟨kd,hkd⟩:=K0.und
  have hchk:=fun em=>Jvx K0 hk hkk em w
  dsimp only at hf ⊢
  cases hx with
  | m _ b o n hρ =>
   obtain ⟨cs,hw,hv⟩:=qcz hr hB hρ
   obtain ⟨r',g1,g2⟩:=Zmq K0 hk w bs kv cs 0 r hl hv hf
   have g3:=Qru hkd g1
   have hcl:cs.length=2*bs.length:=by have:=hv.1;simp at this;omega
   cases r with
   | none =>
    subst g2
    have hv':VL ρ (kv++[k,a]) (cs++[vk,va]).toArray:=by
     have:=VL.append hv (VL.cons hk (VL.one ha))
     simpa using this
    obtain ⟨w',hw',q1,q2⟩:=JJK hr hB hρ (bs':=bs++[c]) (c':=c+1) hv'
    refine ⟨w',?_,q1,q2⟩
    rw[qQx bs cs c vk va hcl]at hw'
    have:((zJU bs cs).toArray.push { key:=vk,val:=va,born:=c })=(zJU bs cs++([⟨vk,va,c⟩]:List MapEntry)).toArray:=by simp
    simp [Instr.mapUpdate,run_underlying ht,MapKept.run_getObj_map hw,hchk,g3,MapKept.run_setObj_map _ hw,this,hw']
   | some p =>
    obtain ⟨j,u⟩:=p
    obtain ⟨v',q,key,rfl,hj,hq,hvv,hkey,hkv,hks,hst⟩:=g2
    rw[Nat.zero_add]at hj
    subst hj
    have hv':VL ρ (kv.set (2*j+1) a) (cs.set (2*j+1) va).toArray:=by
     have:=hv.set (2*j+1) ha
     simpa using this
    obtain ⟨w',hw',q1,q2⟩:=JJK hr hB hρ (bs':=bs) (c':=c) hv'
    refine ⟨w',?_,q1,q2⟩
    rw[Kdn]at hw'
    have:((zJU bs cs).modify j fun e=>({ e with key:=vk,val:=va }:MapEntry))=((zJU bs cs).modify j fun e=>{ e with val:=va }):=by
     refine List.ext_getElem? fun i=>?_
     rw[List.getElem?_modify,List.getElem?_modify]
     by_cases hi:j=i
     ·subst hi
      simp [hkey,hks]
     ·simp [hi]
    simp [Instr.mapUpdate,run_underlying ht,MapKept.run_getObj_map hw,hchk,g3,hkey,hst,MapKept.run_setObj_map _ hw,this,hw']
 ·cases e
theorem JAQ {ρ:Mp} {h:List AB} {w:World} (hr:Rel K ρ h w) (t kt et t2 ty:TypeId) (ht:P.underlying t=some (.map kt et)) {ag:Bool} {ks:List CK} (K0:KeyTy P kt ag ks)
  {x k:AV} {vx vk:Value} (hx:VR ρ x vx) (hk:VR ρ k vk) {h':List AB} (e:mdV h ag ks x k=some h'):Good K P ρ h w (Builtin.delete_ #[t,t2] ty #[vx,vk]) (.tu [],h'):=by
 unfold mdV at e
 split at e
 ·obtain ⟨r0,hkk,e⟩:=oQ.1 e
  obtain ⟨⟨bs,c,kv⟩,hm,e⟩:=oQ.1 e
  obtain ⟨r,hf,rfl⟩:=Option.map_eq_some_iff.1 e
  obtain ⟨hB,hl⟩:=JDj hm
  obtain ⟨kd,hkd⟩:=K0.und
  have hchk:=fun em=>Jvx K0 hk hkk em w
  dsimp only at hf ⊢
  cases hx with
  | m _ b o n hρ =>
   obtain ⟨cs,hw,hv⟩:=qcz hr hB hρ
   obtain ⟨r',g1,g2⟩:=Zmq K0 hk w bs kv cs 0 r hl hv hf
   have g3:=Qru hkd g1
   have hcl:cs.length=2*bs.length:=by have:=hv.1;simp at this;omega
   have unit:VR ρ (.tu []) (.tuple #[]):=.tu [] #[] rfl (fun j a c h=>by simp at h)
   cases r with
   | none =>
    subst g2
    obtain ⟨w',hw',q1,q2⟩:=JJK hr hB hρ (bs':=bs) (c':=c) hv
    refine ⟨.tuple #[],w',ρ,?_,Ext.refl _,q1,unit,q2⟩
    simp [Builtin.delete_,run_underlying ht,MapKept.run_getObj_map hw,hchk,g3,MapKept.run_setObj_map _ hw,hw']
   | some p =>
    obtain ⟨j,u⟩:=p
    obtain ⟨v',q,key,rfl,hj,hq,hvv,hkey,hkv,hks,hst⟩:=g2
    rw[Nat.zero_add]at hj
    subst hj
    have hv':VL ρ (kv.take (2*j)++kv.drop (2*j+2)) (cs.take (2*j)++cs.drop (2*j+2)).toArray:=by
     refine ⟨by have:=hv.1;simp at this ⊢;omega,fun i x cx h1 h2=>?_⟩
     have hkl:(kv.take (2*j)).length=2*j:=by rw[List.length_take];omega
     have hcl':(cs.take (2*j)).length=2*j:=by rw[List.length_take];omega
     rw[List.getElem?_toArray]at h2
     by_cases hi:i<2*j
     ·rw[List.getElem?_append_left (by omega),List.getElem?_take,if_pos hi]at h1
      rw[List.getElem?_append_left (by omega),List.getElem?_take,if_pos hi]at h2
      exact hv.2 i x cx h1 (by simpa using h2)
     ·rw[List.getElem?_append_right (by omega),hkl,List.getElem?_drop]at h1
      rw[List.getElem?_append_right (by omega),hcl',List.getElem?_drop]at h2
      exact hv.2 _ x cx h1 (by simpa using h2)
    obtain ⟨w',hw',q1,q2⟩:=JJK hr hB hρ (bs':=bs.eraseIdx j) (c':=c) hv'
    refine ⟨.tuple #[],w',ρ,?_,Ext.refl _,q1,unit,q2⟩
    rw[zB0 bs cs j hcl]at hw'
    have:((zJU bs cs).toArray.eraseIdxIfInBounds j)=((zJU bs cs).eraseIdx j).toArray:=by
     apply Array.toList_inj.1
     simp
    simp [Builtin.delete_,run_underlying ht,MapKept.run_getObj_map hw,hchk,g3,MapKept.run_setObj_map _ hw,this,hw']
 ·cases e
theorem qOL {ρ:Mp} {h:List AB} {w:World} (hr:Rel K ρ h w) (t kt et ty:TypeId) (ht:P.underlying t=some (.map kt et)) {x:AV} {vx:Value} (hx:VR ρ x vx) {p:List Nat×Nat×List AV} (e:Jeg h x=some p) :
  Good K P ρ h w (Builtin.len_ #[t] ty #[vx]) (.i .i64 p.1.length,h):=by
 unfold Jeg at e
 obtain ⟨bs,c,kv⟩:=p
 split at e
 ·obtain ⟨m,hB,hl⟩:=J9T e
  cases hx with
  | m _ b o n hρ =>
   obtain ⟨cs,hw,hv⟩:=qcz hr hB hρ
   have hcl:cs.length=2*bs.length:=by have:=hv.1;simp at this;omega
   refine ⟨.int .i64 bs.length,w,ρ,?_,Ext.refl _,hr,.i _ _,Eff.refl _ _ _⟩
   simp [Builtin.len_,run_underlying ht,MapKept.run_getObj_map hw,Jok bs cs hcl,goInt]
 ·cases e
  cases hx
  refine ⟨.int .i64 0,w,ρ,?_,Ext.refl _,hr,.i _ _,Eff.refl _ _ _⟩
  simp [Builtin.len_,run_underlying ht,goInt]
 ·cases e
theorem q1f {ρ:Mp} {h:List AB} {w:World} (hr:Rel K ρ h w) (t:TypeId):Good K P ρ h w (Instr.makeMap t none) (.m h.length,h++[.mo true (.map [] 0) []]):=by
 have hnew:=hr.new (.map #[] 0) (.mo true (.map [] 0) []) 0 ⟨rfl,#[],heap_alloc_new w _,VL.nil _⟩
 refine ⟨.map (some w.heap.size),w.alloc (.map #[] 0),_,?_,Ext.push _ _,hnew.1,.m _ _ _ _ (Zt4 ρ h _ hr.len),hnew.2⟩
 simp [Instr.makeMap]
theorem YOX {ρ:Mp} {h:List AB} {w:World} (hr:Rel K ρ h w) (t kt et:TypeId) (ht:P.underlying t=some (.map kt et)) {x:AV} {vx:Value} (hx:VR ρ x vx) {r:AV×List AB}
  (e:rgV h x=some r):Good K P ρ h w (Instr.range t vx) r:=by
 cases hx with
 | m id b o n hρ =>
  obtain ⟨⟨bs,c,kv⟩,hm,rfl⟩:=Option.map_eq_some_iff.1 e
  obtain ⟨m,hB,hl⟩:=J9T hm
  obtain ⟨cs,hw,hv⟩:=qcz hr hB hρ
  have hnew:=hr.new (.mapIter (some b) c #[] c) (.mo true (.it c [] c) [.m id]) 0 ⟨rfl,#[.map (some b)],heap_alloc_new w _,VL.one (.m id b o n (Ext.push ρ _ _ _ hρ))⟩
  refine ⟨.pointer (some ⟨w.heap.size,0,none⟩),w.alloc (.mapIter (some b) c #[] c),_,?_,Ext.push _ _,hnew.1,.p _ 0 _ 0 0 (Zt4 ρ h _ hr.len),hnew.2⟩
  simp [Instr.range,run_underlying ht,MapKept.run_getObj_map hw]
 | nm =>
  cases e
  have hnew:=hr.new (.mapIter none 0 #[] 0) (.mo true (.it 0 [] 0) [.nm]) 0 ⟨rfl,#[.map none],heap_alloc_new w _,VL.one .nm⟩
  refine ⟨.pointer (some ⟨w.heap.size,0,none⟩),w.alloc (.mapIter none 0 #[] 0),_,?_,Ext.push _ _,hnew.1,.p _ 0 _ 0 0 (Zt4 ρ h _ hr.len),hnew.2⟩
  simp [Instr.range,run_underlying ht]
 | _=>cases e
theorem KAo {ρ:Mp} (src dst:TypeId) {k0:IntKind} (hs:P.underlying src=some (.int k0)) (hd:P.underlying dst=some .string) {k:IntKind} {n:Int} {vx:Value} (hx:VR ρ (.i k n) vx) (h1:0<=n/\n<128):Ans P ρ (convert src dst vx) (.s [UInt8.ofNat n.toNat]):=by
 cases hx
 refine Ans.mk (v:=.string (Utf8.encode n)) (fun w=>?_) (.s _ _ ?_)
 ·simp [convert,run_underlying hs,run_underlying hd,Conv.intToString]
 ·unfold Utf8.encode
  have hv:Utf8.valid n=true:=by unfold Utf8.valid;simp;omega
  rw[hv]
  simp only[if_true]
  rw[if_pos (by omega)]
def F2 {α β:Type} (R:α->β->Prop):List α->List β->Prop
 | [],[]=>True
 | a::l,b::m=>R a b/\F2 R l m
 | _,_=>False
theorem F2.filter {α β:Type} {R:α->β->Prop} {p:α->Bool} {q:β->Bool} (hpq:∀a b,R a b->p a=q b):∀ {l:List α} {m:List β},F2 R l m->F2 R (l.filter p) (m.filter q)
 | [],[],_=>trivial
 | a::l,b::m,h=>by
  have e:=hpq a b h.1
  have ih:=F2.filter hpq h.2
  simp only[List.filter_cons,<-e]
  cases p a
  ·exact ih
  ·exact ⟨h.1,ih⟩
theorem F2.find {α β:Type} {R:α->β->Prop} {p:α->Bool} {q:β->Bool} (hpq:∀a b,R a b->p a=q b):∀ {l:List α} {m:List β},F2 R l m->∀ {a:α},l.find? p=some a->∃b,m.find? q=some b/\R a b
 | [],[],_,a,e=>by cases e
 | x::l,y::m,h,a,e=>by
  have e1:=hpq x y h.1
  simp only[List.find?_cons,<-e1]at e ⊢
  cases hp:p x with
  | true =>
   rw[hp]at e
   cases e
   exact ⟨y,rfl,h.1⟩
  | false =>
   rw[hp]at e
   exact F2.find hpq h.2 e
theorem F2.mem {α β:Type} {R:α->β->Prop}:∀ {l:List α} {m:List β},F2 R l m->∀ {b:β},b∈m->∃a∈l,R a b
 | [],[],_,b,hb=>by cases hb
 | x::l,y::m,h,b,hb=>by
  rcases List.mem_cons.1 hb with rfl|hb
  ·exact ⟨x,.head _,h.1⟩
  ·obtain ⟨a,q1,q2⟩:=F2.mem h.2 hb
   exact ⟨a,.tail _ q1,q2⟩
theorem F2.nil_iff {α β:Type} {R:α->β->Prop}:∀ {l:List α} {m:List β},F2 R l m->(m=[]->l=[])
 | [],[],_,_=>rfl
 | _::_,_::_,_,e=>by cases e
def ER (ρ:Mp) (e:Nat×AV×AV) (e':MapEntry):Prop:=e.1=e'.born/\VR ρ e.2.1 e'.key/\VR ρ e.2.2 e'.val
theorem K8t {ρ:Mp}:∀(bs:List Nat) (kv:List AV) (cs:List Value),kv.length=2*bs.length->VL ρ kv cs.toArray->F2 (ER ρ) (Qmg bs kv) (zJU bs cs)
 | [],kv,cs,hl,hv=>by
  have:kv=[]:=List.eq_nil_of_length_eq_zero (by simpa using hl)
  subst this
  trivial
 | b::bs,[],cs,hl,hv=>by simp at hl
 | b::bs,[_],cs,hl,hv=>by simp at hl;omega
 | b::bs,k::v::kv,cs,hl,hv=>by
  obtain ⟨ck,cv,cs,rfl,v1,v2,v3⟩:=hv.two
  exact ⟨⟨rfl,v1,v2⟩,K8t bs kv cs (by simp at hl;omega) v3⟩
theorem zSa:∀(bs:List Nat) (cs:List Value) (e:MapEntry),e∈zJU bs cs->e.born∈bs
 | b::bs,k::v::cs,e,h=>by
  rcases List.mem_cons.1 h with rfl|h
  ·exact .head _
  ·exact .tail _ (zSa bs cs e h)
 | [],_,e,h=>by simp [zJU]at h
 | _::_,[],e,h=>by simp [zJU]at h
 | _::_,[_],e,h=>by simp [zJU]at h
theorem Q9O {ρ:Mp} {h:List AB} {w:World} (hr:Rel K ρ h w) (ty:TypeId) {x:AV} {vx:Value} (hx:VR ρ x vx) {cands:List (AV×List AB)} (e:mnxC h x=some cands):∃r∈cands,Good K P ρ h w (Instr.next vx false ty) r:=by
 unfold mnxC at e
 split at e
 ·rename_i id
  have t1:∀ {ρ:Mp} {a b:AV} {ca cb:Value},VR ρ a ca->VR ρ b cb->VR ρ (.tu [.b true,a,b]) (.tuple #[.bool true,ca,cb]):=fun {ρ a b ca cb} q1 q2=>by
   have:=VL.cons (VR.b (ρ:=ρ) true) (VL.cons q1 (VL.one q2))
   exact .tu _ _ this.1 this.2
  have t0:∀ {ρ:Mp},VR ρ (.tu [.b false]) (.tuple #[.bool false]):=fun {ρ}=>by
   have:=VL.one (VR.b (ρ:=ρ) false)
   exact .tu _ _ this.1 this.2
  cases hx with
  | p _ _ b o n hρ =>
   split at e
   ·rename_i s seen last hi
    cases e
    obtain ⟨rfl,cs,hw,hv⟩:=hr.blk id _ b o n hi hρ
    obtain ⟨c,hc,hvc⟩:=hv.get (j:=0) rfl
    cases hvc
    have hcs:cs.toList=[.map none]:=by
     have:=hv.1
     obtain ⟨l⟩:=cs
     match l,this with
     | [u],_=>simp at hc;subst hc;rfl
    rw[hcs]at hw
    refine ⟨_,.head _,.tuple #[.bool false],w,ρ,?_,Ext.refl _,hr,t0,Eff.refl _ _ _⟩
    simp [Instr.next,getObj,Sem.run,show w.heap[b]?=some (.mapIter none s seen.toArray last) from hw]
   ·rename_i s seen last mid hi
    obtain ⟨⟨bs,c,kv⟩,hm,e⟩:=oQ.1 e
    obtain ⟨m,hB,hl⟩:=J9T hm
    dsimp only at e
    split at e
    ·rename_i hcond
     cases e
     obtain ⟨rfl,cs,hw,hv⟩:=hr.blk id _ b o n hi hρ
     obtain ⟨u,hu,hvu⟩:=hv.get (j:=0) rfl
     cases hvu with
     | m _ mb mo mn hmρ =>
      have hcs:cs.toList=[.map (some mb)]:=by
       have:=hv.1
       obtain ⟨l⟩:=cs
       match l,this with
       | [u],_=>simp at hu;subst hu;rfl
      rw[hcs]at hw
      have hw':w.heap[b]?=some (.mapIter (some mb) s seen.toArray last):=hw
      obtain ⟨cs2,hmw,hmv⟩:=qcz hr hB hmρ
      have hF:=K8t bs kv cs2 hl hmv
      have hL:F2 (ER ρ) (Z1R seen (Qmg bs kv)) (leftOf (zJU bs cs2).toArray seen.toArray).toList:=by
       unfold Z1R leftOf
       simp only[List.filter_toArray]
       refine F2.filter (fun a b hab=>?_) hF
       rw[hab.1]
       simp
      have hnx:=run_next_at (P:=P) w ty b mb s last seen.toArray (zJU bs cs2).toArray c hw' hmw (fun x hx=>by
       have:=zSa bs cs2 x (by simpa using hx)
       simpa using List.all_eq_true.1 hcond.1 _ this) hcond.2
      rcases hnx with ⟨h0,hrun⟩|⟨en,hen,w1,hw1,hrun⟩
      ·have hnil:Z1R seen (Qmg bs kv)=[]:=hL.nil_iff (by
        apply List.eq_nil_of_length_eq_zero
        simpa using h0)
       rw[hnil]
       exact ⟨_,.head _,.tuple #[.bool false],w,ρ,hrun,Ext.refl _,hr,t0,Eff.refl _ _ _⟩
      ·obtain ⟨a,ha,hae⟩:=hL.mem hen
       have hr1:Rel K ρ h w1/\Eff ρ h w ρ h w1:=by
        rcases hw1 with rfl|rfl
        ·exact ⟨hr,Eff.refl _ _ _⟩
        ·exact ⟨hr.drew,Eff.drew _ _ _⟩
       have hw1':w1.heap[b]?=some (.mapIter (some mb) s seen.toArray last):=by rcases hw1 with rfl|rfl <;> exact hw'
       have hlt:b<w1.heap.size:=(Array.getElem?_eq_some_iff.1 hw1').1
       have hput:=hr1.1.put (w':=ChangeMaps.setBlock w1 b (.mapIter (some mb) s (seen.toArray.push en.born) c)) (B':=.mo true (.it s (seen++[a.1]) c) [.m mid]) hi rfl hρ
        ⟨rfl,#[.map (some mb)],by
         simp only[ChangeMaps.setBlock]
         rw[Array.getElem?_setIfInBounds_self_of_lt hlt,hae.1]
         simp [MKd.obj],VL.one (.m mid mb mo mn hmρ)⟩ rfl rfl ⟨rfl,Nat.le_refl _⟩ (by simp [ChangeMaps.setBlock]) (fun k hk=>by
         simp only[ChangeMaps.setBlock]
         rw[Array.getElem?_setIfInBounds_ne (Ne.symm hk)]) (fun _=>rfl)
       refine ⟨(.tu [.b true,a.2.1,a.2.2],h.set id (.mo true (.it s (seen++[a.1]) c) [.m mid])),?_,.tuple #[.bool true,en.key,en.val],_,ρ,hrun,Ext.refl _,hput.1,t1 hae.2.1 hae.2.2,hr1.2.trans hput.2⟩
       unfold z4i
       split
       ·rename_i hq
        rw[hq]at ha
        cases ha
       ·exact List.mem_map.2 ⟨a,ha,rfl⟩
    ·cases e
   ·cases e
 ·cases e
theorem KuG {ρ:Mp} {h:List AB} {w:World} (hr:Rel K ρ h w) {x:AV} {vx:Value} (hx:VR ρ x vx) {v:AV} (e:entV h x=some v):Good K P ρ h w (Instr.entry vx) (v,h):=by
 unfold entV at e
 split at e
 ·rename_i id
  cases hx with
  | p _ _ b o n hρ =>
   split at e
   ·rename_i m0 s seen last mid hi
    obtain ⟨⟨bs,c,kv⟩,hm,e1⟩:=oQ.1 e
    clear e
    obtain ⟨m,hB,hl⟩:=J9T hm
    dsimp only at e1
    split at e1
    ·rename_i hcl
     subst hcl
     obtain ⟨st,hst,e2⟩:=oQ.1 e1
     clear e1
     obtain ⟨a,ha,rfl⟩:=Option.map_eq_some_iff.1 e2
     obtain ⟨rfl,cs,hw,hv⟩:=hr.blk id _ b o n hi hρ
     obtain ⟨u,hu,hvu⟩:=hv.get (j:=0) rfl
     cases hvu with
     | m _ mb mo mn hmρ =>
      have hcs:cs.toList=[.map (some mb)]:=by
       have:=hv.1
       obtain ⟨l⟩:=cs
       match l,this with
       | [u],_=>simp at hu;subst hu;rfl
      rw[hcs]at hw
      have hw':w.heap[b]?=some (.mapIter (some mb) s seen.toArray c):=hw
      obtain ⟨cs2,hmw,hmv⟩:=qcz hr hB hmρ
      obtain ⟨en,hen,hae⟩:=(K8t bs kv cs2 hl hmv).find (q:=fun e=>e.born == st) (fun a b hab=>by rw[hab.1]) ha
      have hv2:=VL.cons hae.2.1 (VL.one hae.2.2)
      refine ⟨.tuple #[en.key,en.val],w,ρ,?_,Ext.refl _,hr,.tu _ _ hv2.1 hv2.2,Eff.refl _ _ _⟩
      have hb:seen.toArray.back?=some st:=by simpa using hst
      have hfd:(zJU bs cs2).toArray.find? (fun e=>e.born == st)=some en:=by simpa using hen
      simp [Instr.entry,getObj,Sem.run,hw',hmw,hb,hfd]
    ·cases e1
   ·cases e
 ·cases e
end
end
section
open Go.RowKit
def absS:Value->Option AV
 | .bool b=>some (.b b)
 | .int k n=>some (.i k n)
 | .string s=>some (.s s.data.toList)
 | .pointer none=>some .np
 | .slice none 0 0=>some .ns
 | .nilFunc=>some .nf
 | .nilIface=>some .ni
 | .map none=>some .nm
 | _=>none
def absL:List Value->Option (List AV)
 | []=>some []
 | v::vs=>(absS v).bind fun a=>(absL vs).map (a :: ·)
def absV:Value->Option AV
 | .agg cs=>(absL cs.toList).map .ag
 | .tuple cs=>(absL cs.toList).map .tu
 | v=>absS v
theorem qOl (ρ:Mp) {v:Value} {a:AV} (h:absS v=some a):VR ρ a v:=by
 cases v with
 | bool b=>cases h;exact .b b
 | int k n=>cases h;exact .i k n
 | string s=>cases h;exact .s _ _ rfl
 | pointer p=>cases p <;> cases h;exact .np
 | slice a n c =>
  cases a with
  | none =>
   cases n <;> cases c <;> simp [absS]at h
   subst h
   exact .ns
  | some _=>cases h
 | nilFunc=>cases h;exact .nf
 | nilIface=>cases h;exact .ni
 | map m=>cases m <;> cases h;exact .nm
 | _=>cases h
theorem Q5n (ρ:Mp):∀ {l:List Value} {az:List AV},absL l=some az->VL ρ az l.toArray
 | [],az,h=>by cases h;exact VL.nil ρ
 | v::vs,az,h=>by
  simp only[absL]at h
  obtain ⟨a,ha,h⟩:=oQ.1 h
  obtain ⟨bs,hb,rfl⟩:=Option.map_eq_some_iff.1 h
  exact VL.cons (qOl ρ ha) (Q5n ρ hb)
theorem Q6q (ρ:Mp) {cs:Array Value} {az:List AV} (h:absL cs.toList=some az):VL ρ az cs:=by
 have:=Q5n ρ h
 simpa using this
theorem qKT (ρ:Mp) {v:Value} {a:AV} (h:absV v=some a):VR ρ a v:=by
 cases v with
 | agg cs =>
  obtain ⟨az,h2,rfl⟩:=Option.map_eq_some_iff.1 h
  exact XC9 (Q6q ρ h2)
 | tuple cs =>
  obtain ⟨az,h2,rfl⟩:=Option.map_eq_some_iff.1 h
  have:=Q6q ρ h2
  exact .tu _ _ this.1 this.2
 | _=>exact qOl ρ h
def cOpd:Operand->Option Opd
 | .tmp t=>some (.t t)
 | .const v=>(absV v).map .c
 | .func f=>some (.c (.f (.func f) [] []))
 | .global _=>none
def QRl:Option Operand->Option (Option Opd)
 | none=>some none
 | some x=>(cOpd x).map some
def KDj:List Operand->Option (List Opd)
 | []=>some []
 | x::xs=>(cOpd x).bind fun y=>(KDj xs).map (y :: ·)
def szOf (P:Program) (t:TypeId):Option Nat:=(P.info? t).map (·.size)
def scal:AV->Bool
 | .b _ | .i _ _ | .s _=>true
 | _=>false
def KHY (P:Program) (t:TypeId):Option (List AV):=(P.info? t).bind fun i=>i.zero.bind fun z=>absL z.cells.toList
def agN (P:Program) (t:TypeId):Option (Option Nat):=(P.underlying t).bind fun d=>(P.info? t).map fun i=>if isAg d then some i.size else none
def YxU:Operand->Bool
 | .const _=>true
 | _=>false
def Jg4:Operand->Option TypeDesc->Bool
 | .const (.slice none 0 0),some (.slice _)=>true
 | .const (.pointer none),some (.pointer _)=>true
 | .const .nilFunc,some (.func ..)=>true
 | .const .nilIface,some (.interface _)=>true
 | _,_=>false
def cBin (P:Program) (op:BinOp) (t:TypeId) (x y:Operand):Option CO:=
 (cOpd x).bind fun a=>(cOpd y).bind fun b =>
 if op=.eql\/op=.neq then
  match P.underlying t with
  | some (.int _)|some .string=>some (.bin op a b)
  | some .bool=>some (.eqb (op == .neq) a b)
  | some (.struct _)|some (.array _ _)=>if P.eqGuardType P.depth t=false then (ckOf P 20 t).map fun ks=>.eqc ks (op == .neq) a b else none
  | d=>if Jg4 x d||Jg4 y d then some (.eqn (op == .neq) a b) else none
 else some (.bin op a b)
def cKey (P:Program) (kt:TypeId):Option (Bool×List CK):=(P.underlying kt).bind fun d=>(ckOf P 20 kt).map fun ks=>(isAg d,ks)
theorem XmF {P:Program} {kt:TypeId} {q:Bool×List CK} (h:cKey P kt=some q):KeyTy P kt q.1 q.2:=by
 obtain ⟨d,hd,h⟩:=oQ.1 h
 obtain ⟨ks,hk,rfl⟩:=Option.map_eq_some_iff.1 h
 exact ⟨hk,by rw[hd];rfl⟩
def JDk (P:Program) (src dst:TypeId) (x:Operand):Option CO:=
 (cOpd x).bind fun a =>
 match P.underlying src,P.underlying dst with
 | some (.int _),some (.int k)=>some (.cvi k a)
 | some .string,some .string=>some (.cvs a)
 | some (.int _),some .string=>some (.r2s a)
 | some (.slice e),some .string=>match P.underlying e with
  | some (.int .u8)=>some (.b2s a)
  | _=>none
 | some .string,some (.slice e)=>match P.underlying e with
  | some (.int .u8)=>some (.s2b a)
  | _=>none
 | some (.slice _),some (.slice e)=>if src=dst then match P.underlying e with
  | some (.int .u8)=>some (.s2s a)
  | _=>none
  else none
 | _,_=>none
def Kmw (P:Program) (s:TypeId) (f:Nat):Option (Nat×Option Nat×Nat):=
 match P.underlying s with
 | some (.struct fs)=>(fs[f]?).bind fun fd=>(agN P fd.type).bind fun n=>(szOf P fd.type).map fun k=>(fd.offset,n,k)
 | _=>none
def Yvl (P:Program) (fs:List Field):Option (List (Nat×Nat)):=
 match fs with
 | []=>some []
 | f::fs=>(szOf P f.type).bind fun n=>(Yvl P fs).map ((f.offset,n) :: ·)
def X0Y (place:Nat->Option (Nat×Nat)):List (Nat×Operand)->Option (List (Nat×Nat×Opd))
 | []=>some []
 | (i,x)::ps=>(place i).bind fun q=>(cOpd x).bind fun a=>(X0Y place ps).map ((q.1,q.2,a) :: ·)
def YYD (P:Program):Builtin->List Operand->List TypeId->Option CO
 | .len,[x],[t]=>(cOpd x).bind fun a=>match P.underlying t with
  | some .string=>some (.len true a)
  | some (.slice _)=>some (.len false a)
  | some (.array n _)=>some (.lnc n)
  | some (.map _ _)=>some (.mln a)
  | _=>none
 | .max,[x,y],_=>(cOpd x).bind fun a=>(cOpd y).map fun b=>.mm true a b
 | .min,[x,y],_=>(cOpd x).bind fun a=>(cOpd y).map fun b=>.mm false a b
 | .append,[x,y],[t,tx]=>(cOpd x).bind fun a=>(cOpd y).bind fun b=>match P.underlying t,P.underlying tx with
  | some (.slice e),some (.slice _)=>(P.info? e).bind fun ie=>(KHY P e).bind fun zs=>if zs.length=ie.size then some (.app false (zs.all scal) ie.size ie.bytes a b) else none
  | some (.slice e),some .string=>(P.info? e).bind fun ie=>(KHY P e).bind fun zs=>if zs.length=ie.size then some (.app true (zs.all scal) ie.size ie.bytes a b) else none
  | some (.slice e),some (.int _)=>(P.info? e).bind fun ie=>(KHY P e).bind fun zs=>if zs.length=ie.size/\ie.size≠0 then some (.apz (zs.all scal) zs ie.bytes a b) else none
  | _,_=>none
 | .copy,[x,y],[t,tx]=>(cOpd x).bind fun a=>(cOpd y).bind fun b=>match P.underlying t,P.underlying tx with
  | some (.slice e),some (.slice _)=>(szOf P e).map fun n=>.cpy false n a b
  | some (.slice e),some .string=>(szOf P e).map fun n=>.cpy true n a b
  | _,_=>none
 | .cap,[x],[t]=>(cOpd x).bind fun a=>match P.underlying t with
  | some (.slice _)=>some (.capo a)
  | _=>none
 | .clear,[x],[t]=>(cOpd x).bind fun a=>match P.underlying t with
  | some (.slice e)=>(P.info? e).bind fun ie=>(KHY P e).bind fun zs=>if zs.length=ie.size/\ie.size≠0 then some (.clr zs a) else none
  | _=>none
 | .delete,[x,y],[t,_]=>(cOpd x).bind fun a=>(cOpd y).bind fun b=>match P.underlying t with
  | some (.map kt _)=>(cKey P kt).map fun q=>.mdl q.1 q.2 a b
  | _=>none
 | _,_,_=>none
def JDv (P:Program):Operand->Bool
 | .func g=>match P.funcs[g]? with
  | some fn => (fn.name == "internal/bytealg.Compare" || fn.name == "internal/bytealg.abigen_runtime_cmpstring") && fn.origin == "" && fn.body.isNone
  | none=>false
 | _=>false
def Z5w (P:Program):Operand->Bool
 | .func g=>match P.funcs[g]? with
  | some fn => fn.name == "internal/bytealg.IndexByteString" && fn.origin == "" && fn.body.isNone
  | none=>false
 | _=>false
def QVF:List Operand->Option CO
 | [x,y]=>(cOpd x).bind fun a=>(cOpd y).map fun b=>.bix a b
 | _=>none
def YB5 (P:Program) (c:Call):Option CO:=
 match c.callee with
 | .builtin b=>YYD P b c.args.toList c.argTypes.toList
 | .value f=>match JDv P f,c.args.toList with
  | true,[x,y]=>(cOpd x).bind fun a=>(cOpd y).map fun b=>.bcmp a b
  | _,l=>if Z5w P f=true then QVF l else (cOpd f).bind fun a=>(KDj l).map fun l=>.call a l
 | .invoke _ _=>none
def qA0 (P:Program):Op->Option CO
 | .move x | .assign x=>(cOpd x).map .mv
 | .pick c a b=>(cOpd c).bind fun c=>(cOpd a).bind fun a=>(cOpd b).map fun b=>.pick c a b
 | .alloc e=>(KHY P e).map fun zs=>.new (zs.all scal) zs
 | .box e x=>(cOpd x).bind fun a=>(KHY P e).map fun zs=>.box (zs.all scal) zs.length a
 | .build t ps=>(KHY P t).bind fun zs=>match P.underlying t with
  | some (.struct fs)=>(Yvl P fs.toList).bind fun pl=>(X0Y (pl[·]?) ps.toList).map fun q=>.bld zs q
  | some (.array _ e)=>(szOf P e).bind fun n=>(X0Y (fun k=>some (k*n,n)) ps.toList).map fun q=>.bld zs q
  | _=>none
 | .buildSlice t len ps=>match P.underlying t with
  | some (.slice e)=>(P.info? e).bind fun ie=>ie.zero.bind fun z =>
    (absL (((Array.range (len*ie.size)).map (z.cells[· % z.cells.size]!)).toList)).bind fun zs=>(KHY P e).bind fun ze =>
    if len*ie.size<=2 ^ 24/\len<=maxLen then (X0Y (fun k=>some (k*ie.size,ie.size)) ps.toList).map fun q=>.bls (ze.all scal) len zs q else none
  | _=>none
 | .load t x=>(cOpd x).bind fun a=>(agN P t).map fun n=>.ld n a
 | .store t x y=>(cOpd x).bind fun a=>(cOpd y).bind fun b=>(agN P t).bind fun n=>if n=none->szOf P t=some 1 then some (.st n a b) else none
 | .nilCheck x=>(cOpd x).map .nck
 | .binOp op t x y _=>cBin P op t x y
 | .unOp op _ x=>(cOpd x).map (.un op)
 | .convert src dst x=>JDk P src dst x
 | .makeInterface t x=>(cOpd x).bind fun a=>match P.underlying t with
  | none|some (.interface _)=>none
  | _=>some (.ifc t a)
 | .makeFunc fn first cap=>(KDj first.toList).bind fun a=>(KDj cap.toList).map fun b=>.mkf fn a b
 | .makeSlice t l c=>(cOpd l).bind fun a=>(cOpd c).bind fun b=>match P.underlying t with
  | some (.slice e)=>(P.info? e).bind fun ie=>(KHY P e).bind fun zs=>if zs.length=ie.size/\ie.size≠0 then some (.mks (zs.all scal) zs ie.bytes a b) else none
  | _=>none
 | .slice t x lo hi mx=>(cOpd x).bind fun a=>(QRl lo).bind fun lo=>(QRl hi).bind fun hi=>(QRl mx).bind fun mx=>match P.underlying t with
  | some .string=>if mx.isNone then some (.sls a lo hi) else none
  | some (.slice e)=>(szOf P e).map fun n=>.sll n a lo hi mx
  | some (.array k e)=>if k<=maxLen then (szOf P e).map fun n=>.sla k n a lo hi mx else none
  | _=>none
 | .fieldAddr s x f=>(cOpd x).bind fun a=>(Kmw P s f).bind fun (off,_,k)=>if k≠0 then some (.fad off a) else none
 | .field s x f=>(cOpd x).bind fun a=>(Kmw P s f).map fun (off,n,_)=>.fld off n a
 | .indexAddr t x i=>(cOpd x).bind fun a=>(cOpd i).bind fun b=>match P.underlying t with
  | some (.slice e)=>(szOf P e).map fun n=>.iad n a b
  | some (.array k e)=>(szOf P e).map fun n=>.iaa k n a b
  | _=>none
 | .index t x i=>(cOpd x).bind fun a=>(cOpd i).bind fun b=>match P.underlying t with
  | some .string=>some (.ixs a b)
  | some (.array k e)=>(szOf P e).bind fun n=>(agN P e).map fun g=>.ixa k n g.isSome a b
  | _=>none
 | .typeAssert x _ t ok=>(cOpd x).bind fun a=>((P.info? t).bind (·.zero)).bind fun z=>(absV z).bind fun zv=>match P.underlying t with
  | none|some (.interface _)=>none
  | _=>some (.tas a t ok zv)
 | .extract x i=>(cOpd x).map fun a=>.ext a i
 | .call c=>YB5 P c
 | .range t x=>(cOpd x).bind fun a=>match P.underlying t with
  | some .string=>some (.rng a)
  | some (.map _ _)=>some (.mrg a)
  | _=>none
 | .makeMap t none=>match P.underlying t with
  | some (.map _ _)=>some .mkm
  | _=>none
 | .lookup t x k ok=>(cOpd x).bind fun a=>(cOpd k).bind fun b=>match P.underlying t with
  | some (.map kt et)=>(cKey P kt).bind fun q=>((P.info? et).bind (·.zero)).bind fun z=>(absV z).map fun zv=>.lkp q.1 q.2 ok zv a b
  | _=>none
 | .mapUpdate t x k y | .insert t x k y=>(cOpd x).bind fun a=>(cOpd k).bind fun b=>(cOpd y).bind fun c=>match P.underlying t with
  | some (.map kt _)=>(cKey P kt).map fun q=>.mup q.1 q.2 a b c
  | _=>none
 | .entry x=>(cOpd x).map .ent
 | .next x b=>(cOpd x).bind fun a=>some (if b=true then .nxt a else .mnx a)
 | _=>none
def XE2 (P:Program) (o:Op):Option CO:=
 match o with
 | .defer _=>none
 | _=>some ((qA0 P o).getD .stop)
def YXt (P:Program) (ops:Array Oper) (o:Oper):Option COper:=
 (XE2 P o.op).bind fun op =>
 match o.guard with
 | none=>some ⟨o.dst,none,op⟩
 | some (j,want)=>((ops[j]?).bind (·.dst)).map fun t=>⟨o.dst,some (t,want),op⟩
end
end Go.Proofs.YtekeoichmdiiiaaGreat
