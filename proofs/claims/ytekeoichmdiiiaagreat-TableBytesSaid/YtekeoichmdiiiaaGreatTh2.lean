/- Part 2 of what the laws' proofs rest on. No condition. -/
import Derived.ChangeKeysEq
import Derived.Test.YtekeoichmdiiiaaGreatTh1
set_option linter.all false
namespace Go.Proofs.YtekeoichmdiiiaaGreat
section
open Go.RowKit
section
variable {P:Program}
theorem QI0 {ρ:Mp} {x:AV} {v:Value} (hx:VR ρ x v) {y n:Nat} (e:bnd 0 y (some x)=some n) (code:BoundsCode) (w:World):(Instr.sliceBound v y code).run P w=.ok n w/\n<=y:=by
 cases hx with
 | i k m =>
  simp only[bnd]at e
  split at e
  ·rename_i h
   cases e
   exact ⟨by simp [Instr.sliceBound,asIntOf,h],by omega⟩
  ·cases e
 | _=>simp [bnd]at e
theorem KzV (d:Nat) (y:Nat) (x:AV):bnd d y (some x)=bnd 0 y (some x):=by cases x <;> rfl
def VO (ρ:Mp):Option AV->Option Value->Prop
 | none,none=>True
 | some a,some v=>VR ρ a v
 | _,_=>False
theorem VO.map {ρ:Mp} (f:Operand->Value) (g:Opd->AV) {x:Option Operand} {y:Option Opd} (h:∀a b,x=some a->y=some b->VR ρ (g b) (f a)) (hn:x.isSome=y.isSome):VO ρ (y.map g) (x.map f):=by
 cases x <;> cases y <;> simp_all [VO]
theorem qYu {ρ:Mp} {lo:Option AV} {vl:Option Value} (hl:VO ρ lo vl) {h l:Nat} (e:bnd 0 h lo=some l) (c:BoundsCode) (w:World) :
  (match vl with|some v=>Instr.sliceBound v h c|none=>pure 0:Sem Nat).run P w=.ok l w/\l<=h:=by
 cases lo with
 | none =>
  cases vl with
  | none=>cases e;exact ⟨rfl,Nat.zero_le _⟩
  | some v=>exact hl.elim
 | some a =>
  cases vl with
  | none=>exact hl.elim
  | some v=>exact QI0 hl e c w
theorem X3t {ρ:Mp} {hi:Option AV} {vh:Option Value} (hh:VO ρ hi vh) {len y h:Nat} (hly:len<=y) (e:bnd len y hi=some h) (c:BoundsCode) (w:World) :
  (match vh with|some v=>Instr.sliceBound v y c|none=>pure len:Sem Nat).run P w=.ok h w/\h<=y:=by
 cases hi with
 | none =>
  cases vh with
  | none=>cases e;exact ⟨rfl,hly⟩
  | some v=>exact hh.elim
 | some a =>
  cases vh with
  | none=>exact hh.elim
  | some v=>exact QI0 hh (by rw[<-KzV];exact e) c w
theorem JpP {d y y' n:Nat} (hy:y<=y') {x:Option AV} (e:bnd d y x=some n):bnd d y' x=some n:=by
 cases x with
 | none=>exact e
 | some a =>
  cases a with
  | i k m =>
   simp only[bnd]at e ⊢
   split at e
   ·rw[if_pos (by omega)]
    exact e
   ·cases e
  | _=>simp [bnd]at e
theorem YAo {ρ:Mp} {lo hi:Option AV} {vl vh:Option Value} (hl:VO ρ lo vl) (hh:VO ρ hi vh) {isS:Bool} {len cap h l:Nat} (hlc:len<=cap) (e1:bnd len cap hi=some h) (e2:bnd 0 h lo=some l) (w:World) :
  (Instr.sliceBounds isS len cap vl vh none).run P w=.ok (l,h,cap) w:=by
 obtain ⟨r1,_⟩:=X3t (P:=P) hh hlc e1 (if isS then .sliceAcap else .sliceAlen) w
 obtain ⟨r2,_⟩:=qYu (P:=P) hl e2 .sliceB w
 unfold Instr.sliceBounds
 cases vh <;> cases vl <;> simp_all
theorem zBu {ρ:Mp} {lo hi:Option AV} {mx:AV} {vl vh:Option Value} {vm:Value} (hl:VO ρ lo vl) (hh:VO ρ hi vh) (hm:VR ρ mx vm) {len cap h l m:Nat} (e0:bnd 0 cap (some mx)=some m) (hs:hi.isSome=true) (e1:bnd 0 m hi=some h) (e2:bnd 0 h lo=some l) (w:World) :
  (Instr.sliceBounds true len cap vl vh (some vm)).run P w=.ok (l,h,m) w/\l<=h/\h<=m/\m<=cap:=by
 obtain ⟨r0,h0⟩:=QI0 (P:=P) hm e0 .slice3Acap w
 cases hi with
 | none=>simp at hs
 | some a =>
  cases vh with
  | none=>exact hh.elim
  | some v =>
   obtain ⟨r1,h1⟩:=QI0 (P:=P) hh e1 .slice3B w
   obtain ⟨r2,h2⟩:=qYu (P:=P) hl e2 .slice3C w
   refine ⟨?_,h2,h1,h0⟩
   unfold Instr.sliceBounds
   cases vl <;> simp_all
theorem X0I {ρ:Mp} (t:TypeId) (ht:P.underlying t=some .string) {l:List UInt8} {vx:Value} (hx:VR ρ (.s l) vx) {lo hi:Option AV} {vl vh:Option Value} (hl:VO ρ lo vl) (hh:VO ρ hi vh) {r:AV} (e:slS l lo hi=some r):Ans P ρ (Instr.sliceAt t vx vl vh none) r:=by
 cases hx with
 | s l bs h =>
  subst h
  unfold slS at e
  obtain ⟨hh',e1,e⟩:=oQ.1 e
  obtain ⟨ll,e2,rfl⟩:=Option.map_eq_some_iff.1 e
  rw[<-KPM]at e1
  have hb:=fun w=>YAo (P:=P) hl hh (isS:=false) (Nat.le_refl _) e1 e2 w
  refine Ans.mk (v:=.string (bs.extract ll hh')) (fun w=>?_) (.s _ _ ?_)
  ·simp [Instr.sliceAt,Instr.slice,run_underlying ht,hb]
  ·simp [ByteArray.data_extract,List.drop_take]
theorem zMG {ρ:Mp} (t e:TypeId) {i:TypeInfo} (ht:P.underlying t=some (.slice e)) (hi':P.info? e=some i) {x:AV} {vx:Value} (hx:VR ρ x vx) {lo hi mx:Option AV} {vl vh vm:Option Value} (hl:VO ρ lo vl) (hh:VO ρ hi vh) (hm:VO ρ mx vm) {r:AV} (er:slL i.size x lo hi mx=some r):Ans P ρ (Instr.sliceAt t vx vl vh vm) r:=by
 cases hx with
 | sl id off len cap k b o n cap' h h1 h2 h3 h4 h5 =>
  cases mx with
  | none =>
   cases vm with
   | some v=>exact hm.elim
   | none =>
    simp only[slL]at er
    obtain ⟨hh',e1,er⟩:=oQ.1 er
    obtain ⟨ll,e2,er⟩:=Option.map_eq_some_iff.1 er
    have hb:=fun w=>YAo (P:=P) hl hh (isS:=true) (Nat.le_trans h1 h2) (JpP h2 e1) e2 w
    have hle:=(qYu (P:=P) hl e2 .sliceB default).2
    have hcap:hh'<=cap:=(X3t (P:=P) hh h1 e1 .sliceB default).2
    have hadd:((⟨b,o+off,none⟩:Addr).add (ll*i.size))=⟨b,o+(off+ll*i.size),none⟩:=by
     unfold Addr.add
     split
     ·simp_all
     ·simp [Nat.add_assoc]
    have hrun:∀w,(Instr.sliceAt t (.slice (some ⟨b,o+off,none⟩) len cap') vl vh none).run P w=.ok (.slice (some (if cap'=ll then ⟨b,o+off,none⟩ else ⟨b,o+(off+ll*i.size),none⟩)) (hh'-ll) (cap'-ll)) w:=fun w=>by
     simp [Instr.sliceAt,Instr.slice,run_underlying ht,hb,sizeOf,typeInfo,hi',hadd]
     split <;> rfl
    refine Ans.mk hrun ?_
    by_cases hl0:ll=0
    ·subst hl0
     simp only[↓reduceIte]at er
     subst er
     have hz:(if cap'=0 then (⟨b,o+off,none⟩:Addr) else ⟨b,o+(off+0*i.size),none⟩)=⟨b,o+off,none⟩:=by split <;> simp
     rw[hz]
     exact .sl id off hh' cap k b o n cap' h hcap h2 h3 h4 h5
    ·rw[if_neg hl0]at er
     by_cases hlc:ll<cap
     ·rw[if_pos hlc]at er
      subst er
      rw[if_neg (by omega)]
      refine .sl id _ _ _ (kcut k i.size) b o n (cap'-ll) h (by omega) (by omega) (by omega) (fun hx=>?_) (fun z hz hz0=>?_)
      ·cases k with
       | none=>rw[h4 rfl]
       | some z=>simp only[kcut]at hx;split at hx <;> cases hx
      ·cases k with
       | none=>cases hz
       | some z' =>
        simp only[kcut]at hz
        split at hz
        ·rename_i hzs
         cases hz
         subst hzs
         have:=h5 _ rfl hz0
         rw[Nat.sub_mul]
         have hmul:ll*i.size<=cap'*i.size:=Nat.mul_le_mul_right _ (by omega)
         omega
        ·cases hz
         exact absurd rfl hz0
     ·rw[if_neg hlc]at er
      have hll:ll=cap:=by omega
      have hhl:hh'-ll=0:=by omega
      rw[hhl]
      cases k with
      | none =>
       have hc':=h4 rfl
       simp only[if_true]at er
       subst er
       rw[if_pos (by omega)]
       exact VR.sl (ρ:=ρ) id off 0 0 none b o n (cap'-ll) h (by omega) (by omega) (by omega) (fun _=>by omega) (fun z hz=>by cases hz)
      | some z =>
       simp only[reduceCtorEq,if_false]at er
       subst er
       exact .se _ _ (by omega)
  | some mv =>
   cases vm with
   | none=>exact hm.elim
   | some vm =>
    simp only[slL]at er
    obtain ⟨mm,e0,er0⟩:=oQ.1 er
    obtain ⟨hh',e1,er1⟩:=oQ.1 er0
    obtain ⟨ll,e2,er2⟩:=Option.map_eq_some_iff.1 er1
    obtain ⟨hv,hvE,e3⟩:=oQ.1 e1
    clear er er0 er1 e1
    have hb:=fun w=>zBu (P:=P) (len:=len) hl hh hm (JpP h2 e0) (by rw[hvE];rfl) (by rw[hvE];exact e3) e2 w
    have hadd:((⟨b,o+off,none⟩:Addr).add (ll*i.size))=⟨b,o+(off+ll*i.size),none⟩:=by
     unfold Addr.add
     split
     ·simp_all
     ·simp [Nat.add_assoc]
    have hrun:∀w,(Instr.sliceAt t (.slice (some ⟨b,o+off,none⟩) len cap') vl vh (some vm)).run P w=.ok (.slice (some (if mm=ll then ⟨b,o+off,none⟩ else ⟨b,o+(off+ll*i.size),none⟩)) (hh'-ll) (mm-ll)) w:=fun w=>by
     simp [Instr.sliceAt,Instr.slice,run_underlying ht,(hb w).1,sizeOf,typeInfo,hi',hadd]
     split <;> rfl
    obtain ⟨q1,q2,q3⟩:=(hb default).2
    refine Ans.mk hrun ?_
    by_cases hml:mm=ll
    ·rw[if_pos hml]at er2 ⊢
     have e5:hh'-ll=0:=by omega
     have e4:mm-ll=0:=by omega
     rw[e5,e4]
     split at er2
     ·subst er2
      exact .sz id off _ 0 (by omega) (fun _=>rfl)
     ·subst er2
      exact .sl id off 0 0 none b o n 0 h (by omega) (by omega) (by omega) (fun _=>rfl) (fun z hz=>by cases hz)
    ·rw[if_neg hml]at er2 ⊢
     subst er2
     exact .sl id _ _ _ none b o n _ h (by omega) (Nat.le_refl _) (by omega) (fun _=>rfl) (fun z hz=>by cases hz)
 | sz id off a c hc hn =>
  cases mx with
  | none =>
   cases vm with
   | some v=>exact hm.elim
   | none =>
    simp only[slL]at er
    obtain ⟨hh',e1,er⟩:=oQ.1 er
    obtain ⟨ll,e2,er⟩:=Option.map_eq_some_iff.1 er
    have hb:=fun w=>YAo (P:=P) hl hh (isS:=true) (Nat.zero_le c) (JpP (Nat.zero_le c) e1) e2 w
    have hle:=(qYu (P:=P) hl e2 .sliceB default).2
    have hhc:=(X3t (P:=P) hh (Nat.le_refl 0) e1 .sliceB default).2
    have q1:hh'=0:=by omega
    have q2:ll=0:=by omega
    subst q1 q2
    simp only[↓reduceIte]at er
    subst er
    exact Ans.mk (v:=.slice a 0 c) (fun w=>by cases a <;> simp [Instr.sliceAt,Instr.slice,run_underlying ht,hb,sizeOf,typeInfo,hi',Addr.add]) (.sz _ _ _ _ hc hn)
  | some mv =>
   cases vm with
   | none=>exact hm.elim
   | some vm =>
    simp only[slL]at er
    obtain ⟨mm,e0,er0⟩:=oQ.1 er
    obtain ⟨hh',e1,er1⟩:=oQ.1 er0
    obtain ⟨ll,e2,er2⟩:=Option.map_eq_some_iff.1 er1
    obtain ⟨hv,hvE,e3⟩:=oQ.1 e1
    clear er er0 er1 e1
    have hb:=fun w=>zBu (P:=P) (len:=0) hl hh hm (JpP (Nat.zero_le c) e0) (by rw[hvE];rfl) (by rw[hvE];exact e3) e2 w
    have hm0:=(QI0 (P:=P) hm e0 .slice3B default).2
    obtain ⟨q1,q2,q3⟩:=(hb default).2
    have r1:mm=0:=by omega
    have r2:hh'=0:=by omega
    have r3:ll=0:=by omega
    subst r1 r2 r3
    simp only[↓reduceIte,and_self]at er2
    subst er2
    exact Ans.mk (v:=.slice a 0 0) (fun w=>by simp [Instr.sliceAt,Instr.slice,run_underlying ht,(hb w).1,sizeOf,typeInfo,hi']) (.sz _ _ _ _ (by omega) (fun _=>rfl))
 | ns =>
  cases mx with
  | some v=>simp [slL]at er
  | none =>
   cases vm with
   | some v=>exact hm.elim
   | none =>
    simp only[slL]at er
    obtain ⟨hh',e1,er⟩:=oQ.1 er
    obtain ⟨ll,e2,rfl⟩:=Option.map_eq_some_iff.1 er
    have hb:=fun w=>YAo (P:=P) hl hh (isS:=true) (Nat.le_refl 0) e1 e2 w
    have hle:=(qYu (P:=P) hl e2 .sliceB default).2
    have hhc:=(X3t (P:=P) hh (Nat.le_refl 0) e1 .sliceB default).2
    have q1:hh'=0:=by omega
    have q2:ll=0:=by omega
    subst q1 q2
    exact Ans.mk (fun w=>by simp [Instr.sliceAt,Instr.slice,run_underlying ht,hb,sizeOf,typeInfo,hi']) .ns
 | se a c h =>
  cases mx with
  | some v=>simp [slL]at er
  | none =>
   cases vm with
   | some v=>exact hm.elim
   | none =>
    simp only[slL]at er
    obtain ⟨hh',e1,er⟩:=oQ.1 er
    obtain ⟨ll,e2,rfl⟩:=Option.map_eq_some_iff.1 er
    have hb:=fun w=>YAo (P:=P) hl hh (isS:=true) (Nat.zero_le c) (JpP (Nat.zero_le c) e1) e2 w
    have hle:=(qYu (P:=P) hl e2 .sliceB default).2
    have hhc:=(X3t (P:=P) hh (Nat.le_refl 0) e1 .sliceB default).2
    have q1:hh'=0:=by omega
    have q2:ll=0:=by omega
    subst q1 q2
    exact Ans.mk (v:=.slice (some a) 0 c) (fun w=>by simp [Instr.sliceAt,Instr.slice,run_underlying ht,hb,sizeOf,typeInfo,hi',Addr.add]) (.se _ _ (by omega))
 | _=>cases mx <;> simp [slL]at er
theorem qg9 {ρ:Mp} (t e:TypeId) {i:TypeInfo} {n:Nat} (ht:P.underlying t=some (.array n e)) (hi':P.info? e=some i) (hn:n<=maxLen) {x:AV} {vx:Value} (hx:VR ρ x vx) {lo hi mx:Option AV} {vl vh vm:Option Value} (hl:VO ρ lo vl) (hh:VO ρ hi vh) (hm:VO ρ mx vm) {r:AV} (er:slA n i.size x lo hi mx=some r):Ans P ρ (Instr.sliceAt t vx vl vh vm) r:=by
 cases hx with
 | p id off b o m h =>
  cases mx with
  | some v=>simp [slA]at er
  | none =>
   cases vm with
   | some v=>exact hm.elim
   | none =>
    simp only[slA]at er
    obtain ⟨hh',e1,er⟩:=oQ.1 er
    obtain ⟨ll,e2,er⟩:=Option.map_eq_some_iff.1 er
    have hb:=fun w=>YAo (P:=P) hl hh (isS:=false) (Nat.le_refl n) e1 e2 w
    have hle:=(qYu (P:=P) hl e2 .sliceB default).2
    have hhc:=(X3t (P:=P) hh (Nat.le_refl n) e1 .sliceB default).2
    have hadd:((⟨b,o+off,none⟩:Addr).add (ll*i.size))=⟨b,o+(off+ll*i.size),none⟩:=by
     unfold Addr.add
     split
     ·simp_all
     ·simp [Nat.add_assoc]
    have hrun:∀w,(Instr.sliceAt t (.pointer (some ⟨b,o+off,none⟩)) vl vh none).run P w=.ok (.slice (some (if n=ll then ⟨b,o+off,none⟩ else ⟨b,o+(off+ll*i.size),none⟩)) (hh'-ll) (n-ll)) w:=fun w=>by
     simp [Instr.sliceAt,Instr.sureAddr,run_underlying ht,hb,sizeOf,typeInfo,hi',hadd]
    refine Ans.mk hrun ?_
    by_cases hml:n=ll
    ·rw[if_pos hml]at er ⊢
     subst er
     have e4:n-ll=0:=by omega
     rw[e4]
     exact .sl id off _ 0 none b o m 0 h (by omega) (Nat.le_refl _) (by omega) (fun _=>rfl) (fun z hz=>by cases hz)
    ·rw[if_neg hml]at er ⊢
     subst er
     exact .sl id _ _ _ none b o m _ h (by omega) (Nat.le_refl _) (by omega) (fun _=>rfl) (fun z hz=>by cases hz)
 | _=>cases mx <;> simp [slA]at er
end
end
section
open Go.RowKit
def win (X:List AV) (off n:Nat):List AV:=(X.drop off).take n
section
variable {P:Program}
def JCg (P:Program) (rec:TypeId->Option (List CK)):List Field->Nat->Option (List CK)
 | [],_=>some []
 | f :: fs, off => if f.name = "_" ∨ f.offset ≠ off then none else (rec f.type).bind fun ks => (JCg P rec fs (off + ks.length)).map (ks ++ ·)
def ckOf (P:Program):Nat->TypeId->Option (List CK)
 | 0,_=>none
 | d+1,t =>
  Option.bind (α:=List CK) (match P.underlying t with
   | some .bool=>some [.b]
   | some (.int _)=>some [.i]
   | some .string=>some [.s]
   | some (.struct fs)=>if P.stoodInHeld t then none else JCg P (ckOf P d) fs.toList 0
   | some (.array n e)=>(ckOf P d e).map fun ks=>(List.replicate n ks).flatten
   | _=>none) fun ks=>if (P.info? t).map (·.size)=some ks.length then some ks else none
theorem X90:∀(ks:List CK) (xs ys:List AV) (r:Bool),JTs ks xs ys=some r->xs.length=ks.length/\ys.length=ks.length
 | [],[],[],_,_=>⟨rfl,rfl⟩
 | [],[],_::_,r,h=>by simp [JTs]at h
 | [],_::_,_,r,h=>by simp [JTs]at h
 | k::ks,[],_,r,h=>by simp [JTs]at h
 | k::ks,_::_,[],r,h=>by simp [JTs]at h
 | k::ks,x::xs,y::ys,r,h=>by
  simp only[JTs]at h
  obtain ⟨a,_,h⟩:=oQ.1 h
  obtain ⟨b,hb,_⟩:=Option.map_eq_some_iff.1 h
  have:=X90 ks xs ys b hb
  simp [this.1,this.2]
theorem Xh2:∀(ks ls:List CK) (xs ys:List AV) (r:Bool),JTs (ks++ls) xs ys=some r->∃r1 r2,JTs ks (xs.take ks.length) (ys.take ks.length)=some r1/\JTs ls (xs.drop ks.length) (ys.drop ks.length)=some r2/\r=(r1&&r2)
 | [],ls,xs,ys,r,h=>⟨true,r,by simp [JTs],by simpa using h,by simp⟩
 | k::ks,ls,[],ys,r,h=>by simp [JTs]at h
 | k::ks,ls,x::xs,[],r,h=>by simp [JTs]at h
 | k::ks,ls,x::xs,y::ys,r,h=>by
  simp only[List.cons_append,JTs]at h
  obtain ⟨a,ha,h⟩:=oQ.1 h
  obtain ⟨b,hb,rfl⟩:=Option.map_eq_some_iff.1 h
  obtain ⟨r1,r2,h1,h2,rfl⟩:=Xh2 ks ls xs ys b hb
  refine ⟨a&&r1,r2,?_,by simpa using h2,by rw[Bool.and_assoc]⟩
  simp [JTs,ha,h1]
def EqOk (P:Program) (d:Nat) (t:TypeId) (ks:List CK):Prop:=
 (P.info? t).map (·.size)=some ks.length/\∀(k:Nat) (ρ:Mp) (X Y:List AV) (C D:Array Value) (off:Nat) (r:Bool),VL ρ X C->VL ρ Y D->JTs ks (win X off ks.length) (win Y off ks.length)=some r ->
  ∀w,∃a b,(part t C off).run P w=.ok a w/\(part t D off).run P w=.ok b w/\(Op.equalIn (d+k) t a b).run P w=.ok r w
theorem ZSV {X:List AV} {off:Nat} {x:AV} {l:List AV} (h:win X off 1=x::l):X[off]?=some x:=by
 unfold win at h
 have:((X.drop off).take 1)[0]?=some x:=by rw[h];rfl
 simpa [List.getElem?_take,List.getElem?_drop] using this
theorem QN2 (X:List AV) (a n b m:Nat) (h:b+m<=n):win (win X a n) b m=win X (a+b) m:=by
 unfold win
 rw[List.drop_take,List.take_take,List.drop_drop,Nat.min_eq_left (by omega)]
theorem Z1F (X:List AV) (a n m:Nat) (h:m<=n):(win X a n).take m=win X a m:=by
 unfold win
 rw[List.take_take,Nat.min_eq_left h]
theorem YxB (X:List AV) (a n m:Nat):(win X a n).drop m=win X (a+m) (n-m):=by
 unfold win
 rw[List.drop_take,List.drop_drop]
theorem KkX {d k:Nat} {rec:TypeId->Option (List CK)} (hrec:∀t ks,rec t=some ks->EqOk P d t ks) {ρ:Mp} {X Y:List AV} {C D:Array Value} (hX:VL ρ X C) (hY:VL ρ Y D) (w:World) :
  ∀(fs:List Field) (off:Nat) (ks:List CK) (r:Bool),JCg P rec fs off=some ks->JTs ks (win X off ks.length) (win Y off ks.length)=some r->(Op.eqFields (d+k) C D fs).run P w=.ok r w
 | [],off,ks,r,h,e=>by
  cases h
  simp [win,JTs]at e
  subst e
  rfl
 | f::fs,off,ks,r,h,e=>by
  simp only[JCg]at h
  split at h
  ·cases h
  ·rename_i hn
   obtain ⟨k1,hk1,h⟩:=oQ.1 h
   obtain ⟨k2,hk2,rfl⟩:=Option.map_eq_some_iff.1 h
   have hname : f.name ≠ "_" := fun q => hn (.inl q)
   have hoff:f.offset=off:=Decidable.byContradiction fun q=>hn (.inr q)
   obtain ⟨r1,r2,e1,e2,rfl⟩:=Xh2 k1 k2 _ _ r e
   rw[List.length_append,Z1F _ _ _ _ (by omega),Z1F _ _ _ _ (by omega)]at e1
   rw[List.length_append,YxB,YxB,Nat.add_sub_cancel_left]at e2
   obtain ⟨a,b,p1,p2,p3⟩:=(hrec _ _ hk1).2 k ρ X Y C D off r1 hX hY e1 w
   have ih:=KkX hrec hX hY w fs (off+k1.length) k2 r2 hk2 e2 (k:=k)
   simp only[Op.eqFields,hname,ne_eq,not_false_eq_true,if_true,Sem.run_bind,hoff,p1,p2,p3,Result.andThen_ok]
   cases r1 <;> simp [ih]
theorem qw3 {d k:Nat} {e:TypeId} {ks:List CK} (he:EqOk P d e ks) {ρ:Mp} {X Y:List AV} {C D:Array Value} (hX:VL ρ X C) (hY:VL ρ Y D) (w:World) :
  ∀(n s:Nat) (r:Bool),JTs ((List.replicate n ks).flatten) (win X (s*ks.length) (n*ks.length)) (win Y (s*ks.length) (n*ks.length))=some r->(Op.eqItems (d+k) e ks.length C D (List.range' s n)).run P w=.ok r w
 | 0,s,r,e=>by
  simp [win,JTs]at e
  subst e
  rfl
 | n+1,s,r,e=>by
  rw[List.replicate_succ,List.flatten_cons]at e
  obtain ⟨r1,r2,e1,e2,rfl⟩:=Xh2 _ _ _ _ r e
  rw[Z1F _ _ _ _ (by rw[Nat.add_mul];omega),Z1F _ _ _ _ (by rw[Nat.add_mul];omega)]at e1
  rw[YxB,YxB,Nat.add_mul,Nat.one_mul,Nat.add_sub_cancel,show s*ks.length+ks.length=(s+1)*ks.length by rw[Nat.add_mul,Nat.one_mul]]at e2
  obtain ⟨a,b,p1,p2,p3⟩:=he.2 k ρ X Y C D _ r1 hX hY e1 w
  have ih:=qw3 he hX hY w n (s+1) r2 e2 (k:=k)
  rw[List.range'_succ]
  simp only[Op.eqItems,Sem.run_bind,p1,p2,p3,Result.andThen_ok]
  cases r1 <;> simp [ih]
theorem q6Y {t:TypeId} {n:Nat} (h:(P.info? t).map (·.size)=some n):∃i,P.info? t=some i/\i.size=n:=by
 cases hq:P.info? t with
 | none=>simp [hq]at h
 | some i=>exact ⟨i,rfl,by simpa [hq] using h⟩
theorem QnA {t:TypeId} {d:TypeDesc} (hd:P.underlying t=some d) (ha:isAg d=true) {n:Nat} (hs:(P.info? t).map (·.size)=some n) (C:Array Value) (off:Nat) (w:World):(part t C off).run P w=.ok (.agg (C.extract off (off+n))) w:=by
 obtain ⟨i,hi,rfl⟩:=q6Y hs
 unfold part
 simp [JeZ hd,ha,sizeOf,typeInfo,hi]
theorem Z19 {t:TypeId} {d:TypeDesc} (hd:P.underlying t=some d) (ha:isAg d=false) {C:Array Value} {off:Nat} {c:Value} (hc:C[off]?=some c) (w:World):(part t C off).run P w=.ok c w:=by
 unfold part
 simp [JeZ hd,ha,hc]
theorem zqZ {X:List AV} {off:Nat} {l:List AV} (h:win X off 1=l) (hl:l.length=1):∃x,l=[x]/\X[off]?=some x:=by
 match l,hl with
 | [x],_=>exact ⟨x,rfl,ZSV h⟩
theorem Qmp:∀(d:Nat) (t:TypeId) (ks:List CK),ckOf P d t=some ks->EqOk P d t ks
 | 0,t,ks,h=>by cases h
 | d+1,t,ks,h=>by
  simp only[ckOf]at h
  obtain ⟨k1,h1,h⟩:=oQ.1 h
  split at h
  case isFalse=>cases h
  rename_i hs
  cases h
  refine ⟨hs,fun k ρ X Y C D off r hX hY e w=>?_⟩
  have hl:=X90 _ _ _ _ e
  split at h1
  ·rename_i hu
   cases h1
   obtain ⟨x,hx,hx1⟩:=zqZ (X:=X) (off:=off) rfl hl.1
   obtain ⟨y,hy,hy1⟩:=zqZ (X:=Y) (off:=off) rfl hl.2
   simp only[List.length_singleton]at e
   rw[hx,hy]at e
   obtain ⟨c,hc,vc⟩:=hX.get hx1
   obtain ⟨c',hc',vc'⟩:=hY.get hy1
   refine ⟨c,c',Z19 hu rfl hc w,Z19 hu rfl hc' w,?_⟩
   cases vc <;> cases vc' <;> simp [JTs,QsB]at e
   subst e
   rw[show d+1+k=(d+k)+1 by omega,run_equalIn_bool' w (d+k) t _ _ hu]
  ·rename_i kk hu
   cases h1
   obtain ⟨x,hx,hx1⟩:=zqZ (X:=X) (off:=off) rfl hl.1
   obtain ⟨y,hy,hy1⟩:=zqZ (X:=Y) (off:=off) rfl hl.2
   simp only[List.length_singleton]at e
   rw[hx,hy]at e
   obtain ⟨c,hc,vc⟩:=hX.get hx1
   obtain ⟨c',hc',vc'⟩:=hY.get hy1
   refine ⟨c,c',Z19 hu rfl hc w,Z19 hu rfl hc' w,?_⟩
   cases vc with
   | i q1 n1 =>
    cases vc' with
    | i q2 n2 =>
     simp [JTs,QsB]at e
     obtain ⟨rfl,rfl⟩:=e
     rw[show d+1+k=(d+k)+1 by omega,run_equalIn_int w (d+k) t q1 kk _ _ hu]
    | _=>simp [JTs,QsB]at e
   | _=>simp [JTs,QsB]at e
  ·rename_i hu
   cases h1
   obtain ⟨x,hx,hx1⟩:=zqZ (X:=X) (off:=off) rfl hl.1
   obtain ⟨y,hy,hy1⟩:=zqZ (X:=Y) (off:=off) rfl hl.2
   simp only[List.length_singleton]at e
   rw[hx,hy]at e
   obtain ⟨c,hc,vc⟩:=hX.get hx1
   obtain ⟨c',hc',vc'⟩:=hY.get hy1
   refine ⟨c,c',Z19 hu rfl hc w,Z19 hu rfl hc' w,?_⟩
   cases vc with
   | s l1 b1 g1 =>
    cases vc' with
    | s l2 b2 g2 =>
     simp [JTs,QsB]at e
     subst e
     rw[show d+1+k=(d+k)+1 by omega,run_equalIn_string w (d+k) t _ _ hu,zfI,zfI,g1,g2]
    | _=>simp [JTs,QsB]at e
   | _=>simp [JTs,QsB]at e
  ·rename_i fs hu
   split at h1
   ·cases h1
   ·rename_i hp
    have hp':P.stoodInHeld t=false:=by simpa using hp
    refine ⟨_,_,QnA hu rfl hs C off w,QnA hu rfl hs D off w,?_⟩
    have hf:P.fieldsOf t=fs:=by unfold Program.fieldsOf;rw[hu]
    rw[show d+1+k=(d+k)+1 by omega,run_equalIn_struct w (d+k) t _ _ (by rw[hf];exact hu) hp',hf]
    refine KkX (rec:=ckOf P d) (fun t ks h=>Qmp d t ks h) (hX.extract off ks.length) (hY.extract off ks.length) w fs.toList 0 ks r h1 ?_
    have e1:win ((X.drop off).take ks.length) 0 ks.length=win X off ks.length:=by have:=QN2 X off ks.length 0 ks.length (by omega);simpa [win] using this
    have e2:win ((Y.drop off).take ks.length) 0 ks.length=win Y off ks.length:=by have:=QN2 Y off ks.length 0 ks.length (by omega);simpa [win] using this
    rw[e1,e2]
    exact e
  ·rename_i n e' hu
   obtain ⟨k2,hk2,rfl⟩:=Option.map_eq_some_iff.1 h1
   have ih:=Qmp d e' k2 hk2
   obtain ⟨i,hi,his⟩:=q6Y ih.1
   refine ⟨_,_,QnA hu rfl hs C off w,QnA hu rfl hs D off w,?_⟩
   have hc:P.cellsOf e'=k2.length:=by unfold Program.cellsOf;rw[hi];simpa using his
   rw[show d+1+k=(d+k)+1 by omega,run_equalIn_array w (d+k) _ _ hu hi,hc,List.range_eq_range']
   have hln:((List.replicate n k2).flatten).length=n*k2.length:=by simp
   refine qw3 ih (hX.extract off _) (hY.extract off _) w n 0 r ?_
   rw[Nat.zero_mul,<-hln]
   have e1:win ((X.drop off).take ((List.replicate n k2).flatten).length) 0 ((List.replicate n k2).flatten).length=win X off ((List.replicate n k2).flatten).length:=by have:=QN2 X off ((List.replicate n k2).flatten).length 0 ((List.replicate n k2).flatten).length (by omega);simpa [win] using this
   have e2:win ((Y.drop off).take ((List.replicate n k2).flatten).length) 0 ((List.replicate n k2).flatten).length=win Y off ((List.replicate n k2).flatten).length:=by have:=QN2 Y off ((List.replicate n k2).flatten).length 0 ((List.replicate n k2).flatten).length (by omega);simpa [win] using this
   rw[e1,e2]
   exact e
  ·cases h1
theorem QUi {ρ:Mp} (neg:Bool) (d:Nat) (t:TypeId) {ks:List CK} (hk:ckOf P d t=some ks) (hd:d<=10000) (ha:(P.underlying t).map isAg=some true) (hg:P.eqGuardType P.depth t=false) (X Y:Operand) {l l':List AV} {vx vy:Value} (hx:VR ρ (.ag l) vx) (hy:VR ρ (.ag l') vy) {r:Bool} (e:JTs ks l l'=some r) :
  Ans P ρ (do eqGuard (if neg then .neq else .eql) t X Y vx vy;binOp (if neg then .neq else .eql) t vx vy) (.b (r ^^ neg)):=by
 obtain ⟨C,rfl,hC⟩:=zef hx
 obtain ⟨D,rfl,hD⟩:=zef hy
 obtain ⟨dd,hdd,hag⟩:=Option.map_eq_some_iff.1 ha
 have hl:=X90 _ _ _ _ e
 refine Ans.mk (fun w=>?_) (.b _)
 have hok:=Qmp d t ks hk
 obtain ⟨a,b,p1,p2,p3⟩:=hok.2 (10000-d) ρ l l' C D 0 r hC hD (by
  have e1:win l 0 ks.length=l:=by simp [win,<-hl.1]
  have e2:win l' 0 ks.length=l':=by simp [win,<-hl.2]
  rw[e1,e2]
  exact e) w
 have q1:=QnA hdd hag hok.1 C 0 w
 have q2:=QnA hdd hag hok.1 D 0 w
 have hCs:C.extract 0 (0+ks.length)=C:=by rw[Nat.zero_add,<-hl.1,hC.1];simp
 have hDs:D.extract 0 (0+ks.length)=D:=by rw[Nat.zero_add,<-hl.2,hD.1];simp
 rw[hCs,p1]at q1
 rw[hDs,p2]at q2
 cases q1
 cases q2
 rw[show d+(10000-d)=10000 by omega]at p3
 cases neg
 ·simp only[Bool.false_eq_true,if_false,Sem.run_bind,run_eqGuard_agg w .eql t X Y C D hg,Result.andThen_ok,run_eql_struct,p3,Bool.xor_false]
 ·simp only[if_true,Sem.run_bind,run_eqGuard_agg w .neq t X Y C D hg,Result.andThen_ok,run_neq_struct,p3,Bool.xor_true]
end
end
section
open Go.RowKit
section
variable {P:Program}
theorem XPo {ρ:Mp} (t:TypeId) {d:TypeDesc} (hd:P.underlying t=some d) (hn:∀ms,d≠.interface ms) {x:AV} {vx:Value} (hx:VR ρ x vx):Ans P ρ (Instr.makeInterface t vx) (.ifc t x):=
 Ans.mk (fun w=>by cases d <;> simp_all [Instr.makeInterface,run_underlying hd]) (.ifc t x vx hx)
theorem z8X {ρ:Mp} {l:List AV} {vx:Value} (hx:VR ρ (.tu l) vx) (i:Nat) {r:AV} (e:l[i]?=some r):Ans P ρ (Instr.extract vx i) r:=by
 obtain ⟨cs,rfl,hl⟩:=qg5 hx
 obtain ⟨c,hc,hv⟩:=hl.get e
 exact Ans.mk (fun w=>by simp [Instr.extract,hc]) hv
theorem JyC {ρ:Mp} (t ty:TypeId) {d:TypeDesc} (ht:P.underlying t=some d) (hd:d=.string\/∃e,d=.slice e) {x:AV} {vx:Value} (hx:VR ρ x vx) {n:Int} (e:lenV x=some n) (hk:(d=.string)=(∃l,x=.s l)):Ans P ρ (Builtin.len_ #[t] ty #[vx]) (.i .i64 n):=by
 cases hx with
 | s l bs h =>
  cases e
  subst h
  have hs:d=.string:=by rw[hk];exact ⟨_,rfl⟩
  subst hs
  refine Ans.mk (fun w=>?_) (.i _ _)
  simp [Builtin.len_,run_underlying ht,goInt]
 | sl id off k cap kc b o m cap' h h1 h2 h3 h4 h5 =>
  cases e
  rcases hd with rfl|⟨e',rfl⟩
  ·exact absurd (hk.mp rfl) (by simp)
  ·exact Ans.mk (fun w=>by simp [Builtin.len_,run_underlying ht,goInt]) (.i _ _)
 | sz id off a c h hn =>
  cases e
  rcases hd with rfl|⟨e',rfl⟩
  ·exact absurd (hk.mp rfl) (by simp)
  ·exact Ans.mk (fun w=>by simp [Builtin.len_,run_underlying ht,goInt]) (.i _ _)
 | ns =>
  cases e
  rcases hd with rfl|⟨e',rfl⟩
  ·exact absurd (hk.mp rfl) (by simp)
  ·exact Ans.mk (fun w=>by simp [Builtin.len_,run_underlying ht,goInt]) (.i _ _)
 | se a c h =>
  cases e
  rcases hd with rfl|⟨e',rfl⟩
  ·exact absurd (hk.mp rfl) (by simp)
  ·exact Ans.mk (fun w=>by simp [Builtin.len_,run_underlying ht,goInt]) (.i _ _)
 | _=>simp [lenV]at e
theorem ZDv {ρ:Mp} (mx:Bool) (ts:Array TypeId) (ty:TypeId) {x y r:AV} {vx vy:Value} (hx:VR ρ x vx) (hy:VR ρ y vy) (e:mmV mx x y=some r):Ans P ρ (if mx then Builtin.max_ ts ty #[vx,vy] else Builtin.min_ ts ty #[vx,vy]) r:=by
 cases hx with
 | i k a =>
  cases hy with
  | i k' b =>
   cases e
   cases mx
   ·exact Ans.mk (fun w=>by simp [Builtin.min_,Builtin.min2]) (.i _ _)
   ·exact Ans.mk (fun w=>by simp [Builtin.max_,Builtin.max2]) (.i _ _)
  | _=>simp [mmV]at e
 | _=>simp [mmV]at e
def tasV (t:TypeId) (ok:Bool) (z:AV):AV->Option AV
 | .ifc t' v=>if t'=t then some (if ok then .tu [v,.b true] else v) else if ok then some (.tu [z,.b false]) else none
 | .ni=>if ok then some (.tu [z,.b false]) else none
 | _=>none
theorem XjX {ρ:Mp} {a b:AV} {v u:Value} (ha:VR ρ a v) (hb:VR ρ b u):VR ρ (.tu [a,b]) (.tuple #[v,u]):=
 let h:=VL.cons ha (VL.cons hb (VL.nil ρ))
 .tu _ _ h.1 h.2
theorem qLd {ρ:Mp} (tx t:TypeId) (ok:Bool) {d:TypeDesc} {i:TypeInfo} {zv:Value} {z:AV} (hd:P.underlying t=some d) (hn:∀ms,d≠.interface ms) (hi:P.info? t=some i) (hz:i.zero=some zv) (hzr:VR ρ z zv) {x r:AV} {vx:Value} (hx:VR ρ x vx) (e:tasV t ok z x=some r):Ans P ρ (Instr.typeAssert vx tx t ok) r:=by
 have hzero:∀w,(zeroValue t).run P w=.ok zv w:=fun w=>by simp [zeroValue,typeInfo,hi,hz]
 cases hx with
 | ifc t' v v' h =>
  simp only[tasV]at e
  split at e
  ·rename_i he
   subst he
   cases e
   cases ok
   ·exact Ans.mk (fun w=>by cases d <;> simp_all [Instr.typeAssert,run_underlying hd]) h
   ·exact Ans.mk (v:=.tuple #[v',.bool true]) (fun w=>by cases d <;> simp_all [Instr.typeAssert,run_underlying hd]) (XjX h (.b _))
  ·rename_i he
   split at e
   ·rename_i hok
    subst hok
    cases e
    exact Ans.mk (v:=.tuple #[zv,.bool false]) (fun w=>by cases d <;> simp_all [Instr.typeAssert,run_underlying hd]) (XjX hzr (.b _))
   ·cases e
 | ni =>
  simp only[tasV]at e
  split at e
  ·rename_i hok
   subst hok
   cases e
   exact Ans.mk (v:=.tuple #[zv,.bool false]) (fun w=>by cases d <;> simp_all [Instr.typeAssert,run_underlying hd]) (XjX hzr (.b _))
  ·cases e
 | _=>simp [tasV]at e
def nilT:TypeDesc->Bool
 | .slice _ | .pointer _ | .func .. | .interface _=>true
 | _=>false
def QTi:TypeDesc->AV->Prop
 | .slice _,x=>x=.ns
 | .pointer _,x=>x=.np
 | .func ..,x=>x=.nf
 | .interface _,x=>x=.ni
 | _,_=>False
theorem z6C {ρ:Mp} (t:TypeId) {d:TypeDesc} (hd:P.underlying t=some d) {x y:AV} {vx vy:Value} (hx:VR ρ x vx) (hy:VR ρ y vy) {r:Bool} (e:ZAx x y=some r)
  (hs:QTi d x\/QTi d y) (k:Nat) (w:World):(Op.equalIn (k+1) t vx vy).run P w=.ok r w:=by
 cases d <;> simp only[QTi,or_self]at hs
 all_goals (rcases hs with rfl|rfl)
 all_goals (first|cases hx|cases hy)
 all_goals (cases hy <;> simp [ZAx]at e <;> (first|subst e|obtain ⟨_,rfl⟩:=e) <;> simp [Op.equalIn,run_underlying hd] <;> done)
theorem zur {ρ:Mp} (op:BinOp) (t:TypeId) (X Y:Operand) (hc:(∃v,X=.const v)\/∃v,Y=.const v) {x y:AV} {vx vy:Value} (hx:VR ρ x vx) (hy:VR ρ y vy) {r:Bool} (e:ZAx x y=some r) (w:World):(eqGuard op t X Y vx vy).run P w=.ok () w:=by
 rcases hc with ⟨v,rfl⟩|⟨v,rfl⟩ <;> cases hx <;> cases hy <;> simp [ZAx]at e <;> cases op <;> simp [eqGuard]
theorem QTA {ρ:Mp} (neg:Bool) (t:TypeId) {d:TypeDesc} (hd:P.underlying t=some d) (X Y:Operand) (hc:(∃v,X=.const v)\/∃v,Y=.const v) {x y:AV} {vx vy:Value} (hx:VR ρ x vx) (hy:VR ρ y vy) {r:Bool} (e:ZAx x y=some r)
  (hs:QTi d x\/QTi d y) :
  Ans P ρ (do eqGuard (if neg then .neq else .eql) t X Y vx vy;binOp (if neg then .neq else .eql) t vx vy) (.b (r ^^ neg)):=by
 refine Ans.mk (fun w=>?_) (.b _)
 have h1:=z6C (P:=P) t hd hx hy e hs 9999 w
 have h2:=fun op=>zur (P:=P) op t X Y hc hx hy e w
 have hb:∀op,(op=.eql\/op=.neq)->binOp op t vx vy=(do let q<-Op.equal t vx vy;pure (.bool (if op=.eql then q else !q))):=by
  intro op ho
  rcases ho with rfl|rfl <;> cases hx <;> cases hy <;> simp [ZAx]at e <;> simp [binOp]
 cases neg
 ·simp only[Bool.false_eq_true,if_false,Sem.run_bind,h2,Result.andThen_ok,hb .eql (.inl rfl),Op.equal,Op.maxDepth,h1]
  simp
 ·simp only[if_true,Sem.run_bind,h2,Result.andThen_ok,hb .neq (.inr rfl),Op.equal,Op.maxDepth,h1]
  simp
end
end
section
open Go.RowKit
section
variable {P:Program} {K:Code->CC->Prop}
def Good (K:Code->CC->Prop) (P:Program) (ρ:Mp) (h:List AB) (w:World) (s:Sem Value) (r:AV×List AB):Prop:=
 ∃v' w' ρ',s.run P w=.ok v' w'/\Ext ρ ρ'/\Rel K ρ' r.2 w'/\VR ρ' r.1 v'/\Eff ρ h w ρ' r.2 w'
theorem Ans.good {ρ:Mp} {h:List AB} {w:World} {s:Sem Value} {a:AV} (ha:Ans P ρ s a) (hr:Rel K ρ h w):Good K P ρ h w s (a,h):=
 let ⟨v,e,hv⟩:=ha w
 ⟨v,w,ρ,e,Ext.refl _,hr,hv,Eff.refl _ _ _⟩
theorem qW2 {h:List AB} {id:Nat} {xs:List AV} (e:zZU h id=some xs):∃fl m,h[id]?=some (.blk fl m xs):=by
 unfold zZU at e
 split at e
 ·rename_i fl m ys hq
  cases e
  exact ⟨fl,m,hq⟩
 ·cases e
theorem Rel.row {ρ:Mp} {h:List AB} {w:World} (r:Rel K ρ h w) {id:Nat} {xs:List AV} (e:zZU h id=some xs) {b o n:Nat} (hρ:ρ[id]?=some (b,o,n)) :
  ∃cs ty fz,w.heap[b]?=some (.cells cs ty fz)/\o+xs.length<=cs.size/\∀(k:Nat) a,xs[k]?=some a->∃c,cs[o+k]?=some c/\VR ρ a c:=by
 obtain ⟨fl,m,hb⟩:=qW2 e
 obtain ⟨cs,ty,fz,h1,_,h3,h4⟩:=r.blk id _ b o n hb hρ
 refine ⟨cs,ty,fz,h1,h3,fun k a ha=>?_⟩
 have hk:o+k<cs.size:=by have:=(List.getElem?_eq_some_iff.1 ha).1;omega
 exact ⟨cs[o+k],Array.getElem?_eq_getElem hk,(h4 k a _ ha (Array.getElem?_eq_getElem hk)).ext (Jzd fl ρ)⟩
theorem Rel.winF {ρ:Mp} {h:List AB} {w:World} (r:Rel K ρ h w) {id:Nat} {fl mu:Bool} {xs:List AV} (hb:h[id]?=some (.blk fl mu xs)) {b o n:Nat} (hρ:ρ[id]?=some (b,o,n)) (off m:Nat) (hm:off+m<=xs.length) :
  ∃vs:List Value,vs.length=m/\(∀(j:Nat) u,vs[j]?=some u->w.cell? ((⟨b,o+off,none⟩:Addr).add j)=some u)/\VL (flm fl ρ) ((xs.drop off).take m) vs.toArray:=by
 obtain ⟨cs,ty,fz,h1,_,h3,h4⟩:=r.blk id _ b o n hb hρ
 refine ⟨(cs.extract (o+off) (o+off+m)).toList,by simp;omega,fun j u hu=>?_,⟨by simp;omega,fun j a c ha hc=>?_⟩⟩
 ·have hj:(⟨b,o+off,none⟩:Addr).add j=⟨b,o+off+j,none⟩:=by unfold Addr.add;split <;> simp_all
  rw[hj]
  simp only[Array.getElem?_toList,Array.getElem?_extract]at hu
  split at hu
  ·simp [World.cell?,h1,hu]
  ·cases hu
 ·rw[List.getElem?_take]at ha
  split at ha
  ·rw[List.getElem?_drop]at ha
   simp only[Array.toArray_toList,Array.getElem?_extract]at hc
   split at hc
   ·rw[Nat.add_assoc]at hc
    exact h4 _ a c ha hc
   ·cases hc
  ·cases ha
theorem Rel.win {ρ:Mp} {h:List AB} {w:World} (r:Rel K ρ h w) {id:Nat} {xs:List AV} (e:zZU h id=some xs) {b o n:Nat} (hρ:ρ[id]?=some (b,o,n)) (off m:Nat) (hm:off+m<=xs.length) :
  ∃vs:List Value,vs.length=m/\(∀(j:Nat) u,vs[j]?=some u->w.cell? ((⟨b,o+off,none⟩:Addr).add j)=some u)/\VL ρ ((xs.drop off).take m) vs.toArray:=by
 obtain ⟨fl,mu,hb⟩:=qW2 e
 obtain ⟨vs,h1,h2,h3⟩:=r.winF hb hρ off m hm
 exact ⟨vs,h1,h2,h3.ext (Jzd fl ρ)⟩
theorem QsD {ρ:Mp} {h:List AB} {w:World} (hr:Rel K ρ h w) (t:TypeId) {d:TypeDesc} {i:TypeInfo} (hd:P.underlying t=some d) (hi:P.info? t=some i) {x a:AV} {vx:Value} (hx:VR ρ x vx) (e:ldV h (if isAg d then some i.size else none) x=some a):Good K P ρ h w (Instr.loadAt t vx) (a,h):=by
 cases hx with
 | p id off b o n hρ =>
  by_cases ha:isAg d=true
  ·rw[if_pos ha]at e
   simp only[ldV]at e
   obtain ⟨xs,hxs,e⟩:=oQ.1 e
   split at e
   ·rename_i hle
    cases e
    obtain ⟨vs,hl,hc,hv⟩:=hr.win hxs hρ off i.size hle
    refine ⟨.agg vs.toArray,w,ρ,?_,Ext.refl _,hr,XC9 hv,Eff.refl _ _ _⟩
    have hload:=run_loadCells_list (P:=P) w ⟨b,o+off,none⟩ vs hc
    rw[hl]at hload
    simp [Instr.loadAt,Instr.sureAddr,loadVar,JeZ hd,ha,sizeOf,typeInfo,hi,hload]
   ·cases e
  ·rw[if_neg ha]at e
   simp only[ldV]at e
   obtain ⟨xs,hxs,e⟩:=oQ.1 e
   obtain ⟨cs,ty,fz,h1,h3,h4⟩:=hr.row hxs hρ
   obtain ⟨c,hc,hv⟩:=h4 off a e
   refine ⟨c,w,ρ,?_,Ext.refl _,hr,hv,Eff.refl _ _ _⟩
   simp [Instr.loadAt,Instr.sureAddr,loadVar,JeZ hd,ha,World.cell?,h1,hc]
 | _=>by_cases ha:isAg d=true <;> simp [ha,ldV]at e
theorem K79 {fl:Bool} {a:AV} (h:wrOk fl a=true):a.one=true:=by
 unfold wrOk at h
 split at h
 ·cases a <;> simp_all [AV.flat,AV.one]
 ·exact h
theorem VR.oneCell {ρ:Mp} {a:AV} {v:Value} (h:VR ρ a v) (ha:a.one=true):v.oneCell'=true:=by
 cases h <;> simp_all [AV.one,Value.oneCell']
theorem VR.flat {ρ ρ':Mp} {a:AV} {v:Value} (h:VR ρ a v) (ha:a.flat=true):VR ρ' a v:=by
 cases h with
 | b x=>exact .b x
 | i k n=>exact .i k n
 | s l bs h=>exact .s l bs h
 | np=>exact .np
 | ns=>exact .ns
 | nf=>exact .nf
 | ni=>exact .ni
 | _=>simp [AV.flat]at ha
theorem VR.wr {ρ:Mp} {fl:Bool} {a:AV} {v:Value} (h:VR ρ a v) (ha:wrOk fl a=true):VR (flm fl ρ) a v:=by
 unfold wrOk at ha
 unfold flm
 split
 ·rename_i hf
  rw[if_pos hf]at ha
  exact h.flat ha
 ·exact h
theorem Q6j (xs l:List AV) (off:Nat) (h:off+l.length<=xs.length) (k:Nat):(over xs off l)[k]?=if k<off then xs[k]? else if k<off+l.length then l[k-off]? else xs[k]?:=by
 unfold over
 by_cases h1:k<off
 ·rw[if_pos h1,List.append_assoc,List.getElem?_append_left (by simp;omega),List.getElem?_take,if_pos h1]
 ·rw[if_neg h1]
  by_cases h2:k<off+l.length
  ·rw[if_pos h2,List.getElem?_append_left (by simp;omega),List.getElem?_append_right (by simp;omega)]
   congr 1
   simp
   omega
  ·rw[if_neg h2,List.getElem?_append_right (by simp;omega),List.getElem?_drop]
   congr 1
   simp
   omega
theorem Y4l (xs l:List AV) (off:Nat) (h:off+l.length<=xs.length):(over xs off l).length=xs.length:=by
 unfold over
 simp
 omega
theorem Yvd (xs l:List Value) (off:Nat) (h:off+l.length<=xs.length) (k:Nat):((xs.take off++l++xs.drop (off+l.length)).toArray)[k]?=if k<off then xs[k]? else if k<off+l.length then l[k-off]? else xs[k]?:=by
 rw[List.getElem?_toArray]
 by_cases h1:k<off
 ·rw[if_pos h1,List.append_assoc,List.getElem?_append_left (by simp;omega),List.getElem?_take,if_pos h1]
 ·rw[if_neg h1]
  by_cases h2:k<off+l.length
  ·rw[if_pos h2,List.getElem?_append_left (by simp;omega),List.getElem?_append_right (by simp;omega)]
   congr 1
   simp
   omega
  ·rw[if_neg h2,List.getElem?_append_right (by simp;omega),List.getElem?_drop]
   congr 1
   simp
   omega
theorem X0L (P:Program) (g o:Nat) (t:TypeId) (fz:Nat×Nat):∀(vs:List Value) (i:Nat) (cur:Array Value) (w:World),w.heap[g]?=some (.cells cur t fz)->(fz.2=0\/cur.size<=fz.1)->o+i+vs.length<=cur.size->(∀v∈vs,v.oneCell'=true) ->
  (storeCells ⟨g,o,none⟩ vs i).run P w=.ok () (w.setRow g (cur.toList.take (o+i)++vs++cur.toList.drop (o+i+vs.length)).toArray)
 | [],i,cur,w,hg,_,_,_=>by
  simp only[storeCells,List.append_nil,List.length_nil,Nat.add_zero,List.take_append_drop,Array.toArray_toList]
  rw[setRow_self w g cur t fz hg]
  rfl
 | v::rest,i,cur,w,hg,hfz,hl,h1=>by
  have hi:o+i<cur.size:=by simp at hl;omega
  have hadd:(⟨g,o,none⟩:Addr).add i=⟨g,o+i,none⟩:=by unfold Addr.add;split <;> simp_all
  have hcell:w.cell? ⟨g,o+i,none⟩=some cur[o+i]:=by simp [World.cell?,hg,hi]
  have hfro:w.frozen? ⟨g,o+i,none⟩=false:=by
   obtain ⟨lo,hi'⟩:=fz
   simp only[World.frozen?,hg,Bool.and_eq_false_iff,decide_eq_false_iff_not]
   simp only at hfz
   omega
  have hst:(store ((⟨g,o,none⟩:Addr).add i) v).run P w=.ok () (w.setRow g (cur.setIfInBounds (o+i) v)):=by
   rw[hadd,run_store P w _ v _ (h1 v (by simp)),hcell]
   simp [hfro,setCell_eq_setRow w g (o+i) cur t fz v hg]
  have ih:=X0L P g o t fz rest (i+1) (cur.setIfInBounds (o+i) v) (w.setRow g (cur.setIfInBounds (o+i) v)) (setRow_heap w g cur _ t _ hg) (by simpa using hfz) (by simp at hl ⊢;omega) (fun x hx=>h1 x (by simp [hx]))
  simp only[storeCells,Sem.run_bind,hst,Result.andThen_ok,ih,setRow_setRow]
  congr 3
  have e:=list_seg_step cur.toList (o+i) v rest (by simp at hl ⊢;omega)
  simpa [Array.toList_setIfInBounds,Nat.add_assoc] using e
theorem JkH {ρ:Mp} {h:List AB} {w:World} (hr:Rel K ρ h w) {id:Nat} {fl:Bool} {xs:List AV} (hb:h[id]?=some (.blk fl true xs)) {b o n:Nat} (hρ:ρ[id]?=some (b,o,n)) (off:Nat) {l:List AV} {vs:List Value}
  (hv:VL ρ l vs.toArray) (hok:l.all (wrOk fl)=true) (hle:off+l.length<=xs.length) :
  ∃w',(storeCells ⟨b,o+off,none⟩ vs 0).run P w=.ok () w'/\Rel K ρ (h.set id (.blk fl true (over xs off l))) w'/\Eff ρ h w ρ (h.set id (.blk fl true (over xs off l))) w':=by
 obtain ⟨cs,ty,fz,h1,h2,h3,h4⟩:=hr.blk id _ b o n hb hρ
 obtain ⟨hfz,hn⟩:=h2 rfl
 have hlen:l.length=vs.length:=by have:=hv.1;simpa using this
 have hall:∀(j:Nat) a,l[j]?=some a->wrOk fl a=true:=fun j a ha=>List.all_eq_true.1 hok a (List.mem_of_getElem? ha)
 have hone:∀v∈vs,v.oneCell'=true:=fun v hvm=>by
  obtain ⟨j,hj⟩:=List.getElem?_of_mem hvm
  have hjl:j<l.length:=by rw[hlen];exact (List.getElem?_eq_some_iff.1 hj).1
  exact (hv.2 j _ v (List.getElem?_eq_getElem hjl) (by simpa using hj)).oneCell (K79 (hall j _ (List.getElem?_eq_getElem hjl)))
 have hst:=X0L P b (o+off) ty fz vs 0 cs w h1 hfz (by omega) hone
 rw[Nat.add_zero]at hst
 refine ⟨_,hst,hr.put hb rfl hρ ?_ rfl rfl ⟨rfl,Nat.le_refl _⟩ (by simp) (fun k hk=>setRow_other w b k _ hk) (fun _=>rfl)⟩
 refine ⟨_,ty,fz,setRow_heap w b cs _ ty _ h1,fun _=>⟨by simp;omega,?_⟩,?_,fun k a c ha hc=>?_⟩
 ·simp
  omega
 ·rw[Y4l _ _ _ hle]
  simp
  omega
 ·rw[Q6j _ _ _ hle]at ha
  rw[Yvd _ _ _ (by simp;omega)]at hc
  simp only[Array.getElem?_toList]at hc
  by_cases q1:k<off
  ·rw[if_pos q1]at ha
   rw[if_pos (by omega)]at hc
   exact h4 k a c ha hc
  ·rw[if_neg q1]at ha
   rw[if_neg (by omega)]at hc
   by_cases q2:k<off+l.length
   ·rw[if_pos q2]at ha
    rw[if_pos (by omega)]at hc
    have hidx:o+k-(o+off)=k-off:=by omega
    rw[hidx]at hc
    exact (hv.2 _ a c ha (by simpa using hc)).wr (hall _ a ha)
   ·rw[if_neg q2]at ha
    rw[if_neg (by omega)]at hc
    exact h4 k a c ha hc
theorem qbf {h h':List AB} {id off:Nat} {l:List AV} (e:stB h id off l=some h'):∃fl xs,h[id]?=some (.blk fl true xs)/\off+l.length<=xs.length/\l.all (wrOk fl)=true/\h'=h.set id (.blk fl true (over xs off l)):=by
 unfold stB at e
 split at e
 ·rename_i fl xs hq
  split at e
  ·rename_i hc
   cases e
   exact ⟨fl,xs,hq,hc.1,hc.2,rfl⟩
  ·cases e
 ·cases e
theorem XCO {ρ:Mp} {h h':List AB} {w:World} (hr:Rel K ρ h w) {id off:Nat} {l:List AV} (e:stB h id off l=some h') {b o n:Nat} (hρ:ρ[id]?=some (b,o,n)) {vs:List Value} (hv:VL ρ l vs.toArray) :
  ∃w',(storeCells ⟨b,o+off,none⟩ vs 0).run P w=.ok () w'/\Rel K ρ h' w'/\Eff ρ h w ρ h' w':=by
 obtain ⟨fl,xs,h1,h2,h3,rfl⟩:=qbf e
 exact JkH hr h1 hρ off hv h3 h2
theorem VR.cells1 {ρ:Mp} {a:AV} {v:Value} (h:VR ρ a v) (ha:a.one=true):v.cells = #[v]:=by
 cases h <;> simp_all [AV.one,Value.cells]
theorem YGy {ρ:Mp} {h h':List AB} {w:World} (hr:Rel K ρ h w) (t:TypeId) {ag:Bool} {i:TypeInfo} (hi:P.info? t=some i) (h1:ag=false->i.size=1) {x y:AV} {vx vy:Value} (hx:VR ρ x vx) (hy:VR ρ y vy) (e:stV h (if ag then some i.size else none) x y=some h') :
  ∃w',(Instr.storeAt t vx vy).run P w=.ok () w'/\Rel K ρ h' w'/\Eff ρ h w ρ h' w':=by
 cases hx with
 | p id off b o n hρ =>
  cases ag with
  | true =>
   simp only[if_true]at e
   cases y with
   | ag l =>
    obtain ⟨cs,rfl,hl⟩:=zef hy
    simp only[stV]at e
    split at e
    ·rename_i hlen
     obtain ⟨w',hw',q1,q2⟩:=XCO (P:=P) hr e hρ (vs:=cs.toList) (by simpa using hl)
     refine ⟨w',?_,q1,q2⟩
     have hs:cs.size=i.size:=by rw[<-hl.1,hlen]
     simp [Instr.storeAt,Instr.sureAddr,storeVar,Value.cells,sizeOf,typeInfo,hi,hs,hw']
    ·cases e
   | _=>simp [stV]at e
  | false =>
   simp only[Bool.false_eq_true,if_false,stV]at e
   split at e
   ·rename_i hone
    obtain ⟨w',hw',q1,q2⟩:=XCO (P:=P) hr e hρ (vs:=[vy]) (VL.one hy)
    refine ⟨w',?_,q1,q2⟩
    simp [Instr.storeAt,Instr.sureAddr,storeVar,hy.cells1 hone,sizeOf,typeInfo,hi,h1 rfl,hw']
   ·cases e
 | _=>cases ag <;> cases y <;> simp [stV]at e
theorem VL.wr {ρ:Mp} {fl:Bool} {l:List AV} {cs:Array Value} (h:VL ρ l cs) (hok:l.all (wrOk fl)=true):VL (flm fl ρ) l cs:=
 ⟨h.1,fun j a c h1 h2=>(h.2 j a c h1 h2).wr (List.all_eq_true.1 hok a (List.mem_of_getElem? h1))⟩
theorem ZA8 {ρ:Mp} {h:List AB} {w:World} (hr:Rel K ρ h w) (ty:TypeId) (fl:Bool) {l:List AV} {cs rest:Array Value} (hv:VL (flm fl ρ) l cs) :
  Rel K (ρ++[(w.heap.size,0,(cs++rest).size)]) (h++[.blk fl true l]) (w.alloc (.cells (cs++rest) ty))/\Eff ρ h w (ρ++[(w.heap.size,0,(cs++rest).size)]) (h++[.blk fl true l]) (w.alloc (.cells (cs++rest) ty)):=by
 refine hr.new _ _ _ ⟨cs++rest,ty,(0,0),heap_alloc_new w _,fun _=>⟨.inl rfl,Nat.le_refl _⟩,by simp [hv.1],fun k a c ha hc=>?_⟩
 have hk:k<l.length:=(List.getElem?_eq_some_iff.1 ha).1
 rw[Nat.zero_add,Array.getElem?_append_left (by rw[<-hv.1];exact hk)]at hc
 exact (hv.2 k a c ha hc).ext (Z7k fl (Ext.push _ _))
theorem Zt4 (ρ:Mp) (h:List AB) (x:Nat×Nat×Nat) (hl:ρ.length=h.length):(ρ++[x])[h.length]?=some x:=by
 rw[<-hl]
 simp
theorem Qws {h:List AB} {fl:Bool} {cs:List AV} {f:Nat->AV} {r:AV×List AB} (e:newB h fl cs f=some r):cs.all (wrOk fl)=true/\r=(f h.length,h++[.blk fl true cs]):=by
 unfold newB at e
 split at e
 ·rename_i hc
  cases e
  exact ⟨hc,rfl⟩
 ·cases e
theorem QSD {ρ:Mp} {h:List AB} {w:World} (hr:Rel K ρ h w) (t:TypeId) (fl:Bool) {l:List AV} {v:Value} (hv:VL ρ l v.cells) {r:AV×List AB} (e:newB h fl l (fun n=>.p n 0)=some r) :
  Good K P ρ h w (do pure (.pointer (some (<-newVar t v)))) r:=by
 obtain ⟨hok,rfl⟩:=Qws e
 have:=ZA8 hr t fl (rest:=#[]) (hv.wr hok)
 simp only[Array.append_empty]at this
 refine ⟨.pointer (some ⟨w.heap.size,0,none⟩),_,_,?_,Ext.push _ _,this.1,?_,this.2⟩
 ·simp [newVar,newRow]
 ·have:=VR.p (ρ:=ρ++[(w.heap.size,0,v.cells.size)]) h.length 0 w.heap.size 0 v.cells.size (Zt4 ρ h _ hr.len)
  simpa using this
theorem YL2 {ρ:Mp} {h:List AB} {w:World} (hr:Rel K ρ h w) (t:TypeId) (fl:Bool) {l:List AV} {cs:Array Value} (hv:VL ρ l cs) (len cap:Nat) (hlc:len<=cap) (hm:cap<=maxLen) {r:AV×List AB} (e:newB h fl l (fun n=>.sl n 0 len cap none)=some r) :
  Good K P ρ h w (do pure (.slice (some (<-newRow t cs)) len cap)) r:=by
 obtain ⟨hok,rfl⟩:=Qws e
 have:=ZA8 hr t fl (rest:=#[]) (hv.wr hok)
 simp only[Array.append_empty]at this
 refine ⟨.slice (some ⟨w.heap.size,0,none⟩) len cap,_,_,?_,Ext.push _ _,this.1,?_,this.2⟩
 ·simp [newRow]
 ·have:=VR.sl (ρ:=ρ++[(w.heap.size,0,cs.size)]) h.length 0 len cap none w.heap.size 0 cs.size cap (Zt4 ρ h _ hr.len) hlc (Nat.le_refl _) hm (fun _=>rfl) (fun z hz=>by cases hz)
  simpa using this
end
end
end Go.Proofs.YtekeoichmdiiiaaGreat
