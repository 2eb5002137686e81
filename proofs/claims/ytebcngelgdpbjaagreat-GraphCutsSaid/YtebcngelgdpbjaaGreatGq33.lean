/- Part 33 of what the laws' proofs rest on. No condition. -/
import Derived.Test.YtebcngelgdpbjaaGreatGq32
set_option linter.all false
namespace Go.Proofs.YtebcngelgdpbjaaGreat
section
set_option maxRecDepth 100000
set_option maxHeartbeats 16000000
def bolR:Row Bool:=⟨fun b=>[.b b],1,fun _=>rfl,by decide,false,fun x y h=>by
 simp only[List.cons.injEq,AV.b.injEq,and_true]at h
 exact h⟩
theorem XTx (l:List Bool):bolR.cells l=l.map AV.b:=by
 induction l with
 | nil=>rfl
 | cons a l ih=>show [AV.b a]++bolR.cells l=_;rw[ih];rfl
theorem QCL (l:List Bool):(bolR.cells l).length=l.length:=by rw[XTx,List.length_map]
theorem QKj (l:List Bool) (i:Nat):(bolR.cells l)[i]?=(l[i]?).map AV.b:=by rw[XTx,List.getElem?_map]
theorem Q0o (l:List Bool) {i:Nat} (b:Bool) (hi:i<l.length):over (bolR.cells l) i [.b b]=bolR.cells (l.set i b):=by
 refine List.ext_getElem? fun j=>?_
 have hl:((bolR.cells l).take i).length=i:=by rw[List.length_take,QCL];omega
 unfold over
 rw[QKj,List.getElem?_set]
 rcases Nat.lt_trichotomy j i with q|q|q
 ·rw[List.append_assoc,List.getElem?_append_left (by omega),List.getElem?_take,if_pos q,QKj,if_neg (by omega)]
 ·subst q
  rw[List.append_assoc,List.getElem?_append_right (by omega),hl,Nat.sub_self,if_pos rfl,if_pos hi]
  rfl
 ·rw[List.getElem?_append_right (by rw[List.length_append,hl];simp;omega),List.length_append,hl,List.getElem?_drop,QKj,if_neg (by omega)]
  congr 2
  simp
  omega
def cntF (B:List Bool):Nat:=(B.filter fun b=>!b).length
theorem Kwj:∀ {B:List Bool} {i:Nat},B[i]?=some false->cntF (B.set i true)+1=cntF B
 | [],_,h=>by cases h
 | b::B,0,h=>by
  cases h
  simp [cntF]
 | b::B,i+1,h=>by
  have:=Kwj (B:=B) (i:=i) h
  unfold cntF at this ⊢
  rw[List.set_cons_succ,List.filter_cons,List.filter_cons]
  split
  ·simp only[List.length_cons];omega
  ·exact this
structure FixS (m:List EvD) (d:Int×Int) (B:List Bool):Prop where
 len:B.length=m.length
 ok:∀i:Nat,B[i]?=some true->∃e:EvD,m[i]?=some e/\vhas (dpE m d) e.1.dot
def Q9a (m:List EvD) (d:Int×Int) (B:List Bool) (i k:Nat):Prop:=∃x y,m[i]?=some x/\m[k]?=some y/\(y.1.dot=d\/B[k]?=some true)/\vhas y.2 x.1.dot
theorem FixS.step {m:List EvD} {n:Int} (hg:chkG m n=0) {d:Int×Int} {B:List Bool} (s:FixS m d B) {i k:Nat} (ht:Q9a m d B i k):FixS m d (B.set i true):=by
 obtain ⟨_,_,_,hA,_⟩:=ZEf hg
 obtain ⟨_,_,hA3⟩:=Js7 hA
 have hV:=qOn hg
 refine ⟨by rw[List.length_set];exact s.len,fun j hj=>?_⟩
 rw[List.getElem?_set]at hj
 split at hj
 ·rename_i q
  subst q
  obtain ⟨x,y,h1,h2,h3,h4⟩:=ht
  refine ⟨x,h1,?_⟩
  have hy:=List.mem_of_getElem? h2
  have hdy:=QEz hA3 hy
  rcases h3 with rfl|h3
  ·rw[hdy];exact h4
  ·obtain ⟨y',q1,q2⟩:=s.ok k h3
   rw[h2]at q1
   cases q1
   have:=(hV.low d _ q2).1
   rw[hdy]at this
   exact KYy this h4
 ·exact s.ok j hj
theorem FixS.fin {m:List EvD} {n:Int} (hg:chkG m n=0) {d:Int×Int} {B:List Bool} (s:FixS m d B) (hd:∃e∈m,e.1.dot=d) (hc:∀i,i<m.length->B[i]?=some true\/∀k,¬Q9a m d B i k):∀(i:Nat) (e:EvD),m[i]?=some e->(B[i]?=some true↔vhas (dpE m d) e.1.dot):=fun i e he=>by
 obtain ⟨_,_,_,hA,_⟩:=ZEf hg
 obtain ⟨_,_,hA3⟩:=Js7 hA
 refine ⟨fun h=>?_,fun h=>?_⟩
 ·obtain ⟨e',q1,q2⟩:=s.ok i h
  rw[he]at q1
  cases q1
  exact q2
 ·rcases hc i (List.getElem?_eq_some_iff.1 he).1 with q|q
  ·exact q
  ·obtain ⟨o,ho,hod⟩:=hd
   obtain ⟨k,hk⟩:=List.mem_iff_getElem?.1 ho
   have:=QEz hA3 ho
   rw[hod]at this
   rw[this]at h
   exact absurd ⟨e,o,he,hk,.inl hod,h⟩ (q k)
def insA (x:Int×Int):List (Int×Int)->List (Int×Int)
 | []=>[x]
 | y::l=>if KH4 y x then y::insA x l else x::y::l
def qyA (m:List EvD) (d:Int×Int):List (Int×Int):=((m.filter fun e=>decide (vhas (dpE m d) e.1.dot)).map (·.1.dot)).foldl (fun l x=>insA x l) []
theorem K4a (x:Int×Int):∀(l:List (Int×Int)) (k:Nat),k<=l.length->(∀j<k,KH4 (l.getD j (0,0)) x)->(k<l.length->¬KH4 (l.getD k (0,0)) x)->insA x l=l.take k++x::l.drop k
 | [],k,_,_,_=>by simp [insA]
 | y::l,0,_,_,h2=>by
  have:¬KH4 y x:=by simpa using h2 (Nat.succ_pos _)
  rw[insA,if_neg this]
  rfl
 | y::l,k+1,hk,h1,h2=>by
  have:KH4 y x:=by simpa using h1 0 (Nat.succ_pos _)
  rw[insA,if_pos this,K4a x l k (by simpa using hk) (fun j hj=>by simpa using h1 (j+1) (by omega)) (fun q=>by simpa using h2 (by simpa using q))]
  rfl
theorem Zt2 (x:Int×Int):∀l,(insA x l).length=l.length+1
 | []=>rfl
 | y::l=>by
  rw[insA]
  split
  ·rw[List.length_cons,Zt2 x l,List.length_cons]
  ·rfl
def outR (m:List EvD) (d:Int×Int) (i:Nat):List (Int×Int):=(((m.take i).filter fun e=>decide (vhas (dpE m d) e.1.dot)).map (·.1.dot)).foldl (fun l x=>insA x l) []
theorem ZjA {m:List EvD} {d:Int×Int} {i:Nat} {e:EvD} (h:m[i]?=some e):outR m d (i+1)=if vhas (dpE m d) e.1.dot then insA e.1.dot (outR m d i) else outR m d i:=by
 have hi:=(List.getElem?_eq_some_iff.1 h).1
 have he:m[i]=e:=(List.getElem?_eq_some_iff.1 h).2
 unfold outR
 rw[List.take_succ_eq_append_getElem hi,he,List.filter_append,List.map_append,List.foldl_append,List.filter_cons]
 by_cases q:vhas (dpE m d) e.1.dot
 ·rw[if_pos (decide_eq_true q),if_pos q];rfl
 ·rw[if_neg (by simpa using q),if_neg q];rfl
theorem JGG (m:List EvD) (d:Int×Int):∀i,i<=m.length->(outR m d i).length<=i
 | 0,_=>by simp [outR]
 | i+1,h=>by
  have ih:=JGG m d i (by omega)
  rw[ZjA (List.getElem?_eq_getElem (by omega))]
  split
  ·rw[Zt2];omega
  ·omega
theorem J2u {h:List AB} (L:List AB) (k n m sz by_:Nat) (fl mu:Bool) (xs ys:List AV) (hb:L[k]?=some (.blk fl mu xs)) (hx:xs.length=n*sz) (hm:m≠0) (h1:(n+m)*by_<=140737488355328) (h2:n+m<=maxLen) :
  appW (h++L) fl sz by_ (.sl (h.length+k) 0 n n none) m ys=some (.sl (h.length+L.length) 0 (n+m) (n+m) (some sz),h++(L++[.blk fl true (xs++ys)])):=by
 unfold appW
 dsimp only
 rw[if_neg hm,if_neg (by omega),qu4,hb]
 simp only[true_and,Nat.zero_add,hx,Nat.le_refl,h1,h2,and_self,if_true,List.drop_zero,List.length_append]
 rw[List.take_of_length_le (by omega),List.append_assoc]
open Classical in
noncomputable def Qmn:List AV->List AB->Option (AV×List AB)
 | [s,.i .i64 n,.ag [.i .i64 a,.i .i64 b]],h=>(YgZ h s).bind fun m=>if (∀e∈m,e.1.repo.length<=1000000/\e.1.tag.length<=1000000)/\s.capOk=true/\m.length<=1000 then
   some (if chkG m n≠0 then (.tu [.ns,.i .i64 (chkG m n)],h) else if (∀e∈m,e.1.dot≠(a,b)) then (.tu [.ns,.i .i64 26],h) else (.tu [apS dotR (h.length+0) (qyA m (a,b)),.i .i64 0],h++[resB dotR true (qyA m (a,b))])) else none
 | _,_=>none
theorem zeM:Spec Tryz.prog 34 Qmn:=by
 intro args h v h' e
 unfold Qmn at e
 split at e
 ·rename_i s n a b
  obtain ⟨m,hs,e⟩:=KdM e
  split at e
  case isFalse=>cases e
  rename_i hcc
  obtain ⟨hc,hcap,hml⟩:=hcc
  rw[Option.some.injEq]at e
  have tc:∀ {h:List AB} (hs:RdEv h s m) L,QmY [s,.i .i64 n] (h++L)=some (.i .i64 (chkG m n),h++L):=fun hs L=>by
   show (YgZ _ _).bind _=_
   rw[(hs.app L).get,Option.bind_some]
   exact if_pos ⟨hc,hcap,by omega⟩
  by_cases hg:chkG m n≠0
  ·rw[if_pos hg,Prod.mk.injEq]at e
   obtain ⟨rfl,rfl⟩:=e
   refine FnAt.c (FnAt.run (by kernel_rfl) (T:=⟨[⟨17,QmY,fun _=>[]⟩],[]⟩) ⟨⟨QBz,trivial⟩,trivial⟩ Tryz.func34 sw34 fun ho hh=>?_)
   have tc':=tc hs
   have hg':=eq_false hg
   unfold w34
   have hg2:(chkG m n=0)=False:=eq_false hg
   simp only[QhU,YqB,z16,KHD,Xq6,if_true,if_false,↓reduceIte,Nat.reduceAdd,Nat.reduceSub,Nat.reduceLeDiff,Nat.reduceEqDiff,Nat.reduceMul,Nat.reduceLT,Int.reduceLT,Int.reduceLE,Int.reduceEq,CO.tmps,Opd.tmps,optT,Nat.reducePow,Nat.reduceDiv,Nat.reduceMod,tc',hg2,oD,ne_eq,forall_const]
   exact Bt.drop _ hh rfl rfl
  rw[if_neg hg]at e
  have hg0:chkG m n=0:=Decidable.byContradiction hg
  have th:∀ {h:List AB} (hs:RdEv h s m) L,zQi [s,.ag [.i .i64 a,.i .i64 b]] (h++L)=some (.b (decide ((a,b)∈m.map (·.1.dot))),h++L):=fun hs L=>by
   show (getS evR _ _).bind _=_
   rw[(hs.s.app L).get,Option.bind_some,List.map_map]
   rfl
  by_cases hd:∀e∈m,e.1.dot≠(a,b)
  ·rw[if_pos hd,Prod.mk.injEq]at e
   obtain ⟨rfl,rfl⟩:=e
   refine FnAt.c (FnAt.run (by kernel_rfl) (T:=⟨[⟨17,QmY,fun _=>[]⟩,⟨69,zQi,fun _=>[]⟩],[]⟩) ⟨⟨QBz,Xbe,trivial⟩,trivial⟩ Tryz.func34 sw34 fun ho hh=>?_)
   have tc':=tc hs
   have th':=th hs
   have hg2:(chkG m n=0)=True:=eq_true hg0
   have hn:((a,b)∈m.map (·.1.dot))=False:=eq_false fun z=>by
    obtain ⟨e,he,q⟩:=List.mem_map.1 z
    exact hd e he q
   unfold w34
   simp only[QhU,YqB,z16,KHD,Xq6,if_true,if_false,↓reduceIte,Nat.reduceAdd,Nat.reduceSub,Nat.reduceLeDiff,Nat.reduceEqDiff,Nat.reduceMul,Nat.reduceLT,Int.reduceLT,Int.reduceLE,Int.reduceEq,CO.tmps,Opd.tmps,optT,Nat.reducePow,Nat.reduceDiv,Nat.reduceMod,tc',th',hg2,hn,XJx,oD,ne_eq,forall_const]
   exact Bt.drop _ hh rfl rfl
  rw[if_neg hd,Prod.mk.injEq]at e
  obtain ⟨rfl,rfl⟩:=e
  have hd':∃e∈m,e.1.dot=(a,b):=by
   refine Classical.byContradiction fun z=>hd fun e he q=>z ⟨e,he,q⟩
  clear hd hg
  refine FnAt.c (FnAt.frz fun hz=>?_)
  have hsz:=hs.frz
  clear hs
  rw[show h.length=(h.map AB.freeze).length from (List.length_map _).symm]
  generalize h.map AB.freeze=h at *
  refine FnAt.run (by kernel_rfl) (T:=⟨[⟨17,QmY,fun _=>[]⟩,⟨69,zQi,fun _=>[]⟩,⟨84,qY8,fun _=>[]⟩,⟨91,YHJ,fun _=>[]⟩],[]⟩) ⟨⟨QBz,Xbe,ZyN,QVa,trivial⟩,trivial⟩ Tryz.func34 sw34 fun ho hh=>?_
  simp only[XDA,Bool.and_eq_true]at ho
  have f1:=hsz.s.fx ho.1 (sz:=39) rfl
  have hlm:(m.map (·.1)).length=m.length:=List.length_map _
  rw[hlm]at f1
  have so:∀c,s.ok (fun i=>decide (i<h.length+c))=true:=fun c=>AV.ok_mono (fun i q=>by simp only[decide_eq_true_eq]at q ⊢;omega) s ho.1
  have sr:∀sel,Wk (s.ren (selN h.length sel)) s:=fun sel=>Wk.ren (fun i hi=>ZiE hi) ho.1
  have tc':=tc hsz
  have th':=th hsz
  have hg2:(chkG m n=0)=True:=eq_true hg0
  have hn:((a,b)∈m.map (·.1.dot))=True:=eq_true (by
   obtain ⟨e,he,q⟩:=hd'
   exact List.mem_map.2 ⟨e,he,q⟩)
  have mk:(0<=(m.length:Int)/\(m.length:Int)<=(m.length:Int)/\((1:Nat):Int)*(m.length:Int)<=2 ^ 47/\(m.length:Int)<=(maxLen:Nat))=True:=eq_true ⟨by omega,by omega,by omega,by unfold maxLen;omega⟩
  unfold w34
  simp only[QhU,YqB,z16,KHD,Xq6,if_true,if_false,↓reduceIte,Nat.reduceAdd,Nat.reduceSub,Nat.reduceLeDiff,Nat.reduceEqDiff,Nat.reduceMul,Nat.reduceLT,Int.reduceLT,Int.reduceLE,Int.reduceEq,CO.tmps,Opd.tmps,optT,Nat.reducePow,Nat.reduceDiv,Nat.reduceMod,tc',th',hg2,hn,f1,XJx,oD,ne_eq,forall_const]
  have mk1:(m.length<=m.length/\1*(m.length:Int)<=2 ^ 47/\m.length<=maxLen)=True:=eq_true ⟨Nat.le_refl _,by omega,by unfold maxLen;omega⟩
  have mk2:(List.replicate m.length [AV.b false]).flatten=bolR.cells (List.replicate m.length false):=XvR bolR m.length false
  have mk3:(bolR.cells (List.replicate m.length false)).all (wrOk true)=true:=by
   rw[XTx,List.all_map]
   exact List.all_eq_true.2 fun x _=>rfl
  simp only[QhU,YqB,z16,KHD,Xq6,if_true,if_false,↓reduceIte,Nat.reduceAdd,Nat.reduceSub,Nat.reduceLeDiff,Nat.reduceEqDiff,Nat.reduceMul,Nat.reduceLT,Int.reduceLT,Int.reduceLE,Int.reduceEq,CO.tmps,Opd.tmps,optT,Nat.reducePow,Nat.reduceDiv,Nat.reduceMod,mk1,mk2,mk3,oD,ne_eq,forall_const]
  obtain ⟨isA,hisA⟩:∃x,AV.sl (h.length+1) 0 m.length m.length none=x:=⟨_,rfl⟩
  have iA:∀t:Int,iadV 1 (.sl (h.length+1) 0 m.length m.length none) (.i .i64 t)=if 0<=t/\t<(m.length:Int) then some (elP 1 (.sl (h.length+1) 0 m.length m.length none) t.toNat 0) else none:=fun t=>XCX ..
  have ldB:∀(B:List Bool) (i:Nat) (x:Bool) X b' z,B[i]?=some x->ldV (h++(X::.blk true b' (bolR.cells B)::z)) none (elP 1 (.sl (h.length+1) 0 m.length m.length none) i 0)=some (.b x):=fun B i x X b' z hx=>by
   simp only[elP,ldV]
   have:ZMh (h++(X::.blk true b' (bolR.cells B)::z)) (h.length+1)=some (bolR.cells B):=by
    unfold ZMh
    rw[qu4]
    rfl
   rw[this,Option.bind_some,show 0+i*1+0=i by omega,QKj,hx]
   rfl
  have stB:∀(B:List Bool) (i:Nat) X z,i<B.length->stV (h++(X::.blk true true (bolR.cells B)::z)) none (elP 1 (.sl (h.length+1) 0 m.length m.length none) i 0) (.b true)=some (h++(X::.blk true true (bolR.cells (B.set i true))::z)):=fun B i X z hi=>by
   simp only[elP,stV]
   rw[if_pos (show (AV.b true).one=true from rfl)]
   unfold stB
   rw[qu4]
   dsimp only[List.getElem?_cons_succ,List.getElem?_cons_zero]
   rw[if_pos ⟨by rw[QCL,List.length_singleton];omega,rfl⟩,show 0+i*1+0=i by omega,Q0o B true hi,Yie]
   rfl
  have eo:∀j (q:Nat->Bool),(elP 1 (.sl (h.length+1) 0 m.length m.length none) j 0).ok q=q (h.length+1):=fun j q=>by simp [elP,AV.ok]
  have ei:∀j,idOf (elP 1 (.sl (h.length+1) 0 m.length m.length none) j 0)=[h.length+1]:=fun j=>rfl
  refine q2X (S:=Bool×List Bool) (fun σ=>2*cntF σ.2+(if σ.1=true then 1 else 0)) (fun σ=>[s]++tp 4++[.p (h.length+0) 0]++tp 3++[.sl (h.length+1) 0 m.length m.length none,.b σ.1]++tp 112) (fun σ=>h++[.blk true true [.i .i64 a,.i .i64 b],.blk true true (bolR.cells σ.2)]) (fun σ=>FixS m (a,b) σ.2/\(σ.1=false->∀i,i<m.length->σ.2[i]?=some true\/∀k,¬Q9a m (a,b) σ.2 i k)) (true,List.replicate m.length false) ⟨⟨by simp,fun i hi=>by rw[List.getElem?_replicate]at hi;split at hi <;> cases hi⟩,fun z=>by cases z⟩ ?_ fun σ hσ=>?_
  ·refine Bt.wk ?_
   simp only[z16,Xq6,if_true,if_false,reduceIte,Nat.reduceAdd,Nat.reduceSub,Nat.reduceLeDiff,Nat.reduceEqDiff,Nat.reduceMul,Nat.reduceLT,Int.reduceLT,Int.reduceLE,Int.reduceEq]
  obtain ⟨more,B0⟩:=σ
  obtain ⟨hF0,hcl⟩:=hσ
  dsimp only at hF0 hcl ⊢
  cases more with
  | false =>
   have hfin:=hF0.fin hg0 hd' (hcl rfl)
   simp only[QhU,YqB,z16,KHD,Xq6,if_true,if_false,↓reduceIte,Nat.reduceAdd,Nat.reduceSub,Nat.reduceLeDiff,Nat.reduceEqDiff,Nat.reduceMul,Nat.reduceLT,Int.reduceLT,Int.reduceLE,Int.reduceEq,CO.tmps,Opd.tmps,optT,Nat.reducePow,Nat.reduceDiv,Nat.reduceMod,oD,ne_eq,forall_const]
   have hpR:qyA m (a,b)=outR m (a,b) m.length:=by unfold qyA outR;rw[List.take_length]
   rw[hpR]
   refine q2X (S:=Nat) (fun i=>m.length-i) (fun i=>[s]++tp 8++[.sl (h.length+1) 0 m.length m.length none]++tp 3++[apS dotR (h.length+2) (outR m (a,b) i),.i .i64 (i:Int)]++tp 108) (fun i=>h++[.blk true true [.i .i64 a,.i .i64 b],.blk true true (bolR.cells B0),resB dotR true (outR m (a,b) i)]) (fun i=>i<=m.length) 0 (Nat.zero_le _) ?_ fun i hi=>?_
   ·show Bt _ _ _ _ _ (h++([.blk true true [.i .i64 a,.i .i64 b],.blk true true (bolR.cells B0)]++List.replicate 1 .dead))
    rw[<-List.append_assoc]
    refine Bt.trans (Bt.wk ?_) (Bt.pad _ _ 1)
    show WkL ([s]++tp 8++[.sl (h.length+1) 0 m.length m.length none]++tp 3++[.ns,.i .i64 ((0:Nat):Int)]++tp 108) _
    simp only[z16,Xq6,if_true,if_false,reduceIte,Nat.reduceAdd,Nat.reduceSub,Nat.reduceLeDiff,Nat.reduceEqDiff,Nat.reduceMul,Nat.reduceLT,Int.reduceLT,Int.reduceLE,Int.reduceEq]
   by_cases g:i<m.length
   ·have g':((i:Int)<(m.length:Int))=True:=eq_true (by omega)
    have gz:((0:Int)<=(i:Int)/\(i:Int)<(m.length:Int))=True:=eq_true (by omega)
    have gi:=eq_true g
    have e1:IntKind.i64.wrap ((i:Int)+1)=((i+1:Nat):Int):=ZWm (by unfold In64;omega)
    obtain ⟨x,hx⟩:∃x,m[i]?=some x:=⟨_,List.getElem?_eq_getElem g⟩
    have hgx:(m.map (·.1)).getD i evR.d=x.1:=by rw[List.getD_eq_getElem?_getD,List.getElem?_map,hx];rfl
    have ldp:∀L,ldV (h++L) (some 2) (elP 39 s i 0)=some (.ag [.i .i64 x.1.dot.1,.i .i64 x.1.dot.2]):=fun L=>by
     rw[ZRI (hsz.s.app L) (sz:=39) rfl i 0 2 (by rw[hlm];exact g) (by decide),hgx]
     rfl
    obtain ⟨bi,hbi⟩:∃bi,B0[i]?=some bi:=⟨_,List.getElem?_eq_getElem (by have:=hF0.len;omega)⟩
    have lbi:=fun X b' z=>ldB B0 i bi X b' z hbi
    have hfi:=hfin i x hx
    have hos:=ZjA (d:=(a,b)) hx
    have hol:=JGG m (a,b) i hi
    rw[hbi,Option.some.injEq]at hfi
    obtain ⟨o,ho2⟩:∃o,outR m (a,b) i=o:=⟨_,rfl⟩
    rw[ho2]at hos hol ⊢
    cases bi with
    | false =>
     have hno:¬vhas (dpE m (a,b)) x.1.dot:=fun z=>by have:=hfi.2 z;cases this
     rw[if_neg hno]at hos
     simp only[QhU,YqB,z16,KHD,Xq6,if_true,if_false,↓reduceIte,Nat.reduceAdd,Nat.reduceSub,Nat.reduceLeDiff,Nat.reduceEqDiff,Nat.reduceMul,Nat.reduceLT,Int.reduceLT,Int.reduceLE,Int.reduceEq,CO.tmps,Opd.tmps,optT,Nat.reducePow,Nat.reduceDiv,Nat.reduceMod,f1,iA,lbi,gz,gi,g',e1,Int.toNat_natCast,Option.bind_some,Option.map_some,if_true,oD,ne_eq,forall_const]
     refine ⟨i+1,g,by dsimp only;omega,?_⟩
     dsimp only
     rw[hos]
     refine Bt.wk ?_
     simp only[z16,Xq6,if_true,if_false,reduceIte,Nat.reduceAdd,Nat.reduceSub,Nat.reduceLeDiff,Nat.reduceEqDiff,Nat.reduceMul,Nat.reduceLT,Int.reduceLT,Int.reduceLE,Int.reduceEq]
    | true =>
     rw[if_pos (hfi.1 rfl)]at hos
     have rest:∀k,k<=o.length->(∀j<k,KH4 (o.getD j (0,0)) x.1.dot)->(k<o.length->¬KH4 (o.getD k (0,0)) x.1.dot)->outR m (a,b) (i+1)=o.take k++x.1.dot::o.drop k:=fun k h1 h2 h3=>by rw[hos,K4a x.1.dot o k h1 h2 h3]
     simp only[QhU,YqB,z16,KHD,Xq6,if_true,if_false,↓reduceIte,Nat.reduceAdd,Nat.reduceSub,Nat.reduceLeDiff,Nat.reduceEqDiff,Nat.reduceMul,Nat.reduceLT,Int.reduceLT,Int.reduceLE,Int.reduceEq,CO.tmps,Opd.tmps,optT,Nat.reducePow,Nat.reduceDiv,Nat.reduceMod,f1,iA,lbi,gz,gi,g',e1,Int.toNat_natCast,Option.bind_some,Option.map_some,if_true,oD,ne_eq,forall_const]
     refine q2X (S:=Nat) (fun k=>o.length-k) (fun k=>[s]++tp 8++[.sl (h.length+1) 0 m.length m.length none]++tp 3++[apS dotR (h.length+2) o,.i .i64 (i:Int),.i .i64 (k:Int)]++tp 107) (fun _=>h++[.blk true true [.i .i64 a,.i .i64 b],.blk true true (bolR.cells B0),resB dotR true o]) (fun k=>k<=o.length/\∀j<k,KH4 (o.getD j (0,0)) x.1.dot) 0 ⟨Nat.zero_le _,fun j hj=>absurd hj (Nat.not_lt_zero _)⟩ ?_ fun k hk=>?_
     ·refine Bt.wk ?_
      simp only[z16,Xq6,if_true,if_false,reduceIte,Nat.reduceAdd,Nat.reduceSub,Nat.reduceLeDiff,Nat.reduceEqDiff,Nat.reduceMul,Nat.reduceLT,Int.reduceLT,Int.reduceLE,Int.reduceEq]
     obtain ⟨hk1,hk2⟩:=hk
     by_cases g2:k<o.length
     ·have hn0:o.length≠0:=by omega
      have gk:((k:Int)<(o.length:Int))=True:=eq_true (by omega)
      have gkz:((0:Int)<=(k:Int)/\(k:Int)<(o.length:Int))=True:=eq_true (by omega)
      have gki:=eq_true g2
      have e2:IntKind.i64.wrap ((k:Int)+1)=((k+1:Nat):Int):=ZWm (by unfold In64;omega)
      have gs:∀id,apS dotR id o=.sl id 0 o.length o.length (some 2):=fun id=>by unfold apS;rw[if_neg hn0];rfl
      have rB:∀b,resB dotR b o=.blk true b (dotR.cells o):=fun b=>by unfold resB;rw[if_neg hn0]
      have kl:(dotR.cells o).length=o.length*2:=dotR.cells_len o
      obtain ⟨y,hy⟩:∃y,o.getD k (0,0)=y:=⟨_,rfl⟩
      have iO:∀(id:Nat) (t:Int),iadV 2 (.sl id 0 o.length o.length (some 2)) (.i .i64 t)=if 0<=t/\t<(o.length:Int) then some (elP 2 (.sl id 0 o.length o.length (some 2)) t.toNat 0) else none:=fun id t=>XCX ..
      have ldo:∀b X Y z,ldV (h++(X::Y::.blk true b (dotR.cells o)::z)) (some 2) (elP 2 (.sl (h.length+2) 0 o.length o.length (some 2)) k 0)=some (.ag [.i .i64 y.1,.i .i64 y.2]):=fun b X Y z=>by
       have r0:Rd dotR (h++(X::Y::.blk true b (dotR.cells o)::z)) (.sl (h.length+2) 0 o.length o.length (some 2)) o:=by
        have:=YgJ (r:=dotR) (H:=h++(X::Y::.blk true b (dotR.cells o)::z)) (id:=h.length+2) (m:=b) (l:=o) (by rw[qu4,rB b];rfl) (by unfold maxLen;omega)
        rwa [gs]at this
       have:=r0.lda k g2
       rw[show o.getD k dotR.d=y from hy]at this
       exact this
      have lO:∀id,lenV (.sl id 0 o.length o.length (some 2))=some (o.length:Int):=fun _=>rfl
      have eo2:∀j (q:Nat->Bool) id,(elP 2 (.sl id 0 o.length o.length (some 2)) j 0).ok q=q id:=fun j q id=>by simp [elP,AV.ok]
      have ei2:∀j id,idOf (elP 2 (.sl id 0 o.length o.length (some 2)) j 0)=[id]:=fun j id=>rfl
      rcases emG (KH4 (y.1,y.2) (x.1.dot.1,x.1.dot.2)) with q|q
      ·simp only[QhU,YqB,z16,KHD,Xq6,if_true,if_false,↓reduceIte,Nat.reduceAdd,Nat.reduceSub,Nat.reduceLeDiff,Nat.reduceEqDiff,Nat.reduceMul,Nat.reduceLT,Int.reduceLT,Int.reduceLE,Int.reduceEq,CO.tmps,Opd.tmps,optT,Nat.reducePow,Nat.reduceDiv,Nat.reduceMod,f1,gz,gi,g',e1,ldp,gs,rB,lO,kl,gk,gkz,gki,e2,iO,ldo,eo2,ei2,q,YHJ,oW hh hz,Int.toNat_natCast,Option.bind_some,Option.map_some,if_true,if_false,oD,ne_eq,forall_const]
       refine ⟨k+1,⟨g2,fun j hj=>?_⟩,by dsimp only;omega,?_⟩
       ·rcases Nat.lt_or_ge j k with z|z
        ·exact hk2 j z
        ·rw[show j=k by omega,hy]
         exact of_eq_true q
       ·refine Bt.wk ?_
        simp only[z16,Xq6,if_true,if_false,reduceIte,Nat.reduceAdd,Nat.reduceSub,Nat.reduceLeDiff,Nat.reduceEqDiff,Nat.reduceMul,Nat.reduceLT,Int.reduceLT,Int.reduceLE,Int.reduceEq]
      ·have hnew:=rest k hk1 hk2 fun _=>by rw[hy];exact of_eq_false q
       have s1:∀id,slL 2 (.sl id 0 o.length o.length (some 2)) none (some (.i .i64 (k:Int))) none=some (.sl id 0 k o.length (some 2)):=fun id=>XH0 hk1
       have s2:∀id,slL 2 (.sl id 0 o.length o.length (some 2)) (some (.i .i64 (k:Int))) none none=some (.sl id (0+k*2) (o.length-k) (o.length-k) (some 2)):=fun id=>Y7I g2 (by decide)
       have n0:(o.length-k=0)=False:=eq_false (by omega)
       have w1:(k*2+(o.length-k)*2<=o.length*2)=True:=eq_true (by omega)
       have cd:(dotR.cells o).drop (k*2)=dotR.cells (o.drop k):=dotR.cells_drop o k
       have kd:(dotR.cells (o.drop k)).length=(o.length-k)*2:=by rw[dotR.cells_len,List.length_drop];rfl
       have tk2:(dotR.cells (o.drop k)).take ((o.length-k)*2)=dotR.cells (o.drop k):=List.take_of_length_le (by rw[kd];exact Nat.le_refl _)
       have ap1:∀X Y O b z,appW (h++(X::Y::O::.blk true b [.i .i64 x.1.dot.1,.i .i64 x.1.dot.2]::z)) true 2 16 (.sl (h.length+3) 0 1 1 none) (o.length-k) (dotR.cells (o.drop k))=some (.sl (h.length+(X::Y::O::.blk true b [.i .i64 x.1.dot.1,.i .i64 x.1.dot.2]::z).length) 0 (1+(o.length-k)) (1+(o.length-k)) (some 2),h++(X::Y::O::.blk true b [.i .i64 x.1.dot.1,.i .i64 x.1.dot.2]::(z++[.blk true true ([.i .i64 x.1.dot.1,.i .i64 x.1.dot.2]++dotR.cells (o.drop k))]))):=fun X Y O b z=>J2u (h:=h) (X::Y::O::.blk true b [.i .i64 x.1.dot.1,.i .i64 x.1.dot.2]::z) 3 1 (o.length-k) 2 16 true b _ _ rfl rfl (by omega) (by omega) (by unfold maxLen;omega)
       have ap2:∀X Y z ys,appW (h++(X::Y::.blk true true (dotR.cells o)::z)) true 2 16 (.sl (h.length+2) 0 k o.length (some 2)) (1+(o.length-k)) ys=some (.sl (h.length+(X::Y::AB.dead::z).length) 0 (k+(1+(o.length-k))) (k+(1+(o.length-k))) (some 2),h++(X::Y::.dead::(z++[.blk true true (dotR.cells (o.take k)++ys)]))):=fun X Y z ys=>by
        have:=zry (h:=h) (X::Y::.blk true true (dotR.cells o)::z) 2 k o.length (1+(o.length-k)) 2 16 true (dotR.cells o) ys rfl kl (by decide) hk1 (by omega) (by omega) (by unfold maxLen;omega)
        rw[show (dotR.cells o).take (k*2)=dotR.cells (o.take k) from dotR.cells_take o k]at this
        exact this
       have z1:(1+(o.length-k)=0)=False:=eq_false (by omega)
       have z2:((1+(o.length-k))*2<=(o.length-k)*2+2)=True:=eq_true (by omega)
       have tk3:∀a b:AV,List.take ((1+(o.length-k))*2) (a::b::dotR.cells (o.drop k))=a::b::dotR.cells (o.drop k):=fun a b=>List.take_of_length_le (by rw[List.length_cons,List.length_cons,kd];omega)
       simp only[QhU,YqB,z16,KHD,Xq6,if_true,if_false,↓reduceIte,Nat.reduceAdd,Nat.reduceSub,Nat.reduceLeDiff,Nat.reduceEqDiff,Nat.reduceMul,Nat.reduceLT,Int.reduceLT,Int.reduceLE,Int.reduceEq,CO.tmps,Opd.tmps,optT,Nat.reducePow,Nat.reduceDiv,Nat.reduceMod,f1,gz,gi,g',e1,ldp,gs,rB,lO,kl,gk,gkz,gki,e2,iO,ldo,eo2,ei2,q,s1,s2,n0,w1,cd,kd,tk2,z1,z2,tk3,ap1,ap2,Nat.zero_add,Nat.le_refl,YHJ,oW hh hz,Int.toNat_natCast,Option.bind_some,Option.map_some,if_true,if_false,oD,ne_eq,forall_const]
       refine ⟨i+1,g,by dsimp only;omega,?_⟩
       dsimp only
       have hnl:(o.take k++x.1.dot::o.drop k).length=o.length+1:=by rw[List.length_append,List.length_cons,List.length_take,List.length_drop];omega
       have hap:∀n,n=o.length+1->AV.sl (h.length+5) 0 n n (some 2)=apS dotR (h.length+5) (o.take k++x.1.dot::o.drop k):=fun n hn=>by
        unfold apS
        rw[hnl,if_neg (by omega),hn]
        rfl
       have rB2:resB dotR true (o.take k++x.1.dot::o.drop k)=.blk true true (dotR.cells (o.take k)++(.i .i64 x.1.dot.1::.i .i64 x.1.dot.2::dotR.cells (o.drop k))):=by
        unfold resB
        rw[hnl,if_neg (by omega)]
        simp [Row.cells,zBU]
       have ao:(apS dotR (h.length+2) (o.take k++x.1.dot::o.drop k)).ok (fun i=>decide (i<h.length+3))=true:=Yv9 _ _ _ (by simp)
       rw[hnew,rB2,hap _ (by omega)]
       exact Bt.sel [0,1,5] hh (by decide) (by simp only[KlC,FrSel,BlkSel,AV.ren,renL,AV.ok,okL,Option.some.injEq,exists_eq_left',List.length_cons,List.length_nil,Nat.reduceAdd,Nat.reduceLT,reduceCtorEq,implies_true,exists_eq']) (by simp only[tp_0,tp_s,List.cons_append,List.nil_append,KlC,FrSel,BlkSel,AV.ren,renL,AV.ok,okL,Option.some.injEq,exists_eq_left',List.length_cons,List.length_nil,Nat.reduceAdd,Nat.reduceLT,reduceCtorEq,implies_true,exists_eq',ho.1,so,sr,ao])
     ·have hkn:k=o.length:=by omega
      have hnew:=rest k hk1 hk2 fun z=>absurd z g2
      rw[List.take_of_length_le (by omega),List.drop_eq_nil_of_le (by omega)]at hnew
      have am0:∀H id off n c k ys,appW H true 2 16 (.sl id off n c k) 0 ys=some (.sl id off n c k,H):=fun H id off n c k ys=>by unfold appW;dsimp only;rw[if_pos rfl]
      have hnl:(o++[x.1.dot]).length=o.length+1:=by rw[List.length_append];rfl
      have hap:∀n,n=o.length+1->AV.sl (h.length+4) 0 n n (some 2)=apS dotR (h.length+4) (o++[x.1.dot]):=fun n hn=>by
       unfold apS
       rw[hnl,if_neg (by omega),hn]
       rfl
      have rB2:resB dotR true (o++[x.1.dot])=.blk true true (dotR.cells o++[.i .i64 x.1.dot.1,.i .i64 x.1.dot.2]):=by
       unfold resB
       rw[hnl,if_neg (by omega)]
       simp [Row.cells,zBU]
      have ao:(apS dotR (h.length+2) (o++[x.1.dot])).ok (fun i=>decide (i<h.length+3))=true:=Yv9 _ _ _ (by simp)
      by_cases o0:o=[]
      ·have a0:∀id,apS dotR id o=.ns:=fun id=>by rw[o0];rfl
       have rN:∀b,resB dotR b o=.dead:=fun b=>by rw[o0];rfl
       have ol0:o.length=0:=by rw[o0];rfl
       have z0:((k:Int)<0)=False:=eq_false (by omega)
       have k0:k=0:=by omega
       have s1:slL 2 .ns none (some (.i .i64 (k:Int))) none=some .ns:=by rw[k0];simp [slL,bnd]
       have s2:slL 2 .ns (some (.i .i64 (k:Int))) none none=some .ns:=by rw[k0];simp [slL,bnd]
       have q2:∀H,srcV H 2 .ns=some (0,[]):=fun H=>rfl
       have z3:(1<=maxLen)=True:=eq_true (by unfold maxLen;omega)
       simp only[QhU,YqB,z16,KHD,Xq6,if_true,if_false,↓reduceIte,Nat.reduceAdd,Nat.reduceSub,Nat.reduceLeDiff,Nat.reduceEqDiff,Nat.reduceMul,Nat.reduceLT,Int.reduceLT,Int.reduceLE,Int.reduceEq,CO.tmps,Opd.tmps,optT,Nat.reducePow,Nat.reduceDiv,Nat.reduceMod,f1,gz,gi,g',e1,ldp,a0,rN,z0,s1,s2,q2,z3,am0,ZP2,YHJ,oW hh hz,Int.toNat_natCast,Option.bind_some,Option.map_some,if_true,if_false,oD,ne_eq,forall_const]
       refine ⟨i+1,g,by dsimp only;omega,?_⟩
       dsimp only
       rw[hnew,rB2,hap _ (by omega),o0]
       rw[o0]at ao
       exact Bt.sel [0,1,4] hh (by decide) (by simp only[KlC,FrSel,BlkSel,AV.ren,renL,AV.ok,okL,Option.some.injEq,exists_eq_left',List.length_cons,List.length_nil,Nat.reduceAdd,Nat.reduceLT,reduceCtorEq,implies_true,exists_eq',XBP,List.nil_append]) (by simp only[tp_0,tp_s,List.cons_append,List.nil_append,KlC,FrSel,BlkSel,AV.ren,renL,AV.ok,okL,Option.some.injEq,exists_eq_left',List.length_cons,List.length_nil,Nat.reduceAdd,Nat.reduceLT,reduceCtorEq,implies_true,exists_eq',ho.1,so,sr,ao])
      ·have hn0:o.length≠0:=fun z=>o0 (List.eq_nil_of_length_eq_zero z)
       have gk:((k:Int)<(o.length:Int))=False:=eq_false (by omega)
       have gs:∀id,apS dotR id o=.sl id 0 o.length o.length (some 2):=fun id=>by unfold apS;rw[if_neg hn0];rfl
       have rB:∀b,resB dotR b o=.blk true b (dotR.cells o):=fun b=>by unfold resB;rw[if_neg hn0]
       have kl:(dotR.cells o).length=o.length*2:=dotR.cells_len o
       have lO:∀id,lenV (.sl id 0 o.length o.length (some 2))=some (o.length:Int):=fun _=>rfl
       have s1:∀id,slL 2 (.sl id 0 o.length o.length (some 2)) none (some (.i .i64 (k:Int))) none=some (.sl id 0 k o.length (some 2)):=fun id=>XH0 hk1
       have s2:∀id,slL 2 (.sl id 0 o.length o.length (some 2)) (some (.i .i64 (k:Int))) none none=some .se:=fun id=>by rw[hkn];simp [slL,bnd,hn0]
       have q1:∀q,AV.se.ok q=true:=fun q=>by simp [AV.ok]
       have q2:∀H,srcV H 2 .se=some (0,[]):=fun H=>rfl
       have ap2:∀X Y z ys,appW (h++(X::Y::.blk true true (dotR.cells o)::z)) true 2 16 (.sl (h.length+2) 0 k o.length (some 2)) 1 ys=some (.sl (h.length+(X::Y::AB.dead::z).length) 0 (k+1) (k+1) (some 2),h++(X::Y::.dead::(z++[.blk true true (dotR.cells o++ys)]))):=fun X Y z ys=>by
        have:=zry (h:=h) (X::Y::.blk true true (dotR.cells o)::z) 2 k o.length 1 2 16 true (dotR.cells o) ys rfl kl (by decide) hk1 (by omega) (by omega) (by unfold maxLen;omega)
        rw[show (dotR.cells o).take (k*2)=dotR.cells o from List.take_of_length_le (by rw[kl,hkn];exact Nat.le_refl _)]at this
        exact this
       simp only[QhU,YqB,z16,KHD,Xq6,if_true,if_false,↓reduceIte,Nat.reduceAdd,Nat.reduceSub,Nat.reduceLeDiff,Nat.reduceEqDiff,Nat.reduceMul,Nat.reduceLT,Int.reduceLT,Int.reduceLE,Int.reduceEq,CO.tmps,Opd.tmps,optT,Nat.reducePow,Nat.reduceDiv,Nat.reduceMod,f1,gz,gi,g',e1,ldp,gs,rB,lO,kl,gk,s1,s2,q1,q2,am0,ap2,YHJ,oW hh hz,Int.toNat_natCast,Option.bind_some,Option.map_some,if_true,if_false,oD,ne_eq,forall_const]
       refine ⟨i+1,g,by dsimp only;omega,?_⟩
       dsimp only
       rw[hnew,rB2,hap _ (by omega)]
       exact Bt.sel [0,1,4] hh (by decide) (by simp only[KlC,FrSel,BlkSel,AV.ren,renL,AV.ok,okL,Option.some.injEq,exists_eq_left',List.length_cons,List.length_nil,Nat.reduceAdd,Nat.reduceLT,reduceCtorEq,implies_true,exists_eq']) (by simp only[tp_0,tp_s,List.cons_append,List.nil_append,KlC,FrSel,BlkSel,AV.ren,renL,AV.ok,okL,Option.some.injEq,exists_eq_left',List.length_cons,List.length_nil,Nat.reduceAdd,Nat.reduceLT,reduceCtorEq,implies_true,exists_eq',ho.1,so,sr,ao])
   ·have g':((i:Int)<(m.length:Int))=False:=eq_false (by omega)
    have hiM:i=m.length:=by omega
    subst hiM
    simp only[QhU,YqB,z16,KHD,Xq6,if_true,if_false,↓reduceIte,Nat.reduceAdd,Nat.reduceSub,Nat.reduceLeDiff,Nat.reduceEqDiff,Nat.reduceMul,Nat.reduceLT,Int.reduceLT,Int.reduceLE,Int.reduceEq,CO.tmps,Opd.tmps,optT,Nat.reducePow,Nat.reduceDiv,Nat.reduceMod,f1,g',oD,ne_eq,forall_const]
    have ao:(apS dotR h.length (outR m (a,b) m.length)).ok (fun i=>decide (i<h.length+1))=true:=Yv9 _ _ _ (by simp)
    exact Bt.sel [2] hh (by decide) (by simp only[KlC,FrSel,BlkSel,AV.ren,renL,AV.ok,okL,Option.some.injEq,exists_eq_left',List.length_cons,List.length_nil,Nat.reduceAdd,Nat.reduceLT,reduceCtorEq,implies_true,exists_eq']) (by simp only[KlC,FrSel,BlkSel,AV.ren,renL,AV.ok,okL,Option.some.injEq,exists_eq_left',List.length_cons,List.length_nil,Nat.reduceAdd,Nat.reduceLT,reduceCtorEq,implies_true,exists_eq',ao])
  | true =>
   simp only[QhU,YqB,z16,KHD,Xq6,if_true,if_false,↓reduceIte,Nat.reduceAdd,Nat.reduceSub,Nat.reduceLeDiff,Nat.reduceEqDiff,Nat.reduceMul,Nat.reduceLT,Int.reduceLT,Int.reduceLE,Int.reduceEq,CO.tmps,Opd.tmps,optT,Nat.reducePow,Nat.reduceDiv,Nat.reduceMod,oD,ne_eq,forall_const]
   refine q2X (S:=Nat×Bool×List Bool) (fun σ=>m.length-σ.1) (fun σ=>[s]++tp 4++[.p (h.length+0) 0]++tp 3++[.sl (h.length+1) 0 m.length m.length none,.b σ.2.1,.i .i64 (σ.1:Int)]++tp 111) (fun σ=>h++[.blk true true [.i .i64 a,.i .i64 b],.blk true true (bolR.cells σ.2.2)]) (fun σ=>σ.1<=m.length/\FixS m (a,b) σ.2.2/\((σ.2.1=false/\σ.2.2=B0/\∀i<σ.1,B0[i]?=some true\/∀k,¬Q9a m (a,b) B0 i k)\/(σ.2.1=true/\cntF σ.2.2<cntF B0))) (0,false,B0) ⟨Nat.zero_le _,hF0,.inl ⟨rfl,rfl,fun i hi=>absurd hi (Nat.not_lt_zero _)⟩⟩ ?_ fun σ hσ=>?_
   ·refine Bt.wk ?_
    simp only[z16,Xq6,if_true,if_false,reduceIte,Nat.reduceAdd,Nat.reduceSub,Nat.reduceLeDiff,Nat.reduceEqDiff,Nat.reduceMul,Nat.reduceLT,Int.reduceLT,Int.reduceLE,Int.reduceEq]
   obtain ⟨i,more1,B1⟩:=σ
   obtain ⟨hi,hF1,hor⟩:=hσ
   dsimp only at hi hF1 hor ⊢
   by_cases g:i<m.length
   ·have g':((i:Int)<(m.length:Int))=True:=eq_true (by omega)
    have gz:((0:Int)<=(i:Int)/\(i:Int)<(m.length:Int))=True:=eq_true (by omega)
    have gi:=eq_true g
    have e1:IntKind.i64.wrap ((i:Int)+1)=((i+1:Nat):Int):=ZWm (by unfold In64;omega)
    obtain ⟨x,hx⟩:∃x,m[i]?=some x:=⟨_,List.getElem?_eq_getElem g⟩
    have hgx:(m.map (·.1)).getD i evR.d=x.1:=by rw[List.getD_eq_getElem?_getD,List.getElem?_map,hx];rfl
    have ldp:∀L,ldV (h++L) (some 2) (elP 39 s i 0)=some (.ag [.i .i64 x.1.dot.1,.i .i64 x.1.dot.2]):=fun L=>by
     rw[ZRI (hsz.s.app L) (sz:=39) rfl i 0 2 (by rw[hlm];exact g) (by decide),hgx]
     rfl
    simp only[QhU,YqB,z16,KHD,Xq6,if_true,if_false,↓reduceIte,Nat.reduceAdd,Nat.reduceSub,Nat.reduceLeDiff,Nat.reduceEqDiff,Nat.reduceMul,Nat.reduceLT,Int.reduceLT,Int.reduceLE,Int.reduceEq,CO.tmps,Opd.tmps,optT,Nat.reducePow,Nat.reduceDiv,Nat.reduceMod,f1,g',oD,ne_eq,forall_const]
    refine q2X (S:=Nat×Bool×List Bool) (fun σ=>m.length-σ.1) (fun σ=>[s]++tp 4++[.p (h.length+0) 0]++tp 3++[.sl (h.length+1) 0 m.length m.length none,.b σ.2.1,.i .i64 (i:Int),.i .i64 (σ.1:Int)]++tp 110) (fun σ=>h++[.blk true true [.i .i64 a,.i .i64 b],.blk true true (bolR.cells σ.2.2)]) (fun σ=>σ.1<=m.length/\FixS m (a,b) σ.2.2/\((σ.2.1=more1/\σ.2.2=B1/\∀k<σ.1,¬Q9a m (a,b) B1 i k)\/(σ.2.1=true/\σ.2.2[i]?=some true/\cntF σ.2.2<cntF B1))) (0,more1,B1) ⟨Nat.zero_le _,hF1,.inl ⟨rfl,rfl,fun k hk=>absurd hk (Nat.not_lt_zero _)⟩⟩ ?_ fun σ hσ=>?_
    ·refine Bt.wk ?_
     simp only[z16,Xq6,if_true,if_false,reduceIte,Nat.reduceAdd,Nat.reduceSub,Nat.reduceLeDiff,Nat.reduceEqDiff,Nat.reduceMul,Nat.reduceLT,Int.reduceLT,Int.reduceLE,Int.reduceEq]
    obtain ⟨k,more2,B⟩:=σ
    obtain ⟨hk,hF,hor2⟩:=hσ
    dsimp only at hk hF hor2 ⊢
    have hBl:=hF.len
    have nextI:(k=m.length\/B[i]?=some true)->(i+1<=m.length/\FixS m (a,b) B/\((more2=false/\B=B0/\∀i'<i+1,B0[i']?=some true\/∀k,¬Q9a m (a,b) B0 i' k)\/(more2=true/\cntF B<cntF B0))):=fun hend=>by
     refine ⟨g,hF,?_⟩
     rcases hor2 with ⟨rfl,rfl,h3⟩|⟨h1,h2,h3⟩
     ·rcases hor with ⟨h4,rfl,h6⟩|h4
      ·refine .inl ⟨h4,rfl,fun i' hi'=>?_⟩
       rcases Nat.lt_or_ge i' i with z|z
       ·exact h6 i' z
       ·rw[show i'=i by omega]
        rcases hend with q|q
        ·refine .inr fun k' ht=>?_
         by_cases hk':k'<k
         ·exact h3 k' hk' ht
         ·obtain ⟨_,y,_,hy,_⟩:=ht
          rw[List.getElem?_eq_none (by omega)]at hy
          cases hy
        ·exact .inl q
      ·exact .inr h4
     ·refine .inr ⟨h1,?_⟩
      rcases hor with ⟨_,h5,_⟩|h4
      ·rw[h5]at h3;exact h3
      ·omega
    obtain ⟨bi,hbi⟩:∃bi,B[i]?=some bi:=⟨_,List.getElem?_eq_getElem (by omega)⟩
    have lbi:=fun X b' z=>ldB B i bi X b' z hbi
    by_cases gk:k<m.length
    ·have gk':((k:Int)<(m.length:Int))=True:=eq_true (by omega)
     have gkz:((0:Int)<=(k:Int)/\(k:Int)<(m.length:Int))=True:=eq_true (by omega)
     have gki:=eq_true gk
     have e2:IntKind.i64.wrap ((k:Int)+1)=((k+1:Nat):Int):=ZWm (by unfold In64;omega)
     cases bi with
     | true =>
      simp only[QhU,YqB,z16,KHD,Xq6,if_true,if_false,↓reduceIte,Nat.reduceAdd,Nat.reduceSub,Nat.reduceLeDiff,Nat.reduceEqDiff,Nat.reduceMul,Nat.reduceLT,Int.reduceLT,Int.reduceLE,Int.reduceEq,CO.tmps,Opd.tmps,optT,Nat.reducePow,Nat.reduceDiv,Nat.reduceMod,f1,iA,lbi,gk',gz,gi,XJx,J4I,ZHo,e1,Int.toNat_natCast,Option.bind_some,Option.map_some,if_true,oD,ne_eq,forall_const]
      refine ⟨(i+1,more2,B),nextI (.inr hbi),by dsimp only;omega,?_⟩
      refine Bt.wk ?_
      simp only[z16,Xq6,if_true,if_false,reduceIte,Nat.reduceAdd,Nat.reduceSub,Nat.reduceLeDiff,Nat.reduceEqDiff,Nat.reduceMul,Nat.reduceLT,Int.reduceLT,Int.reduceLE,Int.reduceEq]
     | false =>
      obtain ⟨y,hy⟩:∃y,m[k]?=some y:=⟨_,List.getElem?_eq_getElem gk⟩
      obtain ⟨bk,hbk⟩:∃bk,B[k]?=some bk:=⟨_,List.getElem?_eq_getElem (by omega)⟩
      have lbk:=fun X b' z=>ldB B k bk X b' z hbk
      have sti:=fun X z=>stB B i X z (by omega)
      have hyM:=List.mem_of_getElem? hy
      have hgy:(m.map (·.1)).getD k evR.d=y.1:=by rw[List.getD_eq_getElem?_getD,List.getElem?_map,hy];rfl
      have ldk:∀L,ldV (h++L) (some 2) (elP 39 s k 0)=some (.ag [.i .i64 y.1.dot.1,.i .i64 y.1.dot.2]):=fun L=>by
       rw[ZRI (hsz.s.app L) (sz:=39) rfl k 0 2 (by rw[hlm];exact gk) (by decide),hgy]
       rfl
      have h2e:(evR.f ((m.map (·.1)).getD k evR.d))[2]?=some y.1.deps.a:=by rw[hgy];rfl
      have gd:∀L,getS intR (h++L) y.1.deps.a=some y.2:=fun L=>((hsz.d y hyM).app L).get
      have oy:=hsz.o y hyM
      rw[zNY,Bool.and_eq_true]at oy
      have od1:∀c,y.1.deps.a.ok (fun i=>decide (i<h.length+c))=true:=fun c=>AV.ok_mono (fun i q=>by simp only[decide_eq_true_eq]at q ⊢;omega) _ oy.1
      have od2:∀c lo hi anc past,y.1.deps.a.ok (qOk (h.length+c) lo hi anc past)=true:=fun c lo hi anc past=>AV.ok_mono (fun i q=>YO3 (by have:=of_decide_eq_true q;omega)) _ oy.1
      have eqd:qN8 [.i,.i] [.i .i64 y.1.dot.1,.i .i64 y.1.dot.2] [.i .i64 a,.i .i64 b]=some (decide (y.1.dot=(a,b))):=zlA y.1.dot (a,b)
      have hB1:more2=more1/\B=B1/\∀k'<k,¬Q9a m (a,b) B1 i k':=by
       rcases hor2 with q|⟨_,q,_⟩
       ·exact q
       ·rw[hbi]at q;cases q
      obtain ⟨hm2,rfl,hkk⟩:=hB1
      have yes:Q9a m (a,b) B i k->FixS m (a,b) (B.set i true)/\(B.set i true)[i]?=some true/\cntF (B.set i true)<cntF B:=fun ht=>⟨hF.step hg0 ht,by rw[List.getElem?_set_self (by omega)],by have:=Kwj hbi;omega⟩
      have no:¬Q9a m (a,b) B i k->∀k'<k+1,¬Q9a m (a,b) B i k':=fun ht k' hk'=>by
       rcases Nat.lt_or_ge k' k with z|z
       ·exact hkk k' z
       ·rw[show k'=k by omega];exact ht
      have tiff:Q9a m (a,b) B i k↔((y.1.dot=(a,b)\/bk=true)/\vhas y.2 (x.1.dot.1,x.1.dot.2)):=by
       refine ⟨fun ⟨x',y',q1,q2,q3,q4⟩=>?_,fun ⟨q1,q2⟩=>⟨x,y,hx,hy,?_,q2⟩⟩
       ·rw[hx]at q1;cases q1
        rw[hy]at q2;cases q2
        rw[hbk,Option.some.injEq]at q3
        exact ⟨q3,q4⟩
       ·rw[hbk,Option.some.injEq];exact q1
      rcases emG (y.1.dot=(a,b)) with c1|c1
      ·rcases emG (vhas y.2 (x.1.dot.1,x.1.dot.2)) with c3|c3
       ·have ht:=yes (tiff.2 ⟨.inl (of_eq_true c1),of_eq_true c3⟩)
        simp only[QhU,YqB,z16,KHD,Xq6,if_true,if_false,↓reduceIte,Nat.reduceAdd,Nat.reduceSub,Nat.reduceLeDiff,Nat.reduceEqDiff,Nat.reduceMul,Nat.reduceLT,Int.reduceLT,Int.reduceLE,Int.reduceEq,CO.tmps,Opd.tmps,optT,Nat.reducePow,Nat.reduceDiv,Nat.reduceMod,f1,iA,lbi,lbk,sti,gk',gkz,gki,gz,gi,XJx,J4I,ZHo,e1,e2,ldk,ldp,h2e,gd,od1,od2,eqd,QQN,qY8,c1,c3,eo,ei,oW hh hz,Int.toNat_natCast,Option.bind_some,Option.map_some,if_true,oD,ne_eq,forall_const]
        refine ⟨(k+1,true,B.set i true),⟨gk,ht.1,.inr ⟨rfl,ht.2⟩⟩,by dsimp only;omega,?_⟩
        refine Bt.wk ?_
        simp only[z16,Xq6,if_true,if_false,reduceIte,Nat.reduceAdd,Nat.reduceSub,Nat.reduceLeDiff,Nat.reduceEqDiff,Nat.reduceMul,Nat.reduceLT,Int.reduceLT,Int.reduceLE,Int.reduceEq]
       ·have ht:=no fun z=>of_eq_false c3 (tiff.1 z).2
        simp only[QhU,YqB,z16,KHD,Xq6,if_true,if_false,↓reduceIte,Nat.reduceAdd,Nat.reduceSub,Nat.reduceLeDiff,Nat.reduceEqDiff,Nat.reduceMul,Nat.reduceLT,Int.reduceLT,Int.reduceLE,Int.reduceEq,CO.tmps,Opd.tmps,optT,Nat.reducePow,Nat.reduceDiv,Nat.reduceMod,f1,iA,lbi,lbk,sti,gk',gkz,gki,gz,gi,XJx,J4I,ZHo,e1,e2,ldk,ldp,h2e,gd,od1,od2,eqd,QQN,qY8,c1,c3,eo,ei,oW hh hz,Int.toNat_natCast,Option.bind_some,Option.map_some,if_true,oD,ne_eq,forall_const]
        refine ⟨(k+1,more2,B),⟨gk,hF,.inl ⟨hm2,rfl,ht⟩⟩,by dsimp only;omega,?_⟩
        refine Bt.wk ?_
        simp only[z16,Xq6,if_true,if_false,reduceIte,Nat.reduceAdd,Nat.reduceSub,Nat.reduceLeDiff,Nat.reduceEqDiff,Nat.reduceMul,Nat.reduceLT,Int.reduceLT,Int.reduceLE,Int.reduceEq]
      ·cases bk with
       | true =>
        rcases emG (vhas y.2 (x.1.dot.1,x.1.dot.2)) with c3|c3
        ·have ht:=yes (tiff.2 ⟨.inr rfl,of_eq_true c3⟩)
         simp only[QhU,YqB,z16,KHD,Xq6,if_true,if_false,↓reduceIte,Nat.reduceAdd,Nat.reduceSub,Nat.reduceLeDiff,Nat.reduceEqDiff,Nat.reduceMul,Nat.reduceLT,Int.reduceLT,Int.reduceLE,Int.reduceEq,CO.tmps,Opd.tmps,optT,Nat.reducePow,Nat.reduceDiv,Nat.reduceMod,f1,iA,lbi,lbk,sti,gk',gkz,gki,gz,gi,XJx,J4I,ZHo,e1,e2,ldk,ldp,h2e,gd,od1,od2,eqd,QQN,qY8,c1,c3,eo,ei,oW hh hz,Int.toNat_natCast,Option.bind_some,Option.map_some,if_true,oD,ne_eq,forall_const]
         refine ⟨(k+1,true,B.set i true),⟨gk,ht.1,.inr ⟨rfl,ht.2⟩⟩,by dsimp only;omega,?_⟩
         refine Bt.wk ?_
         simp only[z16,Xq6,if_true,if_false,reduceIte,Nat.reduceAdd,Nat.reduceSub,Nat.reduceLeDiff,Nat.reduceEqDiff,Nat.reduceMul,Nat.reduceLT,Int.reduceLT,Int.reduceLE,Int.reduceEq]
        ·have ht:=no fun z=>of_eq_false c3 (tiff.1 z).2
         simp only[QhU,YqB,z16,KHD,Xq6,if_true,if_false,↓reduceIte,Nat.reduceAdd,Nat.reduceSub,Nat.reduceLeDiff,Nat.reduceEqDiff,Nat.reduceMul,Nat.reduceLT,Int.reduceLT,Int.reduceLE,Int.reduceEq,CO.tmps,Opd.tmps,optT,Nat.reducePow,Nat.reduceDiv,Nat.reduceMod,f1,iA,lbi,lbk,sti,gk',gkz,gki,gz,gi,XJx,J4I,ZHo,e1,e2,ldk,ldp,h2e,gd,od1,od2,eqd,QQN,qY8,c1,c3,eo,ei,oW hh hz,Int.toNat_natCast,Option.bind_some,Option.map_some,if_true,oD,ne_eq,forall_const]
         refine ⟨(k+1,more2,B),⟨gk,hF,.inl ⟨hm2,rfl,ht⟩⟩,by dsimp only;omega,?_⟩
         refine Bt.wk ?_
         simp only[z16,Xq6,if_true,if_false,reduceIte,Nat.reduceAdd,Nat.reduceSub,Nat.reduceLeDiff,Nat.reduceEqDiff,Nat.reduceMul,Nat.reduceLT,Int.reduceLT,Int.reduceLE,Int.reduceEq]
       | false =>
        have ht:=no fun z=>(tiff.1 z).1.elim (of_eq_false c1) (fun z=>by cases z)
        simp only[QhU,YqB,z16,KHD,Xq6,if_true,if_false,↓reduceIte,Nat.reduceAdd,Nat.reduceSub,Nat.reduceLeDiff,Nat.reduceEqDiff,Nat.reduceMul,Nat.reduceLT,Int.reduceLT,Int.reduceLE,Int.reduceEq,CO.tmps,Opd.tmps,optT,Nat.reducePow,Nat.reduceDiv,Nat.reduceMod,f1,iA,lbi,lbk,sti,gk',gkz,gki,gz,gi,XJx,J4I,ZHo,e1,e2,ldk,ldp,h2e,gd,od1,od2,eqd,QQN,qY8,c1,eo,ei,oW hh hz,Int.toNat_natCast,Option.bind_some,Option.map_some,if_true,oD,ne_eq,forall_const]
        refine ⟨(k+1,more2,B),⟨gk,hF,.inl ⟨hm2,rfl,ht⟩⟩,by dsimp only;omega,?_⟩
        refine Bt.wk ?_
        simp only[z16,Xq6,if_true,if_false,reduceIte,Nat.reduceAdd,Nat.reduceSub,Nat.reduceLeDiff,Nat.reduceEqDiff,Nat.reduceMul,Nat.reduceLT,Int.reduceLT,Int.reduceLE,Int.reduceEq]
    ·have gk':((k:Int)<(m.length:Int))=False:=eq_false (by omega)
     simp only[QhU,YqB,z16,KHD,Xq6,if_true,if_false,↓reduceIte,Nat.reduceAdd,Nat.reduceSub,Nat.reduceLeDiff,Nat.reduceEqDiff,Nat.reduceMul,Nat.reduceLT,Int.reduceLT,Int.reduceLE,Int.reduceEq,CO.tmps,Opd.tmps,optT,Nat.reducePow,Nat.reduceDiv,Nat.reduceMod,f1,gk',XJx,e1,Int.toNat_natCast,Option.bind_some,Option.map_some,if_true,oD,ne_eq,forall_const]
     refine ⟨(i+1,more2,B),nextI (.inl (by omega)),by dsimp only;omega,?_⟩
     refine Bt.wk ?_
     simp only[z16,Xq6,if_true,if_false,reduceIte,Nat.reduceAdd,Nat.reduceSub,Nat.reduceLeDiff,Nat.reduceEqDiff,Nat.reduceMul,Nat.reduceLT,Int.reduceLT,Int.reduceLE,Int.reduceEq]
   ·have g':((i:Int)<(m.length:Int))=False:=eq_false (by omega)
    simp only[QhU,YqB,z16,KHD,Xq6,if_true,if_false,↓reduceIte,Nat.reduceAdd,Nat.reduceSub,Nat.reduceLeDiff,Nat.reduceEqDiff,Nat.reduceMul,Nat.reduceLT,Int.reduceLT,Int.reduceLE,Int.reduceEq,CO.tmps,Opd.tmps,optT,Nat.reducePow,Nat.reduceDiv,Nat.reduceMod,f1,g',oD,ne_eq,forall_const]
    refine ⟨(more1,B1),⟨hF1,fun hm=>?_⟩,?_,?_⟩
    ·rcases hor with ⟨_,rfl,q⟩|⟨q,_⟩
     ·exact fun i' hi'=>q i' (by omega)
     ·rw[q]at hm;cases hm
    ·rcases hor with ⟨q1,q2,_⟩|⟨q1,q2⟩
     ·subst q1 q2
      simp
     ·subst q1
      simp only[if_true]
      omega
    ·refine Bt.wk ?_
     simp only[z16,Xq6,if_true,if_false,reduceIte,Nat.reduceAdd,Nat.reduceSub,Nat.reduceLeDiff,Nat.reduceEqDiff,Nat.reduceMul,Nat.reduceLT,Int.reduceLT,Int.reduceLE,Int.reduceEq]
 ·cases e
end
section
def JRy (x y:Z8a):Prop:=ZHl x.1 (wS x.2.1 x.2.1.length) y.1 (wS y.2.1 y.2.1.length)
noncomputable instance:DecidableRel JRy:=fun _ _=>Classical.propDecidable _
theorem X4n (M:List EvF):(srtI XAO M).map XYh=srtI JRy (M.map XYh):=(zx5 (lt:=JRy) (lt':=XAO) (f:=XYh) M fun _ _ _ _=>Iff.rfl).symm
theorem zxS:∀(k:Nat) (M:List EvF),(ZDg k M).map XYh=M.map XYh
 | _,[]=>rfl
 | k,e::M=>by
  have:=zxS (k+2) M
  unfold ZDg at this ⊢
  rw[XvB,List.zip_cons_cons,List.map_cons,List.map_cons,this,List.map_cons]
  rfl
theorem QCt (xs:List Int) (M:List EvF):(undE xs M).map XYh=(M.map XYh).filter fun e=>decide (vhas xs e.1):=by
 unfold undE
 rw[List.filter_map]
 rfl
theorem zNH {x y:EvtA} {l m:List Int} (n:Int) (h:x.dot=y.dot/\l=m/\x.kind=y.kind/\x.repo=y.repo/\x.tag=y.tag):fitE x l n=fitE y m n:=by
 cases x
 cases y
 dsimp only at h
 obtain ⟨rfl,rfl,rfl,rfl,rfl⟩:=h
 rfl
def keyD (e:EvD):(Int×Int)×List Int×Int×List UInt8×List UInt8:=(e.1.dot,e.2,e.1.kind,e.1.repo,e.1.tag)
theorem Qxx {x y:EvD} (h:keyD x=keyD y):x.1.dot=y.1.dot/\x.2=y.2/\x.1.kind=y.1.kind/\x.1.repo=y.1.repo/\x.1.tag=y.1.tag:=by
 unfold keyD at h
 simpa only[Prod.mk.injEq] using h
theorem zMh (n:Int):∀ {m m':List EvD},m.map keyD=m'.map keyD->∀seen,chkA n m seen=chkA n m' seen
 | [],[],_,_=>rfl
 | [],_::_,h,_=>by cases h
 | _::_,[],h,_=>by cases h
 | e::m,e'::m',h,seen=>by
  rw[List.map_cons,List.map_cons,List.cons.injEq]at h
  have hk:=Qxx h.1
  have hf:=zNH n hk
  rw[chkA,chkA,hf,hk.1,zMh n h.2]
theorem ZhY {m m':List EvD} (h:m.map keyD=m'.map keyD) {e:EvD} (he:e∈m):∃e'∈m',keyD e'=keyD e:=by
 have:keyD e∈m'.map keyD:=by rw[<-h];exact List.mem_map.2 ⟨e,he,rfl⟩
 obtain ⟨e',h1,h2⟩:=List.mem_map.1 this
 exact ⟨e',h1,h2⟩
theorem YWa {m m':List EvD} (h:m.map keyD=m'.map keyD) (hB:chkB m):chkB m':=fun e' he' i a ha hne=>by
 obtain ⟨e,he,hk⟩:=ZhY h.symm he'
 have hk:=Qxx hk
 rw[<-hk.2.1]at ha
 obtain ⟨o,ho,h1,h2⟩:=hB e he i a ha hne
 obtain ⟨o',ho',hk'⟩:=ZhY h ho
 have hk':=Qxx hk'
 exact ⟨o',ho',by rw[hk'.1];exact h1,fun r=>by rw[hk'.2.1,<-hk.2.1];exact h2 r⟩
theorem KxO {m m':List EvD} (h:m.map keyD=m'.map keyD) (n:Int):chkG m n=chkG m' n:=by
 have hl:m.length=m'.length:=by
  have:=congrArg List.length h
  simpa using this
 have hB:chkB m↔chkB m':=⟨YWa h,YWa h.symm⟩
 unfold chkG
 rw[hl,zMh n h []]
 by_cases q:chkB m
 ·rw[if_pos q,if_pos (hB.1 q)]
 ·rw[if_neg q,if_neg fun z=>q (hB.2 z)]
theorem XjY {m m':List EvD} (h:m.map keyD=m'.map keyD):m.map (·.1.dot)=m'.map (·.1.dot):=by
 have:=congrArg (List.map fun k:(Int×Int)×List Int×Int×List UInt8×List UInt8=>k.1) h
 rw[List.map_map,List.map_map]at this
 exact this
theorem YpJ:∀ {m m':List EvD},m.map keyD=m'.map keyD->∀d,dpE m d=dpE m' d
 | [],[],_,_=>rfl
 | [],_::_,h,_=>by cases h
 | _::_,[],h,_=>by cases h
 | e::m,e'::m',h,d=>by
  rw[List.map_cons,List.map_cons,List.cons.injEq]at h
  have hk:=Qxx h.1
  have ih:=YpJ h.2 d
  unfold dpE at ih ⊢
  by_cases q:e.1.dot=d
  ·rw[List.find?_cons_of_pos (by simpa using q),List.find?_cons_of_pos (by rw[<-hk.1];simpa using q)]
   show e.2=e'.2
   exact hk.2.1
  ·rw[List.find?_cons_of_neg (by simpa using q),List.find?_cons_of_neg (by rw[<-hk.1];simpa using q)]
   exact ih
theorem QHO {m m':List EvD} (h:m.map keyD=m'.map keyD) (n:Int) (d:Int×Int):qVG m n d=qVG m' n d:=by
 have:dpE m=dpE m':=funext (YpJ h)
 unfold qVG
 rw[this]
theorem qWK (x:Int×Int):∀l,(insA x l).Perm (x::l)
 | []=>.refl _
 | y::l=>by
  rw[insA]
  split
  ·exact ((qWK x l).cons y).trans (.swap x y l)
  ·exact .refl _
theorem ZuI:∀(l a:List (Int×Int)),(l.foldl (fun l x=>insA x l) a).Perm (l++a)
 | [],_=>.refl _
 | x::l,a=>by
  rw[List.foldl_cons]
  exact (ZuI l _).trans (((qWK x a).append_left l).trans List.perm_middle)
theorem Jgl (x:Int×Int):∀ {l},YBZ l->YBZ (insA x l)
 | [],_=>by simp [insA,YBZ]
 | y::l,h=>by
  have h2:=List.pairwise_cons.1 h
  rw[insA]
  split
  ·rename_i q
   refine List.pairwise_cons.2 ⟨fun z hz=>?_,Jgl x h2.2⟩
   rcases List.mem_cons.1 ((qWK x l).mem_iff.1 hz) with rfl|hz
   ·exact fun w=>JW8 y (q5V (show JaQ y z from q) w)
   ·exact h2.1 z hz
  ·rename_i q
   refine List.pairwise_cons.2 ⟨fun z hz=>?_,h⟩
   have hy:¬JaQ y x:=q
   rcases List.mem_cons.1 hz with rfl|hz2
   ·exact hy
   ·intro w
    rcases YZu x y with t|t|t
    ·exact h2.1 z hz2 (q5V w t)
    ·subst t;exact h2.1 z hz2 w
    ·exact hy t
theorem KG1:∀(l:List (Int×Int)) {a:List (Int×Int)},YBZ a->YBZ (l.foldl (fun l x=>insA x l) a)
 | [],_,h=>h
 | x::l,a,h=>by
  rw[List.foldl_cons]
  exact KG1 l (Jgl x h)
theorem zcW (l:List (Int×Int)):srtD l=l.foldl (fun l x=>insA x l) []:=by
 have tr:∀(a b c:Int×Int),(!(decide (cmpD b a<0)))=true->(!(decide (cmpD c b<0)))=true->(!(decide (cmpD c a<0)))=true:=fun a b c h1 h2=>by
  simp only[Bool.not_eq_true',decide_eq_false_iff_not,YtW]at *
  intro h3
  rcases YZu b a with q|q|q
  ·exact h1 q
  ·subst q;exact h2 h3
  ·exact h2 (q5V h3 q)
 have to:∀(a b:Int×Int),((!(decide (cmpD b a<0)))||(!(decide (cmpD a b<0))))=true:=fun a b=>by
  by_cases h1:cmpD b a<0
  ·have h2:¬cmpD a b<0:=fun h2=>JW8 a (q5V ((YtW _ _).1 h2) ((YtW _ _).1 h1))
   simp [h2]
  ·simp [h1]
 have hp:=ZuI l []
 rw[List.append_nil]at hp
 have hw:(l.foldl (fun l x=>insA x l) []).Pairwise fun a b=>(!(decide (cmpD b a<0)))=true:=(KG1 l (a:=[]) List.Pairwise.nil).imp fun {a b} q=>by
  simp only[Bool.not_eq_true',decide_eq_false_iff_not,YtW]
  exact q
 refine List.Perm.eq_of_pairwise (le:=fun a b=>(!(decide (cmpD b a<0)))=true) (fun a b _ _ h1 h2=>?_) (List.pairwise_mergeSort tr to l) hw ((QL5 l).trans hp.symm)
 simp only[Bool.not_eq_true',decide_eq_false_iff_not,YtW]at h1 h2
 rcases YZu a b with q|q|q
 ·exact absurd q h2
 ·exact q
 ·exact absurd q h1
theorem Zqq {α:Type} [DecidableEq α] {l l':List α} (h1:l.Nodup) (h2:l'.Nodup) (h:∀x,x∈l↔x∈l'):l.Perm l':=
 List.perm_iff_count.2 fun a=>by
  rw[h1.count,h2.count]
  by_cases q:a∈l
  ·rw[if_pos q,if_pos ((h a).1 q)]
  ·rw[if_neg q,if_neg fun z=>q ((h a).2 z)]
theorem Q2Y {m:List EvD} {n:Int} (hg:chkG m n=0) (d:Int×Int):qVG m n d=qyA m d:=by
 obtain ⟨_,_,_,hA,_⟩:=ZEf hg
 obtain ⟨_,_,hA3⟩:=Js7 hA
 have hV:=qOn hg
 unfold qVG qyA
 rw[<-zcW]
 refine KI5 (Zqq (Y8d hV (Nat.lt_succ_self _)) ?_ fun x=>?_)
 ·exact List.Pairwise.sublist (List.Sublist.map _ List.filter_sublist) hA3
 ·rw[q6O hV (Nat.lt_succ_self _)]
  refine ⟨fun hx=>?_,fun hx=>?_⟩
  ·rcases Z7t m d with q|⟨e,he,_,hde⟩
   ·rw[q]at hx
    have:=JvS (l:=[]) (r:=x.1) (by have:=hx.2;omega)
    simp at this
    omega
   ·have hx':=hx
    rw[hde]at hx'
    obtain ⟨o,ho,hod⟩:=Ji4 hg he hx'
    exact List.mem_map.2 ⟨o,List.mem_filter.2 ⟨ho,decide_eq_true (by rw[hod];exact hx)⟩,hod⟩
  ·obtain ⟨o,ho,rfl⟩:=List.mem_map.1 hx
   exact of_decide_eq_true (List.mem_filter.1 ho).2
end
end Go.Proofs.YtebcngelgdpbjaaGreat
