/- Part 29 of what the laws' proofs rest on. No condition. -/
import Derived.Test.YtebcngelgdpbjaaGreatGq28
set_option linter.all false
namespace Go.Proofs.YtebcngelgdpbjaaGreat
section
set_option maxRecDepth 100000
set_option maxHeartbeats 4000000
abbrev cmpA:AV:=.f (.func 105) [] []
open Classical in
noncomputable def YNi:List AV->List AB->Option (AV×List AB)
 | [s,.f (.func g) [] []],h=>if g=105 then (getS evR h s).bind fun l=>if l.length=0 then some (.tu [],h) else match idOf s with
   | [id]=>if s=apS evR id l/\l.length<=20/\h[id]?=some (resN evR true l)/\J8B h id l then some (.tu [],h.set id (resN evR true (srtI (qkI h) l))) else none
   | _=>none
  else none
 | _,_=>none
open Classical in
noncomputable def Qzb:List AV->List AB->Option (AV×List AB)
 | [s,.i .i64 n,.f (.func g) [] []],h=>(getS evR h s).bind fun l=>if n=(l.length:Int) then YNi [s,.f (.func g) [] []] h else none
 | _,_=>none
open Classical in
theorem Jcw (s : AV) (a b : Int) (g : FuncId) (h : List AB) : ZVs [s, .i .i64 a, .i .i64 b, .f (.func g) [] []] h = if g = 105 then (getS evR h s).bind fun l => if a = b ∧ -1000000 ≤ a ∧ a ≤ 1000000 then some (.tu [], h) else match idOf s with
      | [id]=>if a=0/\b=(l.length:Int)/\s=apS evR id l/\l.length≠0/\l.length<=1000/\h[id]?=some (resN evR true l)/\J8B h id l then some (.tu [],h.set id (resN evR true (srtI (qkI h) l))) else none
      | _=>none
    else none:=rfl
open Classical in
theorem QKa (s : AV) (g : FuncId) (h : List AB) : YNi [s, .f (.func g) [] []] h = if g = 105 then (getS evR h s).bind fun l => if l.length = 0 then some (.tu [], h) else match idOf s with
      | [id]=>if s=apS evR id l/\l.length<=20/\h[id]?=some (resN evR true l)/\J8B h id l then some (.tu [],h.set id (resN evR true (srtI (qkI h) l))) else none
      | _=>none
    else none:=rfl
theorem QBA (s:AV) (n:Int) (g:FuncId) (h:List AB):Qzb [s,.i .i64 n,.f (.func g) [] []] h=(getS evR h s).bind fun l=>if n=(l.length:Int) then YNi [s,.f (.func g) [] []] h else none:=rfl
theorem qdc:Spec Tryz.prog 166 Qzb:=by
 intro args h v' h' e
 unfold Qzb at e
 split at e
 ·rename_i s n g0
  obtain ⟨l,hs,e2⟩:=zZy e
  clear e
  split at e2
  ·rename_i hn
   subst hn
   rw[QKa]at e2
   split at e2
   ·rename_i hg0
    subst hg0
    rw[hs.get,Option.bind_some]at e2
    split at e2
    ·rename_i h0
     cases e2
     refine FnAt.c (FnAt.run (by kernel_rfl) (T:=⟨[⟨210,ZVs,fun _=>[]⟩],[]⟩) ⟨⟨zHB,trivial⟩,trivial⟩ Tryz.func166 Y5M fun ho hh=>?_)
     have hl:l=[]:=List.eq_nil_of_length_eq_zero h0
     subst hl
     have ti:ZVs [s,.i .i64 0,.i .i64 0,cmpA] (h++[])=some (.tu [],h++[]):=by
      rw[Jcw,if_pos rfl,(hs.app []).get,Option.bind_some,if_pos ⟨rfl,by omega,by omega⟩]
     have z1:((20:Int)<=0)=False:=eq_false (by decide)
     have z2:((20:Int)<0)=False:=eq_false (by decide)
     unfold w166
     simp only[QhU,YqB,z16,Xq6,if_true,if_false,reduceIte,Nat.reduceAdd,Nat.reduceSub,Nat.reduceLeDiff,Nat.reduceEqDiff,Nat.reduceMul,Nat.reduceLT,Int.reduceLT,Int.reduceLE,Int.reduceEq,List.length_nil,Int.natCast_zero]
     refine zXM (S:=Nat) (fun _=>0) (fun _=>[s,.i .i64 0,cmpA]++tp 3++[.i .i64 20,.i .i64 0,.i .i64 20]++tp 54) (fun _=>True) 0 trivial (by simp only[tp_0,tp_s,List.cons_append,List.nil_append,K2n,JRI,QoW,Jje,and_true,true_and]) fun _ _=>?_
     simp only[QhU,YqB,z16,Xq6,if_true,if_false,reduceIte,Nat.reduceAdd,Nat.reduceSub,Nat.reduceLeDiff,Nat.reduceEqDiff,Nat.reduceMul,Nat.reduceLT,Int.reduceLT,Int.reduceLE,Int.reduceEq,z1,ti,oD,ne_eq,forall_const]
     refine zXM (S:=Nat) (fun _=>0) (fun _=>tp 1++[.i .i64 0]++tp 4++[.i .i64 20]++tp 56) (fun _=>True) 0 trivial (by simp only[tp_0,tp_s,List.cons_append,List.nil_append,K2n,JRI,QoW,Jje,and_true,true_and]) fun _ _=>?_
     simp only[QhU,YqB,z16,Xq6,if_true,if_false,reduceIte,Nat.reduceAdd,Nat.reduceSub,Nat.reduceLeDiff,Nat.reduceEqDiff,Nat.reduceMul,Nat.reduceLT,Int.reduceLT,Int.reduceLE,Int.reduceEq,z2,oD,ne_eq,forall_const]
     exact Bt.eq rfl (List.append_nil h)
    ·rename_i h0
     split at e2
     ·rename_i id hid
      split at e2
      ·rename_i hcc
       obtain ⟨h1,hlen,h2,hdep⟩:=hcc
       have hlt:=(List.getElem?_eq_some_iff.1 h2).1
       have hS:apS evR id l=.sl id 0 l.length l.length (some 39):=by unfold apS;rw[if_neg h0];rfl
       rw[hS]at h1
       subst h1
       rw[Option.some.injEq,Prod.mk.injEq]at e2
       obtain ⟨rfl,rfl⟩:=e2
       refine FnAt.c (FnAt.run (by kernel_rfl) (T:=⟨[⟨210,ZVs,fun _=>[]⟩],[]⟩) ⟨⟨zHB,trivial⟩,trivial⟩ Tryz.func166 Y5M fun ho hh=>?_)
       have ti:ZVs [.sl id 0 l.length l.length (some 39),.i .i64 0,.i .i64 (l.length:Int),cmpA] (h++[])=some (.tu [],oB h id (resN evR true (srtI (qkI h) l))++[]):=by
        rw[List.append_nil,List.append_nil]
        rw[Jcw,if_pos rfl,hs.get,Option.bind_some,if_neg (by omega)]
        refine if_pos ⟨rfl,rfl,hS.symm,h0,by omega,h2,hdep⟩
       have z2:((20:Int)<(l.length:Int))=False:=eq_false (by omega)
       unfold w166
       simp only[QhU,YqB,z16,Xq6,if_true,if_false,reduceIte,Nat.reduceAdd,Nat.reduceSub,Nat.reduceLeDiff,Nat.reduceEqDiff,Nat.reduceMul,Nat.reduceLT,Int.reduceLT,Int.reduceLE,Int.reduceEq]
       by_cases h20:l.length=20
       ·have ti2:ZVs [.sl id 0 l.length l.length (some 39),.i .i64 20,.i .i64 (l.length:Int),cmpA] (oB h id (resN evR true (srtI (qkI h) l))++[])=some (.tu [],oB h id (resN evR true (srtI (qkI h) l))++[]):=by
         have hr:Rd evR (oB h id (resN evR true (srtI (qkI h) l))++[]) (.sl id 0 l.length l.length (some 39)) (srtI (qkI h) l):=by
          have:=JyI (r:=evR) (H:=oB h id (resN evR true (srtI (qkI h) l))++[]) (id:=id) (m:=true) (l:=srtI (qkI h) l) (K6A hlt _ []) (by rw[KuP];unfold maxLen;omega)
          have e3:rsl evR id (srtI (qkI h) l)=.sl id 0 l.length l.length (some 39):=by unfold rsl;rw[KuP,if_neg h0];rfl
          rwa [e3]at this
         rw[Jcw,if_pos rfl,hr.get,Option.bind_some,if_pos ⟨by omega,by omega,by omega⟩]
        have t20:ZVs [.sl id 0 l.length l.length (some 39),.i .i64 0,.i .i64 20,cmpA] (h++[])=some (.tu [],oB h id (resN evR true (srtI (qkI h) l))++[]):=by
         have:=ti
         rw[show (l.length:Int)=20 by omega]at this
         exact this
        have y1:((20:Int)<=(l.length:Int))=True:=eq_true (by omega)
        have y2:((40:Int)<=(l.length:Int))=False:=eq_false (by omega)
        have y3:IntKind.i64.wrap ((20:Int)+20)=40:=rfl
        refine q2X (S:=Nat) (fun t=>1-t) (fun t=>[.sl id 0 l.length l.length (some 39),.i .i64 (l.length:Int),cmpA]++tp 3++[.i .i64 20,.i .i64 (if t=0 then 0 else 20),.i .i64 (if t=0 then 20 else 40)]++tp 54) (fun t=>(if t=0 then h else oB h id (resN evR true (srtI (qkI h) l)))++[]) (fun t=>t<=1) 0 (Nat.zero_le _) ?_ fun t ht=>?_
        ·refine Bt.wk ?_
         simp only[z16,Xq6,if_true,if_false,reduceIte,Nat.reduceAdd,Nat.reduceSub,Nat.reduceLeDiff,Nat.reduceEqDiff,Nat.reduceMul,Nat.reduceLT,Int.reduceLT,Int.reduceLE,Int.reduceEq]
        by_cases t0:t=0
        ·subst t0
         simp only[QhU,YqB,z16,Xq6,if_true,if_false,reduceIte,Nat.reduceAdd,Nat.reduceSub,Nat.reduceLeDiff,Nat.reduceEqDiff,Nat.reduceMul,Nat.reduceLT,Int.reduceLT,Int.reduceLE,Int.reduceEq,y1,t20,y3,oD,ne_eq,forall_const]
         refine ⟨1,Nat.le_refl _,by decide,?_⟩
         refine Bt.wk ?_
         simp only[z16,Xq6,if_true,if_false,reduceIte,Nat.reduceAdd,Nat.reduceSub,Nat.reduceLeDiff,Nat.reduceEqDiff,Nat.reduceMul,Nat.reduceLT,Int.reduceLT,Int.reduceLE,Int.reduceEq]
        ·simp only[QhU,YqB,z16,Xq6,if_true,if_false,reduceIte,Nat.reduceAdd,Nat.reduceSub,Nat.reduceLeDiff,Nat.reduceEqDiff,Nat.reduceMul,Nat.reduceLT,Int.reduceLT,Int.reduceLE,Int.reduceEq,t0,y2,ti2,oD,ne_eq,forall_const]
         refine q2X (S:=Nat) (fun _=>0) (fun _=>tp 1++[.i .i64 (l.length:Int)]++tp 4++[.i .i64 20]++tp 56) (fun _=>oB h id (resN evR true (srtI (qkI h) l))++[]) (fun _=>True) 0 trivial ?_ fun _ _=>?_
         ·refine Bt.wk ?_
          simp only[z16,Xq6,if_true,if_false,reduceIte,Nat.reduceAdd,Nat.reduceSub,Nat.reduceLeDiff,Nat.reduceEqDiff,Nat.reduceMul,Nat.reduceLT,Int.reduceLT,Int.reduceLE,Int.reduceEq]
         simp only[QhU,YqB,z16,Xq6,if_true,if_false,reduceIte,Nat.reduceAdd,Nat.reduceSub,Nat.reduceLeDiff,Nat.reduceEqDiff,Nat.reduceMul,Nat.reduceLT,Int.reduceLT,Int.reduceLE,Int.reduceEq,z2,oD,ne_eq,forall_const]
         rw[List.append_nil]
         exact Bt.refl _ _ _
       ·have z1:((20:Int)<=(l.length:Int))=False:=eq_false (by omega)
        refine zXM (S:=Nat) (fun _=>0) (fun _=>[.sl id 0 l.length l.length (some 39),.i .i64 (l.length:Int),cmpA]++tp 3++[.i .i64 20,.i .i64 0,.i .i64 20]++tp 54) (fun _=>True) 0 trivial (by simp only[tp_0,tp_s,List.cons_append,List.nil_append,K2n,JRI,QoW,Jje,and_true,true_and]) fun _ _=>?_
        simp only[QhU,YqB,z16,Xq6,if_true,if_false,reduceIte,Nat.reduceAdd,Nat.reduceSub,Nat.reduceLeDiff,Nat.reduceEqDiff,Nat.reduceMul,Nat.reduceLT,Int.reduceLT,Int.reduceLE,Int.reduceEq,z1,ti,oD,ne_eq,forall_const]
        refine q2X (S:=Nat) (fun _=>0) (fun _=>tp 1++[.i .i64 (l.length:Int)]++tp 4++[.i .i64 20]++tp 56) (fun _=>oB h id (resN evR true (srtI (qkI h) l))++[]) (fun _=>True) 0 trivial ?_ fun _ _=>?_
        ·refine Bt.wk ?_
         simp only[z16,Xq6,if_true,if_false,reduceIte,Nat.reduceAdd,Nat.reduceSub,Nat.reduceLeDiff,Nat.reduceEqDiff,Nat.reduceMul,Nat.reduceLT,Int.reduceLT,Int.reduceLE,Int.reduceEq]
        simp only[QhU,YqB,z16,Xq6,if_true,if_false,reduceIte,Nat.reduceAdd,Nat.reduceSub,Nat.reduceLeDiff,Nat.reduceEqDiff,Nat.reduceMul,Nat.reduceLT,Int.reduceLT,Int.reduceLE,Int.reduceEq,z2,oD,ne_eq,forall_const]
        rw[List.append_nil]
        exact Bt.refl _ _ _
      ·cases e2
     ·cases e2
   ·cases e2
  ·cases e2
 ·cases e
theorem Kvi:Spec Tryz.prog 104 YNi:=by
 intro args h v' h' e
 have e0:=e
 unfold YNi at e
 split at e
 ·rename_i s g0
  split at e
  ·rename_i hg0
   subst hg0
   obtain ⟨l,hs,_⟩:=zZy e
   clear e
   refine FnAt.c (FnAt.run (by kernel_rfl) (T:=⟨[⟨166,Qzb,fun _=>[]⟩],[]⟩) ⟨⟨qdc,trivial⟩,trivial⟩ Tryz.func104 Jeh fun ho hh=>?_)
   simp only[XDA,Bool.and_eq_true]at ho
   have f1:=hs.fx ho.1 (sz:=39) rfl
   have ts:Qzb [s,.i .i64 (l.length:Int),cmpA] (h++[])=some (v',h'):=by
    rw[List.append_nil]
    rw[QBA,hs.get,Option.bind_some,if_pos rfl]
    exact e0
   have hv:v'=.tu []:=by
    rw[QKa,if_pos rfl,hs.get,Option.bind_some]at e0
    repeat' split at e0
    all_goals first|(cases e0;rfl)|(rw[Option.some.injEq,Prod.mk.injEq]at e0;exact e0.1.symm)|cases e0
   subst hv
   unfold w104
   simp only[QhU,YqB,z16,Xq6,if_true,if_false,reduceIte,Nat.reduceAdd,Nat.reduceSub,Nat.reduceLeDiff,Nat.reduceEqDiff,Nat.reduceMul,Nat.reduceLT,Int.reduceLT,Int.reduceLE,Int.reduceEq,f1,ts,oD,ne_eq,forall_const]
   exact Bt.refl _ _ _
  ·cases e
 ·cases e
end
section
set_option maxRecDepth 100000
set_option maxHeartbeats 4000000
section
variable {α β:Type} {lt:α->α->Prop} [DecidableRel lt] {lt':β->β->Prop} [DecidableRel lt'] {f:β->α}
theorem XzM (x:β):∀l:List β,(∀y∈l,(lt (f x) (f y)↔lt' x y))->insV lt (f x) (l.map f)=(insV lt' x l).map f
 | [],_=>rfl
 | y::l,h=>by
  have hy:=h y (List.mem_cons_self ..)
  rw[List.map_cons,insV,insV]
  by_cases q:lt' x y
  ·rw[if_pos q,if_pos (hy.2 q),XzM x l fun z hz=>h z (List.mem_cons_of_mem _ hz)]
   rfl
  ·rw[if_neg q,if_neg fun z=>q (hy.1 z)]
   rfl
theorem KzC (x:β) (l:List β) (h:∀y∈l,(lt (f x) (f y)↔lt' x y)):insB lt (l.map f) (f x)=(insB lt' l x).map f:=by
 unfold insB
 rw[<-List.map_reverse,XzM x l.reverse fun y hy=>h y (List.mem_reverse.1 hy),List.map_reverse]
theorem zx5 (l:List β) (h:∀x∈l,∀y∈l,(lt (f x) (f y)↔lt' x y)):srtI lt (l.map f)=(srtI lt' l).map f:=by
 have:∀(m a:List β),(∀x∈m,x∈l)->(∀x∈a,x∈l)->(m.map f).foldl (insB lt) (a.map f)=(m.foldl (insB lt') a).map f:=fun m=>by
  induction m with
  | nil=>intro a _ _;rfl
  | cons x m ih =>
   intro a hm ha
   rw[List.map_cons,List.foldl_cons,List.foldl_cons,KzC x a fun y hy=>h x (hm x (List.mem_cons_self ..)) y (ha y hy)]
   refine ih _ (fun y hy=>hm y (List.mem_cons_of_mem _ hy)) fun y hy=>?_
   rcases List.mem_append.1 ((XGp lt' a x).mem_iff.1 hy) with hy|hy
   ·exact ha y hy
   ·rw[List.mem_singleton.1 hy];exact hm x (List.mem_cons_self ..)
 exact this l [] (fun x hx=>hx) (fun x hx=>by cases hx)
end
noncomputable def X7N:List AV->List AB->Option (AV×List AB)
 | [a],h=>(getS intR h a).bind fun xs=>if q70 a .ns=some false/\xs.length<=1000000 then some (exS intR (h.length+0) xs,h++[exB intR xs]) else none
 | _,_=>none
noncomputable def zGM:List AV->List AB->Option (AV×List AB)
 | [a],h=>(getS idR h a).bind fun xs=>if q70 a .ns=some false/\xs.length<=1000000 then some (exS idR (h.length+0) xs,h++[exB idR xs]) else none
 | _,_=>none
theorem XAF:Spec Tryz.prog 102 X7N:=by
 intro args h v h' e
 unfold X7N at e
 split at e
 ·rename_i a
  obtain ⟨xs,hs,e⟩:=zZy e
  split at e
  ·rename_i hl
   cases e
   refine FnAt.c (FnAt.run (by kernel_rfl) (T:=⟨[],[]⟩) ⟨trivial,trivial⟩ Tryz.func102 qEq fun ho hh=>?_)
   simp only[XDA,Bool.and_eq_true]at ho
   have f1:=hs.fx ho.1 (sz:=1) rfl
   have u1:=hs.src (sz:=1) rfl
   have nn:=hl.1
   unfold w102
   by_cases h0:xs.length=0
   ·have hx:xs=[]:=List.eq_nil_of_length_eq_zero h0
    subst hx
    simp only[QhU,YqB,z16,Xq6,simprocAttr,f1,u1,nn,XBP,List.length_nil,oD,ne_eq,forall_const]
    exact Bt.eq rfl rfl
   ·have z1:=eq_false h0
    have z2:=eq_true (p:=xs.length*8<=140737488355328/\xs.length<=maxLen) ⟨by omega,by unfold maxLen;omega⟩
    simp only[QhU,YqB,z16,Xq6,simprocAttr,f1,u1,nn,z1,z2,oD,ne_eq,forall_const]
    have hx:exS intR (h.length+0) xs=.sl (h.length+0) 0 xs.length xs.length (some 1):=by unfold exS exK;rw[if_neg h0];rfl
    rw[hx]
    exact Bt.sel [1] hh (by decide) (by simp only[KlC,FrSel,BlkSel,AV.ren,renL,AV.ok,okL,Option.some.injEq,exists_eq_left',List.length_cons,List.length_nil,Nat.reduceAdd,Nat.reduceLT,reduceCtorEq,implies_true,exists_eq',exB]) (by simp only[KlC,FrSel,BlkSel,AV.ren,renL,AV.ok,okL,Option.some.injEq,exists_eq_left',List.length_cons,List.length_nil,Nat.reduceAdd,Nat.reduceLT,reduceCtorEq,implies_true,exists_eq'])
  ·cases e
 ·cases e
theorem ZHx:Spec Tryz.prog 103 zGM:=by
 intro args h v h' e
 unfold zGM at e
 split at e
 ·rename_i a
  obtain ⟨xs,hs,e⟩:=zZy e
  split at e
  ·rename_i hl
   cases e
   refine FnAt.c (FnAt.run (by kernel_rfl) (T:=⟨[],[]⟩) ⟨trivial,trivial⟩ Tryz.func103 YlT fun ho hh=>?_)
   simp only[XDA,Bool.and_eq_true]at ho
   have f1:=hs.fx ho.1 (sz:=32) rfl
   have u1:=hs.src (sz:=32) rfl
   have nn:=hl.1
   unfold w103
   by_cases h0:xs.length=0
   ·have hx:xs=[]:=List.eq_nil_of_length_eq_zero h0
    subst hx
    simp only[QhU,YqB,z16,Xq6,simprocAttr,f1,u1,nn,XBP,List.length_nil,oD,ne_eq,forall_const]
    exact Bt.eq rfl rfl
   ·have z1:=eq_false h0
    have z2:=eq_true (p:=xs.length*32<=140737488355328/\xs.length<=maxLen) ⟨by omega,by unfold maxLen;omega⟩
    simp only[QhU,YqB,z16,Xq6,simprocAttr,f1,u1,nn,z1,z2,zHb,oD,ne_eq,forall_const]
    have hx:exS idR (h.length+0) xs=.sl (h.length+0) 0 xs.length xs.length (some 32):=by unfold exS exK;rw[if_neg h0];rfl
    rw[hx]
    exact Bt.sel [1] hh (by decide) (by simp only[KlC,FrSel,BlkSel,AV.ren,renL,AV.ok,okL,Option.some.injEq,exists_eq_left',List.length_cons,List.length_nil,Nat.reduceAdd,Nat.reduceLT,reduceCtorEq,implies_true,exists_eq',exB]) (by simp only[KlC,FrSel,BlkSel,AV.ren,renL,AV.ok,okL,Option.some.injEq,exists_eq_left',List.length_cons,List.length_nil,Nat.reduceAdd,Nat.reduceLT,reduceCtorEq,implies_true,exists_eq'])
  ·cases e
 ·cases e
end
section
set_option maxRecDepth 100000
set_option maxHeartbeats 4000000
def XAO (x y:EvF):Prop:=ZHl x.1.dot (wS x.2.1 x.2.1.length) y.1.dot (wS y.2.1 y.2.1.length)
noncomputable instance:DecidableRel XAO:=fun _ _=>inferInstanceAs (Decidable (ZHl _ _ _ _))
theorem J3n {h:List AB} {s:AV} {M:List EvF} (e:RdEf h s M):srtI (qkI h) (M.map (·.1))=(srtI XAO M).map (·.1):=by
 have w:∀x∈M,wtH h x.1=wS x.2.1 x.2.1.length:=fun x hx=>by
  unfold wtH
  rw[(e.ev.d (x.1,x.2.1) (List.mem_map.2 ⟨x,hx,rfl⟩)).get]
  rfl
 refine zx5 M fun x hx y hy=>?_
 unfold qkI XAO
 rw[w x hx,w y hy]
def nnE (M:List EvF):Prop:=∀e∈M,q70 e.1.deps.a .ns=some false/\q70 e.1.refs.a .ns=some false
theorem ZmS (k:Nat) (M:List EvF):(ZDg k M).map (·.1)=XvB k M:=by
 unfold ZDg
 rw[List.map_map]
 exact List.map_fst_zip (by rw[YjL];exact Nat.le_refl _)
theorem YfC (k:Nat) (M:List EvF):(ZDg k M).length=M.length:=by
 have:=congrArg List.length (ZmS k M)
 rw[List.length_map,YjL]at this
 exact this
theorem ZD3:∀(k:Nat) (M:List EvF),∀x∈XvB k M,∃j d,x.deps.a=exS intR j d/\k<=j/\j<k+2*M.length
 | _,[],_,hx=>by cases hx
 | k,e::M,x,hx=>by
  rcases List.mem_cons.1 hx with rfl|hx
  ·exact ⟨k,_,rfl,Nat.le_refl _,by rw[List.length_cons];omega⟩
  ·obtain ⟨j,d,h1,h2,h3⟩:=ZD3 (k+2) M x hx
   exact ⟨j,d,h1,by omega,by rw[List.length_cons];omega⟩
theorem qSn {k:Nat} {M:List EvF} {y:EvF} (h:y∈ZDg k M):∃z∈M,y.2=z.2:=by
 obtain ⟨p,hp,rfl⟩:=List.mem_map.1 h
 obtain ⟨a,b⟩:=p
 exact ⟨b,(List.of_mem_zip hp).2,rfl⟩
open Classical in
noncomputable def qQp:List AV->List AB->Option (AV×List AB)
 | [s],h=>(z47 h s).bind fun M=>if M.length<=20/\bdE M/\nnE M then some (apS evR (h.length+2*M.length) ((srtI XAO (ZDg h.length M)).map (·.1)),h++(zWI M++[resN evR true ((srtI XAO (ZDg h.length M)).map (·.1))])) else none
 | _,_=>none
theorem q9U:Spec Tryz.prog 46 qQp:=by
 intro args h v h' e
 unfold qQp at e
 split at e
 ·rename_i s
  obtain ⟨M,hs,e2⟩:=KiG e
  clear e
  split at e2
  ·rename_i hcc
   obtain ⟨h20,hb,hnn⟩:=hcc
   rw[Option.some.injEq,Prod.mk.injEq]at e2
   obtain ⟨rfl,rfl⟩:=e2
   refine FnAt.c (FnAt.run (by kernel_rfl) (T:=⟨[⟨102,X7N,fun _=>[]⟩,⟨103,zGM,fun _=>[]⟩,⟨104,YNi,fun _=>[]⟩],[]⟩) ⟨⟨XAF,ZHx,Kvi,trivial⟩,trivial⟩ Tryz.func46 sw46 fun ho hh=>?_)
   simp only[XDA,Bool.and_eq_true]at ho
   have f1:=hs.fst.fx ho.1 (sz:=39) rfl
   rw[List.length_map]at f1
   unfold w46
   simp only[QhU,YqB,z16,Xq6,if_true,if_false,reduceIte,Nat.reduceAdd,Nat.reduceSub,Nat.reduceLeDiff,Nat.reduceEqDiff,Nat.reduceMul,Nat.reduceLT,Int.reduceLT,Int.reduceLE,Int.reduceEq,f1]
   refine q2X (S:=Nat) (fun i=>M.length-i) (fun i=>tp 2++[.ns,apS evR (h.length+2*i) (XvB h.length (M.take i))]++tp 4++[s,.i .i64 (M.length:Int),.i .i64 (i:Int)]++tp 30) (fun i=>h++zWI (M.take i)++[resN evR true (XvB h.length (M.take i))]) (fun i=>i<=M.length) 0 (Nat.zero_le _) ?_ fun i hi=>?_
   ·refine (Bt.pad _ _ 1).trans ?_
    refine Bt.wk ?_
    simp only[z16,Xq6,if_true,if_false,reduceIte,Nat.reduceAdd,Nat.reduceSub,Nat.reduceLeDiff,Nat.reduceEqDiff,Nat.reduceMul,Nat.reduceLT,Int.reduceLT,Int.reduceLE,Int.reduceEq]
    all_goals exact Wk.refl _
   by_cases g:i<M.length
   ·have g':((i:Int)<(M.length:Int))=True:=eq_true (by omega)
    have e1:IntKind.i64.wrap ((i:Int)+1)=((i+1:Nat):Int):=ZWm (by have:=hb.1;unfold In64;omega)
    have hgd:(M.map (·.1)).getD i evR.d=(M[i]).1:=by rw[List.getD_eq_getElem?_getD,List.getElem?_map,List.getElem?_eq_getElem g];rfl
    have hin:M[i]∈M:=List.getElem_mem g
    have hbe:=hb.2 _ hin
    have hne:=hnn _ hin
    have hd:=hs.ev.d _ (List.mem_map.2 ⟨_,hin,rfl⟩)
    have hf:=hs.f _ hin
    have hoe:=hs.okf _ (List.mem_map.2 ⟨_,hin,rfl⟩)
    obtain ⟨e,he⟩:∃e,M[i]=e:=⟨_,rfl⟩
    rw[he]at hgd hin hbe hd hf hne hoe
    obtain ⟨H,hH⟩:∃H,h++zWI (M.take i)=H:=⟨_,rfl⟩
    have hHl:H.length=h.length+2*i:=by rw[<-hH,List.length_append,JmL,List.length_take];congr 2;omega
    have hHB:HOk H:=by
     rw[<-hH,XUr hh]
     exact List.all_eq_true.2 fun B hB=>K0m _ _ B hB
    obtain ⟨out,hout⟩:∃out,XvB h.length (M.take i)=out:=⟨_,rfl⟩
    have hol:out.length=i:=by rw[<-hout,YjL,List.length_take];omega
    have hook:∀x∈out,okL (fun i=>decide (i<H.length)) (evtF x)=true:=by
     rw[<-hout]
     refine Yuj _ _ _ fun j h1 h2=>decide_eq_true ?_
     rw[List.length_take]at h2
     omega
    have n1:XvB h.length (M.take (i+1))=out++[QAO H.length e]:=by
     rw[List.take_succ_eq_append_getElem g,he,QRI,hout,List.length_take,hHl]
     congr 3
     omega
    have n2:∀X,h++(zWI (M.take (i+1))++X)=H++(ZGX e++X):=fun X=>by
     rw[List.take_succ_eq_append_getElem g,he,JcI,<-hH]
     simp only[List.append_assoc]
    have dH:Rd intR H e.1.deps.a e.2.1:=by rw[<-hH];exact hd.app _
    have fH:Rd idR H e.1.refs.a e.2.2:=by rw[<-hH];exact hf.app _
    have gd:∀L,getS intR (H.map AB.freeze++L) e.1.deps.a=some e.2.1:=fun L=>(dH.frz.app _).get
    have gf:∀L,getS idR (H.map AB.freeze++L) e.1.refs.a=some e.2.2:=fun L=>(fH.frz.app _).get
    have b1:=eq_true (p:=e.2.1.length<=1000000) (by omega)
    have b2:=eq_true (p:=e.2.2.length<=1000000) (by omega)
    have nn1:=hne.1
    have nn2:=hne.2
    rw[zNY]at hoe
    simp only[Bool.and_eq_true]at hoe
    have od1:∀c,e.1.deps.a.ok (fun j=>decide (j<H.length+c))=true:=fun c=>AV.ok_mono (fun i q=>by simp only[decide_eq_true_eq]at q ⊢;omega) _ hoe.1
    have of1:∀c,e.1.refs.a.ok (fun j=>decide (j<H.length+c))=true:=fun c=>AV.ok_mono (fun i q=>by simp only[decide_eq_true_eq]at q ⊢;omega) _ hoe.2
    have od2:∀c lo hi anc past,e.1.deps.a.ok (qOk (H.length+c) lo hi anc past)=true:=fun c lo hi anc past=>AV.ok_mono (fun i q=>YO3 (by have:=of_decide_eq_true q;omega)) _ hoe.1
    have of2:∀c lo hi anc past,e.1.refs.a.ok (qOk (H.length+c) lo hi anc past)=true:=fun c lo hi anc past=>AV.ok_mono (fun i q=>YO3 (by have:=of_decide_eq_true q;omega)) _ hoe.2
    obtain ⟨f1a,f1b,f1c,f1d,f1e,f1f,f1g,f1h,f1i,f1j,f1k⟩:=f1
    have lda:∀L,ldV (H++L) (some 39) (elP 39 s i 0)=some (.ag (evtF e.1)):=fun L=>by
     rw[<-hH,List.append_assoc,f1h _ i g,hgd]
     rfl
    have gz:((0:Int)<=(i:Int)/\(i:Int)<(M.length:Int))=True:=eq_true (by omega)
    have soH:∀c,s.ok (fun j=>decide (j<H.length+c))=true:=fun c=>AV.ok_mono (fun i q=>by simp only[decide_eq_true_eq]at q ⊢;omega) s ho.1
    have srH:∀sel,Wk (s.ren (selN H.length sel)) s:=fun sel=>Wk.ren (fun i hi=>ZiE hi) (AV.ok_mono (fun i q=>by simp only[decide_eq_true_eq]at q ⊢;omega) s ho.1)
    have lt:∀y:EvtA,(evtF y).take 39=evtF y:=fun y=>List.take_of_length_le (by rw[YXj];exact Nat.le_refl _)
    have c1:∀l:List AV,(AV.ag l).cells=l:=fun _=>rfl
    have a2:=(Zxc e.1).2.2.1
    have o2:∀y:EvtA,(evtF y)[38]?=some y.refs.a:=fun y=>(Zxc y).2.2.2.2.2.2
    have od:∀k,over (evtF e.1) 2 [exS intR k e.2.1]=evtF { e.1 with deps:=⟨exS intR k e.2.1,rfl⟩ }:=fun k=>ZnF e.1 ⟨_,rfl⟩
    have or:∀(y:EvtA) k,over (evtF y) 38 [exS idR k e.2.2]=evtF { y with refs:=⟨exS idR k e.2.2,rfl⟩ }:=fun y k=>qDf y ⟨_,rfl⟩
    have one1:∀k,(exS intR k e.2.1).one=true:=fun k=>rfl
    have one2:∀k,(exS idR k e.2.2).one=true:=fun k=>rfl
    have t1:e.1.deps.a.isStr=false:=e.1.deps.str
    have t2:e.1.refs.a.isStr=false:=e.1.refs.str
    have fa:=fun (A B C D:AB) ys=>K35 (h:=H) (r:=evR) (sz:=39) rfl [resN evR true out,A,B,C,D] 0 out 136 1 ys rfl (by decide) (by rw[hol];have:=hb.1;omega) (by rw[hol];have:=hb.1;unfold maxLen;omega)
    have rok:∀c,(resN evR true out).ok (fun i=>decide (i<H.length+c))=true:=fun c=>qn4 fun x hx=>KAd (fun i q=>by simp only[decide_eq_true_eq]at q ⊢;omega) _ (hook x hx)
    have rokq:∀c lo hi anc past,(resN evR true out).ok (qOk (H.length+c) lo hi anc past)=true:=fun c lo hi anc past=>qn4 fun x hx=>KAd (fun i q=>YO3 (by have:=of_decide_eq_true q;omega)) _ (hook x hx)
    have rfz:(resN evR true out).freeze=resN evR false out:=KpQ true out
    have rokqf:∀c lo hi anc past,(resN evR false out).ok (qOk (H.length+c) lo hi anc past)=true:=fun c lo hi anc past=>qn4 fun x hx=>KAd (fun i q=>YO3 (by have:=of_decide_eq_true q;omega)) _ (hook x hx)
    have e0:h.length+2*i=H.length+0:=by omega
    rw[hH,hout,e0]
    simp only[QhU,YqB,z16,qdd,Qgj,if_true,if_false,reduceIte,Nat.reduceAdd,Nat.reduceSub,Nat.reduceLeDiff,Nat.reduceEqDiff,Nat.reduceMul,Nat.reduceLT,Int.reduceLT,Int.reduceLE,Int.reduceEq,CO.tmps,Opd.tmps,optT,Nat.reducePow,Nat.reduceDiv,Nat.reduceMod,f1a,f1b,f1c,f1d,f1e,f1f,lda,g,g',gz,e1,X7N,zGM,gd,gf,b1,b2,nn1,nn2,ovE,Q7m,YXj,zNY,zuo,Y4D,lt,c1,a2,o2,od,or,one1,one2,t1,t2,od1,of1,od2,of2,rok,rokq,rokqf,rfz,fa,X1A,X01,XUr hHB,Option.bind_some,Option.map_some,if_true,ZkX,oD,ne_eq,forall_const]
    refine ⟨i+1,g,by dsimp only;omega,?_⟩
    dsimp only
    rw[n1,n2,show h.length+2*(i+1)=H.length+2 by omega,hol,<-hol]
    refine Bt.low (p':=H.length) (Bt.sel [2,3,5] hHB (by decide) ⟨⟨_,rfl,?_⟩,⟨_,rfl,?_⟩,⟨_,rfl,?_⟩,trivial⟩ ?_) (by omega) (by rw[List.length_append];omega)
    ·rw[YhS];trivial
    ·rw[YhS];trivial
    ·refine q1q hook (Qet _ _ _ (decide_eq_true (by simp only[List.length_cons,List.length_nil];omega)) (decide_eq_true (by simp only[List.length_cons,List.length_nil];omega))) ?_
     rw[ZxE,qun,show selN H.length [2,3,5] H.length=H.length+2 from JRu 0,show selN H.length [2,3,5] (H.length+1)=H.length+3 from JRu 1]
     exact Qs6 _
    ·have hap:AV.sl (H.length+5) 0 (out.length+1) (out.length+1) (some 39)=apS evR (H.length+5) (out++[QAO H.length e]):=(ZTK (r:=evR) (H.length+5) out (QAO H.length e)).symm
     rw[hap]
     have ao:(apS evR (H.length+2) (out++[QAO H.length e])).ok (fun i=>decide (i<H.length+3))=true:=Yv9 _ _ _ (by simp)
     simp only[tp_0,tp_s,List.cons_append,List.nil_append,KlC,FrSel,BlkSel,AV.ren,renL,AV.ok,okL,Option.some.injEq,exists_eq_left',List.length_cons,List.length_nil,Nat.reduceAdd,Nat.reduceLT,reduceCtorEq,implies_true,exists_eq',soH,srH,ao]
   ·have g':((i:Int)<(M.length:Int))=False:=eq_false (by omega)
    have hiM:i=M.length:=by omega
    subst hiM
    rw[List.take_length]
    obtain ⟨hc,hhc⟩:∃hc,h++zWI M=hc:=⟨_,rfl⟩
    have hcl:hc.length=h.length+2*M.length:=by rw[<-hhc,List.length_append,JmL]
    have hcB:HOk hc:=by
     rw[<-hhc,XUr hh]
     exact List.all_eq_true.2 fun B hB=>K0m _ _ B hB
    obtain ⟨out,hout⟩:∃out,XvB h.length M=out:=⟨_,rfl⟩
    have hol:out.length=M.length:=by rw[<-hout,YjL]
    have hook:∀x∈out,okL (fun i=>decide (i<hc.length)) (evtF x)=true:=by
     rw[<-hout]
     exact Yuj _ _ _ fun j h1 h2=>decide_eq_true (by omega)
    have rd0:∀L,RdEf (hc++resN evR true out::L) (apS evR hc.length out) (ZDg h.length M):=fun L=>by
     have:=XcZ (h:=h) (L:=L) hb (b:=true)
     rw[hout,<-List.append_assoc,hhc,<-hcl]at this
     exact this
    have hS:srtI (qkI (hc++[resN evR true out])) out=(srtI XAO (ZDg h.length M)).map (·.1):=by
     have:=J3n (rd0 [])
     rw[ZmS,hout]at this
     exact this
    obtain ⟨S,hSe⟩:∃S,(srtI XAO (ZDg h.length M)).map (·.1)=S:=⟨_,rfl⟩
    rw[hSe]at hS
    have hSl:S.length=M.length:=by rw[<-hS,KuP,hol]
    have hSk:∀x∈S,okL (fun i=>decide (i<hc.length)) (evtF x)=true:=fun x hx=>hook x ((YQG _ _).mem_iff.1 (by rw[hS];exact hx))
    have sst:YNi [apS evR (hc.length+0) out,cmpA] (hc++[resN evR true out])=some (.tu [],hc++[resN evR true S]):=by
     have r0:=(rd0 []).fst
     rw[ZmS,hout]at r0
     rw[QKa,if_pos rfl,Nat.add_zero,r0.get,Option.bind_some]
     by_cases h0:out.length=0
     ·rw[if_pos h0]
      have o0:=List.eq_nil_of_length_eq_zero h0
      have s0:=List.eq_nil_of_length_eq_zero (by omega:S.length=0)
      rw[o0,s0]
     ·rw[if_neg h0]
      have hid:idOf (apS evR hc.length out)=[hc.length]:=by unfold apS;rw[if_neg h0];rfl
      rw[hid]
      have hset:hc++[resN evR true S]=(hc++[resN evR true out]).set hc.length (resN evR true (srtI (qkI (hc++[resN evR true out])) out)):=by
       rw[hS,List.set_append_right _ _ (Nat.le_refl _),Nat.sub_self]
       rfl
      rw[hset]
      refine if_pos ⟨rfl,by omega,by rw[List.getElem?_append_right (Nat.le_refl _),Nat.sub_self];rfl,fun x hx=>?_⟩
      have ox:=hook x hx
      refine ⟨KAd (fun i q=>by simp only[decide_eq_true_eq,List.length_append]at q ⊢;omega) _ ox,fun k hk=>?_,?_⟩
      ·obtain ⟨j,d,q1,q2,q3⟩:=ZD3 h.length M x (by rw[hout];exact hx)
       rw[q1]at hk
       have:k=j:=List.mem_singleton.1 hk
       omega
      ·rw[<-hout,<-ZmS]at hx
       obtain ⟨y,hy,rfl⟩:=List.mem_map.1 hx
       obtain ⟨z,hz,e⟩:=qSn hy
       refine ⟨y.2.1,(rd0 []).ev.d (y.1,y.2.1) (List.mem_map.2 ⟨y,hy,rfl⟩),?_⟩
       rw[e]
       have:=hb.2 z hz
       omega
    rw[hhc,<-hcl,hout,hSe]
    rw[show hc.length=hc.length+0 from rfl]
    have en:∀X,h++(zWI M++X)=hc++X:=fun X=>by rw[<-hhc,List.append_assoc]
    rw[en]
    simp only[QhU,YqB,z16,Xq6,if_true,if_false,reduceIte,Nat.reduceAdd,Nat.reduceSub,Nat.reduceLeDiff,Nat.reduceEqDiff,Nat.reduceMul,Nat.reduceLT,Int.reduceLT,Int.reduceLE,Int.reduceEq,g',sst,oD,ne_eq,forall_const]
    have hap:apS evR (hc.length+0) out=apS evR hc.length S:=by unfold apS;rw[hSl,hol];rfl
    rw[hap,hol,<-hSl]
    obtain ⟨h1,hh1⟩:∃h1,hc++[resN evR true S]=h1:=⟨_,rfl⟩
    have h1l:h1.length=hc.length+1:=by rw[<-hh1,List.length_append];rfl
    have h1B:HOk h1:=by
     rw[<-hh1,XUr hcB]
     refine List.all_eq_true.2 fun B hB=>?_
     rw[List.mem_singleton.1 hB]
     exact qn4 fun x hx=>KAd (fun i q=>by simp only[decide_eq_true_eq,List.length_singleton]at q ⊢;omega) _ (hSk x hx)
    have hSk1:∀x∈S,okL (fun i=>decide (i<h1.length)) (evtF x)=true:=fun x hx=>KAd (fun i q=>by simp only[decide_eq_true_eq]at q ⊢;omega) _ (hSk x hx)
    have r1:Rd evR h1 (apS evR hc.length S) S:=by
     rw[<-hh1]
     exact qFX (m:=true) (by rw[List.getElem?_append_right (Nat.le_refl _),Nat.sub_self];rfl) (by unfold maxLen;omega)
    have so:(apS evR hc.length S).ok (fun i=>decide (i<h1.length))=true:=Yv9 _ _ _ (decide_eq_true (by omega))
    have f2:=r1.fx so (sz:=39) rfl
    generalize hs2:apS evR hc.length S=s2 at *
    refine q2X (S:=Nat) (fun i=>S.length-i) (fun i=>tp 2++[apS evR (h1.length+0) (S.take i)]++tp 26++[s2,.i .i64 (S.length:Int),.i .i64 (i:Int)]++tp 9) (fun i=>h1++[resN evR true (S.take i)]) (fun i=>i<=S.length) 0 (Nat.zero_le _) ?_ fun i hi=>?_
    ·rw[hh1]
     refine (Bt.pad _ _ 1).trans ?_
     refine Bt.wk ?_
     simp only[z16,Xq6,if_true,if_false,reduceIte,Nat.reduceAdd,Nat.reduceSub,Nat.reduceLeDiff,Nat.reduceEqDiff,Nat.reduceMul,Nat.reduceLT,Int.reduceLT,Int.reduceLE,Int.reduceEq]
     all_goals exact Wk.refl _
    by_cases g2:i<S.length
    ·have g':((i:Int)<(S.length:Int))=True:=eq_true (by omega)
     have e1:IntKind.i64.wrap ((i:Int)+1)=((i+1:Nat):Int):=ZWm (by unfold In64;omega)
     have gz:((0:Int)<=(i:Int)/\(i:Int)<(S.length:Int))=True:=eq_true (by omega)
     have hgd:S.getD i evR.d=S[i]:=by rw[List.getD_eq_getElem?_getD,List.getElem?_eq_getElem g2];rfl
     obtain ⟨e,he⟩:∃e,S[i]=e:=⟨_,rfl⟩
     rw[he]at hgd
     have heS:e∈S:=by rw[<-he];exact List.getElem_mem g2
     obtain ⟨f2a,f2b,f2c,f2d,f2e,f2f,f2g,f2h,f2i,f2j,f2k⟩:=f2
     have lda:∀L,ldV (h1++L) (some 39) (elP 39 s2 i 0)=some (.ag (evtF e)):=fun L=>by
      rw[f2h _ i g2,hgd]
      rfl
     have lt:∀y:EvtA,(evtF y).take 39=evtF y:=fun y=>List.take_of_length_le (by rw[YXj];exact Nat.le_refl _)
     have c1:∀l:List AV,(AV.ag l).cells=l:=fun _=>rfl
     obtain ⟨o3,ho3⟩:∃o3,S.take i=o3:=⟨_,rfl⟩
     have o3l:o3.length=i:=by rw[<-ho3,List.length_take];omega
     have o3k:∀x∈o3,okL (fun i=>decide (i<h1.length)) (evtF x)=true:=fun x hx=>hSk1 x (List.mem_of_mem_take (by rw[ho3];exact hx))
     have n1:S.take (i+1)=o3++[e]:=by rw[List.take_succ_eq_append_getElem g2,he,ho3]
     have fa:=fun (A B:AB) ys=>K35 (h:=h1) (r:=evR) (sz:=39) rfl [resN evR true o3,A,B] 0 o3 136 1 ys rfl (by decide) (by omega) (by unfold maxLen;omega)
     have soH:∀c,s2.ok (fun j=>decide (j<h1.length+c))=true:=fun c=>AV.ok_mono (fun i q=>by simp only[decide_eq_true_eq]at q ⊢;omega) s2 so
     have srH:∀sel,Wk (s2.ren (selN h1.length sel)) s2:=fun sel=>Wk.ren (fun i hi=>ZiE hi) so
     rw[ho3]
     simp only[QhU,YqB,z16,Xq6,if_true,if_false,reduceIte,Nat.reduceAdd,Nat.reduceSub,Nat.reduceLeDiff,Nat.reduceEqDiff,Nat.reduceMul,Nat.reduceLT,Int.reduceLT,Int.reduceLE,Int.reduceEq,f2a,f2b,f2c,f2d,f2e,f2f,lda,g2,g',gz,e1,ovE,Q7m,YXj,lt,c1,fa,Option.bind_some,Option.map_some,if_true,ZkX,oD,ne_eq,forall_const]
     refine ⟨i+1,g2,by dsimp only;omega,?_⟩
     dsimp only
     rw[n1]
     have hap3:AV.sl (h1.length+3) 0 (o3.length+1) (o3.length+1) (some 39)=apS evR (h1.length+3) (o3++[e]):=(ZTK (r:=evR) (h1.length+3) o3 e).symm
     rw[hap3]
     have ao:(apS evR h1.length (o3++[e])).ok (fun i=>decide (i<h1.length+1))=true:=Yv9 _ _ _ (by simp)
     refine Bt.low (p':=h1.length) (Bt.sel [3] h1B (by decide) ⟨⟨_,rfl,?_⟩,trivial⟩ ?_) (by omega) (by rw[List.length_append];omega)
     ·refine q1q o3k (KAd (fun i q=>by simp only[decide_eq_true_eq]at q ⊢;omega) _ (hSk1 e heS)) ?_
      exact KFJ (hSk1 e heS)
     ·simp only[tp_0,tp_s,List.cons_append,List.nil_append,KlC,FrSel,BlkSel,AV.ren,renL,AV.ok,okL,Option.some.injEq,exists_eq_left',List.length_cons,List.length_nil,Nat.reduceAdd,Nat.reduceLT,reduceCtorEq,implies_true,exists_eq',soH,srH,ao]
    ·have g':((i:Int)<(S.length:Int))=False:=eq_false (by omega)
     have hiM:i=S.length:=by omega
     subst hiM
     rw[List.take_length]
     simp only[QhU,YqB,z16,Xq6,if_true,if_false,reduceIte,Nat.reduceAdd,Nat.reduceSub,Nat.reduceLeDiff,Nat.reduceEqDiff,Nat.reduceMul,Nat.reduceLT,Int.reduceLT,Int.reduceLE,Int.reduceEq,f2,g',oD,ne_eq,forall_const]
     rw[<-hs2,<-hh1,List.append_assoc,List.length_append]
     refine Bt.low (p':=hc.length) (Bt.sel [1] hcB (by decide) ⟨⟨_,rfl,?_⟩,trivial⟩ ?_) (by omega) (by rw[List.length_append];omega)
     ·exact KHk (n:=1) hSk
     ·have ao:(apS evR hc.length S).ok (fun i=>decide (i<hc.length+1))=true:=Yv9 _ _ _ (by simp)
      simp only[List.length_singleton,List.length_cons,List.length_nil,Nat.zero_add,KlC,FrSel,BlkSel,AV.ren,renL,AV.ok,okL,Option.some.injEq,exists_eq_left',List.length_cons,List.length_nil,Nat.reduceAdd,Nat.reduceLT,reduceCtorEq,implies_true,exists_eq',ao]
  ·cases e2
 ·cases e
end
section
set_option maxRecDepth 100000
set_option maxHeartbeats 4000000
theorem RdEf.filter {h H:List AB} {s t:AV} {M:List EvF} (e:RdEf h s M) (p:EvF->Bool) (ht:Rd evR H t ((M.filter p).map (·.1))) (hl:h.length<=H.length) (hd:∀x∈M,Rd intR H x.1.deps.a x.2.1) (hf:∀x∈M,Rd idR H x.1.refs.a x.2.2):RdEf H t (M.filter p):=by
 refine ⟨⟨by rw[List.map_map];exact ht,fun x hx=>?_,fun x hx=>?_⟩,fun x hx=>hf x (List.mem_filter.1 hx).1,fun x hx=>e.c x (List.mem_filter.1 hx).1⟩
 ·obtain ⟨y,hy,rfl⟩:=List.mem_map.1 hx
  exact hd y (List.mem_filter.1 hy).1
 ·obtain ⟨y,hy,rfl⟩:=List.mem_map.1 hx
  exact KAd (fun i q=>by simp only[decide_eq_true_eq]at q ⊢;omega) _ (e.ev.o (y.1,y.2.1) (List.mem_map.2 ⟨y,(List.mem_filter.1 hy).1,rfl⟩))
theorem XIV (xs:List Int) (M:List EvF):delP (notU xs) (M.map (·.1))=(M.filter fun e=>decide (vhas xs e.1.dot)).map (·.1):=by
 unfold delP
 rw[List.filter_map]
 congr 1
 refine List.filter_congr fun x _=>?_
 show decide (¬ ¬vhas xs x.1.dot)=_
 exact decide_eq_decide.2 Classical.not_not
def undE (xs:List Int) (M:List EvF):List EvF:=M.filter fun e=>decide (vhas xs e.1.dot)
open Classical in
theorem YVn {h : List AB} {s v : AV} {j : Nat} {xs : List Int} {l : List EvtA} (hv : bxS h j = some v) (hx : Rd intR h v xs) (hs : Rd evR h s l) : ZjN [s, cutA j] h = (match idOf s with
      | []=>if s=.ns then some (.ns,h) else none
      | [id]=>if s=apS evR id l/\l.length≠0/\h[id]?=some (resN evR true l)/\j≠id/\(∀k∈idOf v,k≠id)/\l.length<=1000/\(∀x∈l,okL (fun i=>decide (i<h.length)) (evtF x)=true) then some (rsl evR id (delP (notU xs) l),h.set id (resN evR true (delP (notU xs) l))) else none
      | _=>none):=by
  show (if 83=83 then (bxS h j).bind _ else none)=_
  rw[if_pos rfl,hv,Option.bind_some,hx.get,Option.bind_some,hs.get,Option.bind_some]
  rfl
open Classical in
noncomputable def XPC:List AV->List AB->Option (AV×List AB)
 | [l,v],h=>(z47 h l).bind fun M=>(getS intR h v).bind fun xs=>if M.length<=20/\bdE M/\nnE M/\(M=[]->l=.ns)/\(∀k∈idOf v,k<h.length) then some (apS evR (h.length+2+2*(undE xs M).length) ((srtI XAO (ZDg (h.length+2) (undE xs M))).map (·.1)),h++(.blk false true [v]::resN evR true ((undE xs M).map (·.1))::(zWI (undE xs M)++[resN evR true ((srtI XAO (ZDg (h.length+2) (undE xs M))).map (·.1))]))) else none
 | _,_=>none
theorem qSr:Spec Tryz.prog 30 XPC:=by
 intro args h v' h' e
 unfold XPC at e
 split at e
 ·rename_i s v
  obtain ⟨M,hs,e2⟩:=KiG e
  obtain ⟨xs,hx,e3⟩:=zZy e2
  clear e e2
  split at e3
  ·rename_i hcc
   obtain ⟨h20,hb,hnn,hns,hid⟩:=hcc
   rw[Option.some.injEq,Prod.mk.injEq]at e3
   obtain ⟨rfl,rfl⟩:=e3
   refine FnAt.c (FnAt.run (by kernel_rfl) (T:=⟨[⟨82,JMz,fun _=>[]⟩,⟨81,ZjN,fun _=>[]⟩,⟨46,qQp,fun _=>[]⟩],[]⟩) ⟨⟨YCz,YVM,q9U,trivial⟩,trivial⟩ Tryz.func30 sw30 fun ho hh=>?_)
   simp only[XDA,Bool.and_eq_true]at ho
   obtain ⟨H,hH⟩:∃H,h++[AB.blk false true [v]]=H:=⟨_,rfl⟩
   have hHl:H.length=h.length+1:=by rw[<-hH,List.length_append];rfl
   have c1:JMz [s] H=some (apS evR H.length (M.map (·.1)),H++[resN evR true (M.map (·.1))]):=by
    show (z47 _ _).bind _=_
    rw[<-hH,(hs.app _).get,Option.bind_some]
    exact if_pos ⟨by omega,hns⟩
   have bs:∀L,bxS (H++L) h.length=some v:=fun L=>by
    rw[<-hH,List.append_assoc]
    unfold bxS
    rw[List.getElem?_append_right (Nat.le_refl _),Nat.sub_self]
    rfl
   have gv:∀L,getS intR (H++L) v=some xs:=fun L=>by rw[<-hH,List.append_assoc];exact (hx.app _).get
   have hdl:=XIV xs M
   obtain ⟨s2,d1,d2⟩:∃s2,ZjN [apS evR H.length (M.map (·.1)),cutA h.length] (H++[resN evR true (M.map (·.1))])=some (s2,H++[resN evR true ((undE xs M).map (·.1))])/\RdEf (H++[resN evR true ((undE xs M).map (·.1))]) s2 (undE xs M):=by
    have r0:Rd evR (H++[resN evR true (M.map (·.1))]) (apS evR H.length (M.map (·.1))) (M.map (·.1)):=qFX (m:=true) (by rw[List.getElem?_append_right (Nat.le_refl _),Nat.sub_self];rfl) (by rw[List.length_map];unfold maxLen;omega)
    have gv':∀L,Rd intR (H++L) v xs:=fun L=>by rw[<-hH,List.append_assoc];exact hx.app _
    rw[YVn (bs _) (gv' _) r0,hdl]
    have hM0:(undE xs M).map (·.1)=delP (notU xs) (M.map (·.1)):=hdl.symm
    have hgi:∀x∈M,Rd intR (H++[resN evR true ((undE xs M).map (·.1))]) x.1.deps.a x.2.1:=fun x hx=>by
     rw[<-hH,List.append_assoc]
     exact (hs.ev.d (x.1,x.2.1) (List.mem_map.2 ⟨x,hx,rfl⟩)).app _
    have hgf:∀x∈M,Rd idR (H++[resN evR true ((undE xs M).map (·.1))]) x.1.refs.a x.2.2:=fun x hx=>by
     rw[<-hH,List.append_assoc]
     exact (hs.f x hx).app _
    have hul:(undE xs M).length<=M.length:=List.length_filter_le _ _
    by_cases h0:M=[]
    ·subst h0
     exact ⟨.ns,if_pos rfl,hs.filter _ ⟨rfl,Nat.zero_le _⟩ (by rw[List.length_append];omega) hgi hgf⟩
    ·have hn:¬(M.map (·.1)).length=0:=by rw[List.length_map];exact fun z=>h0 (List.eq_nil_of_length_eq_zero z)
     have hi:idOf (apS evR H.length (M.map (·.1)))=[H.length]:=by unfold apS;rw[if_neg hn];rfl
     rw[hi]
     have hset:H++[resN evR true ((undE xs M).map (·.1))]=(H++[resN evR true (M.map (·.1))]).set H.length (resN evR true ((undE xs M).map (·.1))):=by
      rw[List.set_append_right _ _ (Nat.le_refl _),Nat.sub_self]
      rfl
     refine ⟨rsl evR H.length ((undE xs M).map (·.1)),?_,hs.filter _ (JyI (m:=true) (by rw[List.getElem?_append_right (Nat.le_refl _),Nat.sub_self];rfl) ?_) (by rw[List.length_append];omega) hgi hgf⟩
     ·rw[hset]
      refine if_pos ⟨rfl,hn,by rw[List.getElem?_append_right (Nat.le_refl _),Nat.sub_self];rfl,by omega,fun k hk=>by have:=hid k hk;omega,by rw[List.length_map];omega,fun x hx=>?_⟩
      refine KAd (fun i q=>by simp only[decide_eq_true_eq,List.length_append]at q ⊢;omega) _ (hs.okf x hx)
     ·rw[List.length_map]
      unfold maxLen
      show (undE xs M).length<=_
      omega
   have hul:(undE xs M).length<=M.length:=List.length_filter_le _ _
   obtain ⟨G,hG⟩:∃G,H++[resN evR true ((undE xs M).map (·.1))]=G:=⟨_,rfl⟩
   have hGl:G.length=h.length+2:=by rw[<-hG,List.length_append,hHl];rfl
   rw[hG]at d1 d2
   have s1:qQp [s2] G=some (apS evR (G.length+2*(undE xs M).length) ((srtI XAO (ZDg G.length (undE xs M))).map (·.1)),G++(zWI (undE xs M)++[resN evR true ((srtI XAO (ZDg G.length (undE xs M))).map (·.1))])):=by
    show (z47 _ _).bind _=_
    rw[d2.get,Option.bind_some]
    exact if_pos ⟨by omega,⟨by omega,fun e he=>hb.2 e (List.mem_filter.1 he).1⟩,fun e he=>hnn e (List.mem_filter.1 he).1⟩
   have fv:=hx.fx ho.2.1 (sz:=1) rfl
   unfold w30
   simp only[QhU,YqB,z16,Xq6,simprocAttr,fv]
   rw[hH]
   have d1':ZjN [apS evR H.length (M.map (·.1)),.f (.func 83) [] [.p (h.length+0) 0]] (H++[resN evR true (M.map (·.1))])=some (s2,G):=d1
   simp only[QhU,YqB,z16,Xq6,simprocAttr,c1,d1',s1]
   rw[hGl,<-hG,<-hH,List.append_assoc,List.append_assoc]
   exact Bt.eq (by rw[Nat.add_assoc]) rfl
  ·cases e3
 ·cases e
end
section
set_option maxRecDepth 100000
set_option maxHeartbeats 4000000
theorem Zo6:Spec Tryz.prog 144 J1t:=by
 intro args h v h' e
 unfold J1t at e
 split at e
 ·rename_i s r
  obtain ⟨l,hs,e⟩:=zZy e
  cases e
  refine FnAt.c (FnAt.run (by kernel_rfl) (T:=⟨[],[]⟩) ⟨trivial,trivial⟩ Tryz.func144 ZiN fun ho hh=>?_)
  simp only[XDA,Bool.and_eq_true]at ho
  have f1:=hs.fx ho.1 (sz:=1) rfl
  unfold w144
  rcases emG (r<1) with a|a
  ·have hv:atV l r=0:=if_pos (.inl (of_eq_true a))
   rw[hv]
   simp only[QhU,YqB,z16,KHD,Xq6,simprocAttr,CO.tmps,Opd.tmps,optT,f1,a,oD,ne_eq,forall_const]
   exact Bt.drop _ hh rfl rfl
  rcases emG ((l.length:Int)<r) with b|b
  ·have hv:atV l r=0:=if_pos (.inr (of_eq_true b))
   rw[hv]
   simp only[QhU,YqB,z16,KHD,Xq6,simprocAttr,CO.tmps,Opd.tmps,optT,f1,a,b,oD,ne_eq,forall_const]
   exact Bt.drop _ hh rfl rfl
  ·have a':=of_eq_false a
   have b':=of_eq_false b
   have hv:atV l r=max (l.getD (r-1).toNat 0) 0:=if_neg fun z=>z.elim a' b'
   rw[hv]
   have e1:IntKind.i64.wrap (r-1)=r-1:=ZWm (by have:=hs.2;unfold maxLen at this;unfold In64;omega)
   have e2:(0<=r-1/\r-1<(l.length:Int))=True:=eq_true (by omega)
   have e3:((r-1).toNat<l.length)=True:=eq_true (by omega)
   simp only[QhU,YqB,z16,KHD,Xq6,simprocAttr,CO.tmps,Opd.tmps,optT,f1,a,b,e1,e2,e3,Zr0,YsC,zRk,Nat.zero_lt_one,if_true,oD,ne_eq,forall_const]
   exact Bt.drop _ hh rfl rfl
 ·cases e
theorem ZyN:Spec Tryz.prog 84 qY8:=by
  intro args h v h' e
  unfold qY8 at e
  split at e
  · rename_i s a b
    obtain ⟨l,hs,e⟩:=zZy e
    cases e
    refine FnAt.c (FnAt.frz0 fun hz=>?_)
    have hs2:=hs.frz
    generalize h.map AB.freeze=h at *
    refine FnAt.run (by kernel_rfl) (T:=⟨[⟨144,J1t,fun _=>[]⟩],[]⟩) ⟨⟨Zo6,trivial⟩,trivial⟩ Tryz.func84 sw84 fun ho hh=>?_
    simp only[XDA,Bool.and_eq_true]at ho
    have f1:=hs2.fx ho.1 (sz:=1) rfl
    have g1:∀x,getS intR (h++x) s=some l:=fun x=>(hs2.app x).get
    unfold w84
    rcases emG (1<=a) with q1|q1 <;> rcases emG (1<=b) with q2|q2 <;> rcases emG (b<=atV l a) with q3|q3 <;>
      (simp only[QhU,YqB,z16,KHD,Xq6,simprocAttr,CO.tmps,Opd.tmps,optT,f1,g1,J1t,q1,q2,q3,oW hh hz,oD,ne_eq,forall_const]
       exact Bt.dropB _ hh (by simp [vhas,q1,q2,q3]))
  · cases e
noncomputable def qlX:List AV->List AB->Option (AV×List AB)
 | [s,t],h=>(getS intR h s).bind fun l=>(getS intR h t).bind fun m=>if l.length<=1000000 then some (.b (leqN l m l.length),h) else none
 | _,_=>none
theorem Zli:Spec Tryz.prog 135 qlX:=by
 intro args h v h' e
 unfold qlX at e
 split at e
 ·rename_i s t
  obtain ⟨l,hs,e⟩:=zZy e
  obtain ⟨m,ht,e⟩:=zZy e
  split at e
  case isFalse=>cases e
  rename_i hl
  cases e
  refine FnAt.c (FnAt.run (by kernel_rfl) (T:=⟨[⟨144,J1t,fun _=>[]⟩],[]⟩) ⟨⟨Zo6,trivial⟩,trivial⟩ Tryz.func135 X4o fun ho hh=>?_)
  simp only[XDA,Bool.and_eq_true]at ho
  have f1:=hs.fx ho.1 (sz:=1) rfl
  have f2:=ht.fx ho.2.1 (sz:=1) rfl
  have g1:∀x,getS intR (h++x) s=some l:=fun x=>(hs.app x).get
  have g2:∀x,getS intR (h++x) t=some m:=fun x=>(ht.app x).get
  unfold w135
  simp only[QhU,YqB,z16,Xq6,simprocAttr]
  refine zXM (S:=Nat) (fun i=>l.length-i) (fun i=>[s,t]++tp 3++[.i .i64 ((i+1:Nat):Int)]++tp 13) (fun i=>i<=l.length/\leqN l m i=true) 0 ⟨Nat.zero_le _,decide_eq_true fun k hk=>absurd hk (Nat.not_lt_zero _)⟩ (by simp only[tp_0,tp_s,List.cons_append,List.nil_append,K2n,JRI,QoW,Jje,and_true,true_and];exact Wk.refl _) fun i hi=>?_
  by_cases g:i<l.length
  ·have g':(((i+1:Nat):Int)<=(l.length:Int))=True:=eq_true (by omega)
   have e1:IntKind.i64.wrap (((i+1:Nat):Int)+1)=((i+1+1:Nat):Int):=ZWm (by unfold In64;omega)
   rcases emG (atV m ((i+1:Nat):Int)<atV l ((i+1:Nat):Int)) with q|q
   ·have hv:leqN l m l.length=false:=decide_eq_false fun z=>by
     have:=z i g
     rw[show ((i:Int)+1)=((i+1:Nat):Int) by omega]at this
     have:=of_eq_true q
     omega
    rw[hv]
    simp only[QhU,YqB,z16,Xq6,simprocAttr,f1,f2,g1,g2,J1t,g',q,e1,Option.bind_some,oD,ne_eq,forall_const]
    exact Bt.drop _ hh rfl rfl
   ·simp only[QhU,YqB,z16,Xq6,simprocAttr,f1,f2,g1,g2,J1t,g',q,e1,Option.bind_some,oD,ne_eq,forall_const]
    refine ⟨i+1,⟨g,?_⟩,by omega,?_⟩
    ·rw[XEQ,hi.2,Bool.true_and]
     exact decide_eq_true (by have:=of_eq_false q;omega)
    ·simp only[tp_0,tp_s,List.cons_append,List.nil_append,K2n,JRI,QoW,Jje,and_true,true_and]
  ·have g':(((i+1:Nat):Int)<=(l.length:Int))=False:=eq_false (by omega)
   obtain ⟨h1,h2⟩:=hi
   have:i=l.length:=by omega
   subst this
   rw[h2]
   simp only[QhU,YqB,z16,Xq6,simprocAttr,f1,f2,g',oD,ne_eq,forall_const]
   exact Bt.drop _ hh rfl rfl
 ·cases e
theorem YoR {l:List Int} {i:Nat} (h:wS l i=4611686018427387904):∀k,wS l (i+k)=4611686018427387904
 | 0=>h
 | k+1=>by
  have h1:=YoR h k
  have h2:=Y6d l ((i+k+1:Nat):Int)
  show wI (wS l (i+k)) (vAt l ((i+k+1:Nat):Int))=_
  rw[h1]
  unfold wI
  omega
theorem Z3Z:Spec Tryz.prog 235 qal:=by
 intro args h v h' e
 unfold qal at e
 split at e
 ·rename_i s
  obtain ⟨l,hs,e⟩:=zZy e
  split at e
  ·rename_i hl
   cases e
   refine FnAt.c (FnAt.run (by kernel_rfl) (T:=⟨[⟨144,J1t,fun _=>[]⟩],[]⟩) ⟨⟨Zo6,trivial⟩,trivial⟩ Tryz.func235 Juw fun ho hh=>?_)
   simp only[XDA,Bool.and_eq_true]at ho
   have f1:=hs.fx ho.1 (sz:=1) rfl
   have g1:∀x,getS intR (h++x) s=some l:=fun x=>(hs.app x).get
   unfold w235
   simp only[QhU,YqB,z16,Xq6,simprocAttr]
   refine zXM (S:=Nat) (fun i=>l.length-i) (fun i=>[s]++tp 2++[.i .i64 (wS l i),.i .i64 ((i+1:Nat):Int)]++tp 18) (fun i=>i<=l.length) 0 (Nat.zero_le _) (by simp only[tp_0,tp_s,List.cons_append,List.nil_append,K2n,JRI,QoW,Jje,and_true,true_and];exact ⟨Wk.refl _,Wk.refl _⟩) fun i hi=>?_
   have hb:=znU l i
   have hp:=QPS l ((i+1:Nat):Int)
   have hw:wS l (i+1)=wI (wS l i) (atV l ((i+1:Nat):Int)):=by show wI _ (vAt _ _)=_;rw[Jld]
   by_cases g:i<l.length
   ·have g':(((i+1:Nat):Int)<=(l.length:Int))=True:=eq_true (by omega)
    have e1:IntKind.i64.wrap (((i+1:Nat):Int)+1)=((i+1+1:Nat):Int):=ZWm (by unfold In64;omega)
    have e2:IntKind.i64.wrap (4611686018427387904-wS l i)=4611686018427387904-wS l i:=ZWm (by unfold In64;omega)
    rcases emG (4611686018427387904-wS l i<atV l ((i+1:Nat):Int)) with q|q
    ·have hv:wS l l.length=4611686018427387904:=by
      have:=YoR (l:=l) (i:=i+1) (by rw[hw];unfold wI;have:=of_eq_true q;omega) (l.length-(i+1))
      rwa [show i+1+(l.length-(i+1))=l.length by omega]at this
     rw[hv]
     simp only[QhU,YqB,z16,Xq6,simprocAttr,f1,g1,J1t,g',q,e1,e2,Option.bind_some,oD,ne_eq,forall_const]
     exact Bt.drop _ hh rfl rfl
    ·have q':=of_eq_false q
     have e3:IntKind.i64.wrap (wS l i+atV l ((i+1:Nat):Int))=wS l (i+1):=by rw[ZWm (by unfold In64;omega),hw];unfold wI;omega
     simp only[QhU,YqB,z16,Xq6,simprocAttr,f1,g1,J1t,g',q,e1,e2,e3,Option.bind_some,oD,ne_eq,forall_const]
     refine ⟨i+1,g,by omega,?_⟩
     simp only[tp_0,tp_s,List.cons_append,List.nil_append,K2n,JRI,QoW,Jje,and_true,true_and]
   ·have g':(((i+1:Nat):Int)<=(l.length:Int))=False:=eq_false (by omega)
    have:i=l.length:=by omega
    subst this
    simp only[QhU,YqB,z16,Xq6,simprocAttr,f1,g',oD,ne_eq,forall_const]
    exact Bt.drop _ hh rfl rfl
  ·cases e
 ·cases e
theorem KaZ (w a b u c d:Int):lexI [w,a,b] [u,c,d]<0↔(if w≠u then w<u else if a≠c then a<c else b<d):=by
 simp only[lexI,cmpI]
 repeat' split
 all_goals omega
theorem Z3x (a:Int×Int) (w:Int) (b:Int×Int) (u:Int):ZHl a w b u↔(if w≠u then w<u else if a.1≠b.1 then a.1<b.1 else a.2<b.2):=by
 obtain ⟨a1,a2⟩:=a
 obtain ⟨b1,b2⟩:=b
 unfold ZHl
 rw[KaZ]
 simp only[ne_eq,Prod.mk.injEq]
 repeat' split
 all_goals omega
theorem ZKg:Spec Tryz.prog 197 Qgw:=by
  intro args h v h' e
  unfold Qgw at e
  split at e
  · rename_i a b s c d t
    obtain ⟨l,hs,e⟩:=zZy e
    obtain ⟨m,ht,e⟩:=zZy e
    split at e
    · rename_i hl
      cases e
      refine FnAt.c (FnAt.run (by kernel_rfl) (T:=⟨[⟨235,qal,fun _=>[]⟩],[]⟩) ⟨⟨Z3Z,trivial⟩,trivial⟩ Tryz.func197 Yoa fun ho hh=>?_)
      simp only[XDA,Bool.and_eq_true]at ho
      have f1:=hs.fx ho.2.1 (sz:=1) rfl
      have f2:=ht.fx ho.2.2.2.1 (sz:=1) rfl
      have g1:∀x,getS intR (h++x) s=some l:=fun x=>(hs.app x).get
      have g2:∀x,getS intR (h++x) t=some m:=fun x=>(ht.app x).get
      have l1:=eq_true hl.1
      have l2:=eq_true hl.2
      unfold w197
      have hv:=Z3x (a,b) (wS l l.length) (c,d) (wS m m.length)
      rcases emG (wS l l.length=wS m m.length) with q|q <;> rcases emG (a=c) with q2|q2 <;>
        (simp only[QhU,YqB,z16,Xq6,simprocAttr,f1,f2,g1,g2,l1,l2,qal,q,q2,Option.bind_some,if_true,oD,ne_eq,forall_const]
         exact Bt.dropB _ hh (by simp [hv,q,q2]))
    · cases e
  · cases e
theorem Jzr:Spec Tryz.prog 145 q1b:=by
 intro args h v h' e
 unfold q1b at e
 split at e
 ·obtain ⟨x,hx,e2⟩:=Kc6 e
  obtain ⟨y,hy,e3⟩:=Kc6 e2
  clear e e2
  subst hx hy
  obtain ⟨l,hs,e4⟩:=zZy e3
  obtain ⟨m,ht,e5⟩:=zZy e4
  clear e3 e4
  split at e5
  ·rename_i hl
   cases e5
   refine FnAt.c (FnAt.run (by kernel_rfl) (T:=⟨[⟨197,Qgw,fun _=>[]⟩],[]⟩) ⟨⟨ZKg,trivial⟩,trivial⟩ Tryz.func145 QXg fun ho hh=>?_)
   obtain ⟨a0,a1,a2,a3,a4,a5,a6⟩:=Zxc x
   obtain ⟨b0,b1,b2,b3,b4,b5,b6⟩:=Zxc y
   have w1:=Q7m x
   have w2:=Q7m y
   have l1:=YXj x
   have l2:=YXj y
   have c1:∀l:List AV,(AV.ag l).cells=l:=fun _=>rfl
   have t1:(evtF x).take 2=[.i .i64 x.dot.1,.i .i64 x.dot.2]:=rfl
   have t2:(evtF y).take 2=[.i .i64 y.dot.1,.i .i64 y.dot.2]:=rfl
   have g1:∀z,getS intR (h++z) x.deps.a=some l:=fun z=>(hs.app z).get
   have g2:∀z,getS intR (h++z) y.deps.a=some m:=fun z=>(ht.app z).get
   have hl':=eq_true hl
   unfold w145
   simp only[QhU,YqB,z16,KHD,Xq6,simprocAttr,CO.tmps,Opd.tmps,optT,Qgw,a0,a1,a2,b0,b1,b2,w1,w2,l1,l2,c1,t1,t2,g1,g2,hl',List.drop_zero,Option.bind_some,if_true,oD,ne_eq,forall_const]
   exact Bt.dropB _ hh rfl
  ·cases e5
 ·cases e
end
end Go.Proofs.YtebcngelgdpbjaaGreat
