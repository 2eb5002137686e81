/- Part 26 of what the laws' proofs rest on. No condition. -/
import Derived.Test.YtebcngelgdpbjaaGreatGq25
set_option linter.all false
namespace Go.Proofs.YtebcngelgdpbjaaGreat
section
section
variable {h:List AB} {p:Nat}
def oB (h:List AB) (id:Nat) (B0:AB):List AB:=h.set id (B0)
theorem ZxG (id:Nat) (B0:AB):(oB h id B0).length=h.length:=List.length_set
theorem K6A {id:Nat} (hid:id<h.length) (B0:AB) (x:List AB):(oB h id B0++x)[id]?=some B0:=by
 rw[List.getElem?_append_left (by rw[ZxG];exact hid)]
 unfold oB
 rw[List.getElem?_set_self hid]
theorem Y1G {id:Nat} {B0:AB} (hb:h[id]?=some B0):oB h id B0=h:=by
 unfold oB
 refine List.ext_getElem? fun i=>?_
 rw[List.getElem?_set]
 split
 ·rename_i e
  subst e
  first|rw[if_pos (List.getElem?_eq_some_iff.1 hb).1,hb] | rw[hb]
 ·rfl
theorem zhj (hp:h.length=p) {id:Nat} (hid:id<h.length) (B0:AB) (c anc n:Nat) (past:List Pt) (l:List AB) (hn:n=p+l.length):XWo (seen (p+c) anc past n) [id] 0 (oB h id B0++l)=oB (h.map AB.freeze) id B0++mskL p c anc past [id] 0 l:=by
 subst hp
 refine List.ext_getElem? fun i=>?_
 rw[Qbl,Nat.zero_add]
 by_cases hi:i<h.length
 ·rw[List.getElem?_append_left (by rw[ZxG];exact hi),List.getElem?_append_left (by rw[ZxG,List.length_map];exact hi)]
  unfold oB
  by_cases e:i=id
  ·subst e
   rw[List.getElem?_set_self hi,List.getElem?_set_self (by rw[List.length_map];exact hi),Option.map_some,if_pos (List.mem_singleton.2 rfl)]
  ·rw[List.getElem?_set_ne (Ne.symm e),List.getElem?_set_ne (Ne.symm e),List.getElem?_map,List.getElem?_eq_getElem hi,Option.map_some,Option.map_some,if_neg (by simpa using e),if_pos]
   exact List.mem_filter.2 ⟨List.mem_range.2 (by omega),YO3 (by omega)⟩
 ·have hne:i≠id:=by omega
  have g1:(oB h id B0++l)[i]?=l[i-h.length]?:=by rw[List.getElem?_append_right (by rw[ZxG];omega),ZxG]
  have g2:(oB (h.map AB.freeze) id B0++mskL h.length c anc past [id] 0 l)[i]?=(mskL h.length c anc past [id] 0 l)[i-h.length]?:=by rw[List.getElem?_append_right (by rw[ZxG,List.length_map];omega),ZxG,List.length_map]
  rw[g1,g2,Q69]
  cases hB:l[i-h.length]? with
  | none=>rfl
  | some B =>
   have hlt:=(List.getElem?_eq_some_iff.1 hB).1
   simp only[Option.map_some,Option.some.injEq,show h.length+(0+(i-h.length))=i by omega]
   rw[if_neg (by simpa using hne),if_neg (show ¬memN i [id]=true by rw[Zsq];simpa using hne)]
   by_cases hq:qOk (h.length+c) 0 0 anc past i=true
   ·rw[if_pos hq,if_pos]
    exact List.mem_filter.2 ⟨List.mem_range.2 (by omega),hq⟩
   ·rw[if_neg hq,if_neg]
    exact fun q=>hq (List.mem_filter.1 q).2
theorem QGw {id:Nat} (hid:id<h.length) (B0 B1:AB) (G l:List AB):ZWL [id] (oB (h.map AB.freeze) id B1++G) 0 (oB h id B0++l)=oB h id B1++mrgL h.length [id] 0 G l:=by
 refine List.ext_getElem? fun i=>?_
 rw[JEo,Nat.zero_add]
 by_cases hi:i<h.length
 ·have g1:(oB h id B0++l)[i]?=(oB h id B0)[i]?:=List.getElem?_append_left (by rw[ZxG];exact hi)
  have g2:(oB (h.map AB.freeze) id B1++G)[i]?=(oB (h.map AB.freeze) id B1)[i]?:=List.getElem?_append_left (by rw[ZxG,List.length_map];exact hi)
  have g3:(oB h id B1++mrgL h.length [id] 0 G l)[i]?=(oB h id B1)[i]?:=List.getElem?_append_left (by rw[ZxG];exact hi)
  rw[if_pos (by rw[List.length_append,ZxG];omega),g1,g2,g3]
  unfold oB
  by_cases e:i=id
  ·subst e
   rw[if_pos (List.mem_singleton.2 rfl),List.getElem?_set_self (by rw[List.length_map];exact hi),List.getElem?_set_self hi]
   rfl
  ·rw[if_neg (by simpa using e),List.getElem?_set_ne (Ne.symm e),List.getElem?_set_ne (Ne.symm e)]
 ·have hne:i≠id:=by omega
  have g1:(oB h id B0++l)[i]?=l[i-h.length]?:=by rw[List.getElem?_append_right (by rw[ZxG];omega),ZxG]
  have g2:(oB (h.map AB.freeze) id B1++G)[i]?=G[i-h.length]?:=by rw[List.getElem?_append_right (by rw[ZxG,List.length_map];omega),ZxG,List.length_map]
  have g3:(oB h id B1++mrgL h.length [id] 0 G l)[i]?=(mrgL h.length [id] 0 G l)[i-h.length]?:=by rw[List.getElem?_append_right (by rw[ZxG];omega),ZxG]
  rw[g1,g2,g3,qEn,List.length_append,ZxG]
  by_cases hl:i-h.length<l.length
  ·rw[if_pos hl,if_pos (by omega),if_neg (by simpa using hne),if_neg (show ¬h.length+(0+(i-h.length))∈[id] by rw[List.mem_singleton];omega)]
  ·rw[if_neg hl,if_neg (by omega)]
theorem XgJ {id:Nat} (hid:id<h.length) (B0:AB) (G:List AB):(oB h id B0++G).getD id .dead=B0:=by
 rw[List.getD_eq_getElem?_getD,K6A hid]
 rfl
theorem Z3V (id:Nat) (B0:AB) (l:List AB):(oB h id B0++l).length=h.length+l.length:=by rw[List.length_append,ZxG]
theorem ZlO (id:Nat) (B0:AB) (l:List AB) (n:Nat):(oB h id B0++l).drop (h.length+n)=l.drop n:=JYq (ZxG id B0) l n
theorem zMZ {id:Nat} (hid:id<h.length) (hh:HOk h) (B0:AB) (x:List AB):HOk (oB h id B0++x)=((B0.ok (fun i=>decide (i<h.length+x.length))&&x.all fun B=>B.ok (fun i=>decide (i<h.length+x.length)))=true):=by
 refine propext ⟨fun q=>?_,fun q i B hB=>?_⟩
 ·rw[Bool.and_eq_true]
  refine ⟨?_,List.all_eq_true.2 fun B hB=>?_⟩
  ·have:=q id _ (K6A hid B0 x)
   rw[Z3V]at this
   exact this
  ·obtain ⟨j,hj,rfl⟩:=List.getElem_of_mem hB
   have:=q (h.length+j) x[j] (by rw[List.getElem?_append_right (by rw[ZxG];omega),ZxG,Nat.add_sub_cancel_left,List.getElem?_eq_getElem hj])
   rw[Z3V]at this
   exact this
 ·rw[Z3V]
  rw[Bool.and_eq_true]at q
  obtain ⟨q1,q2⟩:=q
  by_cases hi:i<h.length
  ·rw[List.getElem?_append_left (by rw[ZxG];exact hi)]at hB
   unfold oB at hB
   rw[List.getElem?_set]at hB
   split at hB
   ·rename_i e
    subst e
    first|rw[if_pos hid]at hB|skip
    cases hB
    exact q1
   ·exact AB.ok_mono (fun i hi=>by simp only[decide_eq_true_eq]at hi ⊢;omega) B (hh i B hB)
  ·rw[List.getElem?_append_right (by rw[ZxG];omega),ZxG]at hB
   exact List.all_eq_true.1 q2 B (List.mem_of_getElem? hB)
theorem ZrG {id k:Nat} (hk:k<h.length) (hne:k≠id) (B0:AB) (x:List AB):(oB h id B0++x)[k]?=h[k]?:=by
 rw[List.getElem?_append_left (by rw[ZxG];exact hk)]
 unfold oB
 rw[List.getElem?_set_ne (Ne.symm hne)]
theorem Xqv {id:Nat} (hid:id<h.length) (B0 B1:AB) (x:List AB):(oB h id B0++x).set id B1=oB h id B1++x:=by
 rw[List.set_append_left _ _ (by rw[ZxG];exact hid)]
 unfold oB
 rw[List.set_set]
theorem ZJG {id k:Nat} {xs:List AV} (hk:ZMh h k=some xs) (hne:k≠id) (B0:AB) (x:List AB) (n:Option Nat) (o:Nat):ldV (oB h id B0++x) n (.p k o)=ldV h n (.p k o):=by
 have hlt:=Kvu hk
 have:ZMh (oB h id B0++x) k=ZMh h k:=by
  unfold ZMh
  rw[ZrG hlt hne]
 cases n <;> simp only[ldV,this]
theorem QnU {α:Type} (r:KeyR α) (m:Bool) (l:List (α×AV)):(mpB r m l).freeze=mpB r false l:=oI rfl
theorem KBJ {α:Type} (r:KeyR α) {id:Nat} (hid:id<h.length) (l:List (α×AV)) (x:List AB) (d:α) (v:AV):muV (oB h id (mpB r true l)++x) r.ag r.ks (.m id) (r.f d) v=some (oB h id (mpB r true (putM r l d v))++x):=by rw[YOF r (K6A hid _ x),Xqv hid]
theorem Kss {id:Nat} (hh:HOk h) {B0:AB} (hB:∀q,B0.ok q=true):HOk (oB h id B0):=fun i C hC=>by
 rw[ZxG]
 unfold oB at hC
 rw[List.getElem?_set]at hC
 split at hC
 ·split at hC
  ·cases hC;exact hB _
  ·cases hC
 ·exact hh i C hC
theorem Bt.selO {P:Program} {id:Nat} {B0:AB} {l l':List AB} {fr fr':List AV} (sel:List Nat) (hh:HOk h) (hB:∀q,B0.ok q=true) (hnd:sel.Nodup) (hb:BlkSel h.length sel sel.length l sel l') (hfr:FrSel h.length sel sel.length fr fr'):Bt P h.length fr (oB h id B0++l) fr' (oB h id B0++l'):=by
 have:=Bt.sel (P:=P) (h:=oB h id B0) (l:=l) (l':=l') (fr:=fr) (fr':=fr') sel (Kss hh hB) hnd (by rw[ZxG];exact hb) (by rw[ZxG];exact hfr)
 rwa [ZxG]at this
theorem zMD (id:Nat) (B0:AB):(oB h id B0).map AB.freeze=oB (h.map AB.freeze) id B0.freeze:=by unfold oB;rw[List.map_set]
end
end
section
section
variable {α:Type} {r:Row α}
theorem K9U (l l':List α):r.cells (l++l')=r.cells l++r.cells l':=List.flatMap_append
theorem KJn (l:List α) (i:Nat) (x:α) (h:i<l.length):over (r.cells l) (i*r.sz) (r.f x)=r.cells (l.set i x):=by
 have e:i*r.sz+r.sz=(i+1)*r.sz:=(Nat.succ_mul i r.sz).symm
 unfold over
 rw[r.len,e,r.cells_take,r.cells_drop,List.set_eq_take_append_cons_drop,if_pos h,K9U,List.append_assoc]
 rfl
theorem XPP (n:Nat) (z:α):r.cells (List.replicate n z)=(List.replicate n (r.f z)).flatten:=by
 induction n with
 | zero=>rfl
 | succ n ih =>
  rw[List.replicate_succ,List.replicate_succ,List.flatten_cons,<-ih]
  rfl
theorem XH6 (l:List α) (i n:Nat) (z:α) (h:i+n=l.length):over (r.cells l) (i*r.sz) (List.replicate n (r.f z)).flatten=r.cells (l.take i++List.replicate n z):=by
 have hl:(List.replicate n (r.f z)).flatten.length=n*r.sz:=by rw[<-XPP,r.cells_len,List.length_replicate]
 unfold over
 rw[hl,<-Nat.add_mul,h,r.cells_take,r.cells_drop,List.drop_length,K9U,XPP]
 exact List.append_nil _
end
end
section
section
variable {α:Type} {r:Row α} {h:List AB}
def resN (r:Row α) (m:Bool) (l:List α):AB:=if l.length=0 then .dead else .blk false m (r.cells l)
theorem YGK (m:Bool) {l:List α} (h0:l.length=0):resN r m l=.dead:=by
 unfold resN
 rw[if_pos h0]
theorem qPl (m:Bool) {l:List α} (h0:l.length≠0):resN r m l=.blk false m (r.cells l):=by
 unfold resN
 rw[if_neg h0]
theorem KpQ (m:Bool) (l:List α):(resN r m l).freeze=resN r false l:=by
 unfold resN
 split <;> rfl
theorem Yfh (m:Bool) (l:List α) (x:α):resN r m (l++[x])=.blk false m (r.cells l++r.f x):=by
 unfold resN
 rw[if_neg (by simp)]
 simp [Row.cells]
theorem XBa {H:List AB} {id:Nat} {m:Bool} {l:List α} (e:H[id]?=some (resN r m l)) (h0:l.length≠0):ZMh H id=some (r.cells l):=by
 unfold ZMh
 rw[e,qPl m h0]
theorem JyI {H:List AB} {id:Nat} {m:Bool} {l:List α} (e:H[id]?=some (resN r m l)) (hl:l.length<=maxLen):Rd r H (rsl r id l) l:=by
 refine ⟨?_,hl⟩
 by_cases h0:l.length=0
 ·obtain rfl:=List.eq_nil_of_length_eq_zero h0
  rfl
 ·rw[KYS _ h0]
  simp only[rdS]
  rw[if_neg h0,XBa e h0,Option.bind_some,if_pos (by rw[r.cells_len];omega),List.drop_zero,List.take_of_length_le (by rw[r.cells_len];exact Nat.le_refl _)]
theorem qFX {H:List AB} {id:Nat} {m:Bool} {l:List α} (e:H[id]?=some (resN r m l)) (hl:l.length<=maxLen):Rd r H (apS r id l) l:=by
 by_cases h0:l.length=0
 ·obtain rfl:=List.eq_nil_of_length_eq_zero h0
  exact ⟨rfl,Nat.zero_le _⟩
 ·rw[YM0 _ h0]
  exact JyI e hl
theorem YgJ {H:List AB} {id:Nat} {m:Bool} {l:List α} (e:H[id]?=some (resB r m l)) (hl:l.length<=maxLen):Rd r H (apS r id l) l:=by
 by_cases h0:l.length=0
 ·obtain rfl:=List.eq_nil_of_length_eq_zero h0
  exact ⟨rfl,Nat.zero_le _⟩
 ·rw[YM0 _ h0]
  exact K0d e hl
theorem K35 {sz:Nat} (hz:r.sz=sz) (L:List AB) (k:Nat) (l:List α) (by_ m:Nat) (ys:List AV) (hb:L[k]?=some (resN r true l)) (hm:m≠0) (h1:(l.length+m)*by_<=140737488355328) (h2:l.length+m<=maxLen) :
  appW (h++L) false sz by_ (apS r (h.length+k) l) m ys=some (.sl (h.length+L.length) 0 (l.length+m) (l.length+m) (some sz),h++(q3W L k++[.blk false true (r.cells l++ys)])):=by
 subst hz
 have hk:k<L.length:=(List.getElem?_eq_some_iff.1 hb).1
 unfold apS
 by_cases h0:l.length=0
 ·rw[if_pos h0]
  have:l=[]:=List.eq_nil_of_length_eq_zero h0
  subst this
  simp only[List.length_nil,Nat.zero_add]at h1 h2
  rw[ZP2,if_neg hm,if_pos ⟨h1,h2⟩]
  rw[YGK true rfl]at hb
  have hs:L.set k .dead=L:=List.ext_getElem? fun i=>by
   rw[List.getElem?_set]
   by_cases e:k=i
   ·subst e
    rw[if_pos rfl,if_pos hk,hb]
   ·rw[if_neg e]
  simp only[List.length_nil,Nat.zero_add,XBP,List.nil_append,Zsh,hs]
 ·rw[if_neg h0]
  rw[qPl true h0]at hb
  unfold appW
  dsimp only
  rw[if_neg hm,if_neg (by omega),qu4,hb]
  simp only[true_and,Nat.zero_add,r.cells_len,Nat.le_refl,h1,h2,if_true,reduceCtorEq,if_false,List.drop_zero,List.length_append]
  rw[if_pos (by have:=r.pos;exact ⟨by omega,trivial⟩),Zsh,List.set_append_right _ _ (by omega),Nat.add_sub_cancel_left,List.append_assoc]
theorem KFJ {p:Nat} {sel:List Nat}:∀ {l:List AV},okL (fun i=>decide (i<p)) l=true->WkL (renL (selN p sel) l) l
 | [],_=>trivial
 | a::l,h=>by
  simp only[XDA,Bool.and_eq_true]at h
  exact ⟨Wk.ren (fun i hi=>ZiE hi) h.1,KFJ h.2⟩
theorem Qgf {q:Nat->Bool}:∀(a b:List AV),okL q (a++b)=(okL q a&&okL q b)
 | [],b=>by simp [okL]
 | x::a,b=>by rw[List.cons_append,XDA,XDA,Qgf a b,Bool.and_assoc]
theorem Xad {q:Nat->Bool}:∀ {l:List α},(∀x∈l,okL q (r.f x)=true)->okL q (r.cells l)=true
 | [],_=>rfl
 | x::l,h=>by
  show okL q (r.f x++r.cells l)=true
  rw[Qgf,h x (List.mem_cons_self ..),Xad fun y hy=>h y (List.mem_cons_of_mem _ hy)]
  rfl
theorem qn4 {q:Nat->Bool} {m:Bool} {l:List α} (h:∀x∈l,okL q (r.f x)=true):(resN r m l).ok q=true:=by
 unfold resN
 split
 ·rfl
 ·exact Xad h
theorem KHk {p n:Nat} {sel:List Nat} {m:Bool} {l:List α} (h:∀x∈l,okL (fun i=>decide (i<p)) (r.f x)=true):BWk (fun i=>decide (i<p+n)) (selN p sel) (resN r m l) (resN r m l):=by
 unfold resN
 split
 ·trivial
 ·have h1:=Xad h
  exact ⟨_root_.id,KAd (fun i q=>by simp only[decide_eq_true_eq]at q ⊢;omega) _ h1,KFJ h1⟩
theorem K4r:∀ {a b c d:List AV},WkL a b->WkL c d->WkL (a++c) (b++d)
 | [],[],_,_,_,h=>h
 | [],_::_,_,_,h,_=>h.elim
 | _::_,[],_,_,h,_=>h.elim
 | _::_,_::_,_,_,h,h'=>⟨h.1,K4r h.2 h'⟩
theorem Q6y (f:Nat->Nat):∀(a b:List AV),renL f (a++b)=renL f a++renL f b
 | [],b=>by simp [renL]
 | x::a,b=>by rw[List.cons_append];simp only[renL,Q6y f a b,List.cons_append]
theorem q1q {p n:Nat} {sel:List Nat} {l:List α} {x y:α} (h:∀x∈l,okL (fun i=>decide (i<p)) (r.f x)=true) (hx:okL (fun i=>decide (i<p+n)) (r.f x)=true) (hw:WkL (renL (selN p sel) (r.f x)) (r.f y)):BWk (fun i=>decide (i<p+n)) (selN p sel) (resN r true (l++[x])) (.blk false true (r.cells l++r.f y)):=by
 rw[Yfh]
 have h1:=Xad h
 refine ⟨_root_.id,?_,?_⟩
 ·rw[Qgf,hx,Bool.and_true]
  exact KAd (fun i q=>by simp only[decide_eq_true_eq]at q ⊢;omega) _ h1
 ·rw[Q6y]
  exact K4r (KFJ h1) hw
theorem Bt.low {P:Program} {p p':Nat} {l l':List AV} {h h':List AB} (e:Bt P p' l h l' h') (hp:p<=p') (hl:p'<=h.length):Bt P p l h l' h':=fun ρ w cs _ r v=>by
 obtain ⟨p1,ρ',v',r',o,a,f⟩:=e ρ w cs hl r v
 refine ⟨Nat.le_trans hp p1,ρ',v',r',o,fun i b hb=>?_,fun i hi=>f i (Nat.lt_of_lt_of_le hi hp)⟩
 obtain ⟨j,h1,h2,h3⟩:=a i b hb
 refine ⟨j,h1,fun hi=>h2 (Nat.lt_of_lt_of_le hi hp),fun hi=>?_⟩
 rcases Nat.lt_or_ge i p' with q|q
 ·rw[h2 q];exact hi
 ·exact Nat.le_trans hp (h3 q)
theorem Zaz {id n j:Nat} {L:List α} (hid:id<h.length) (hn:L.length=n) (hj:j<n) {sz:Nat} (hz:r.sz=sz) {y:α} (hy:(r.f y).all (wrOk false)=true) (x:List AB):stV (oB h id (resN r true L)++x) (some sz) (elP sz (.sl id 0 n n (some sz)) j 0) (.ag (r.f y))=some (oB h id (resN r true (L.set j y))++x):=by
 subst hz hn
 have hi2:=K6A hid (resN r true L) x
 have hle:j*r.sz+r.sz<=L.length*r.sz:=by rw[<-Nat.succ_mul];exact Nat.mul_le_mul_right _ hj
 rw[qPl true (by omega)]at hi2
 simp only[elP,stV,Nat.zero_add,Nat.add_zero]
 rw[if_pos (r.len y)]
 unfold stB
 rw[qPl true (by omega),hi2]
 dsimp only
 rw[if_pos ⟨by rw[r.len,r.cells_len];exact hle,hy⟩,KJn L j y hj,Xqv hid,qPl true (by rw[List.length_set];omega)]
theorem ztc {id n j:Nat} {m:Bool} {L:List α} (hid:id<h.length) (hn:L.length=n) (hj:j<n) {sz:Nat} (hz:r.sz=sz) (x:List AB):ldV (oB h id (resN r m L)++x) (some sz) (elP sz (.sl id 0 n n (some sz)) j 0)=some (.ag (r.f (L.getD j r.d))):=by
 subst hz hn
 have h0:L.length≠0:=by omega
 have hi2:(oB h id (resN r m L)++x)[id]?=some (.blk false m (r.cells L)):=by rw[K6A hid,qPl m h0]
 have hle:j*r.sz+r.sz<=L.length*r.sz:=by rw[<-Nat.succ_mul];exact Nat.mul_le_mul_right _ hj
 simp only[elP,ldV,ZMh,hi2,Option.bind_some,Nat.zero_add,Nat.add_zero]
 rw[if_pos (by rw[r.cells_len];exact hle),r.cells_drop,List.drop_eq_getElem_cons hj,List.getD_eq_getElem?_getD,List.getElem?_eq_getElem hj]
 congr 2
 exact (List.take_left' (r.len _):(r.f L[j]++r.cells (L.drop (j+1))).take r.sz=r.f L[j])
theorem XoJ {id:Nat} (hh:HOk h) {B0:AB} (hB:B0.ok (fun i=>decide (i<h.length))=true):HOk (oB h id B0):=fun i C hC=>by
 rw[ZxG]
 unfold oB at hC
 rw[List.getElem?_set]at hC
 split at hC
 ·split at hC
  ·cases hC;exact hB
  ·cases hC
 ·exact hh i C hC
theorem Bt.selO2 {P:Program} {id:Nat} {B0:AB} {l l':List AB} {fr fr':List AV} (sel:List Nat) (hh:HOk h) (hB:B0.ok (fun i=>decide (i<h.length))=true) (hnd:sel.Nodup) (hb:BlkSel h.length sel sel.length l sel l') (hfr:FrSel h.length sel sel.length fr fr'):Bt P h.length fr (oB h id B0++l) fr' (oB h id B0++l'):=by
 have:=Bt.sel (P:=P) (h:=oB h id B0) (l:=l) (l':=l') (fr:=fr) (fr':=fr') sel (XoJ hh hB) hnd (by rw[ZxG];exact hb) (by rw[ZxG];exact hfr)
 rwa [ZxG]at this
theorem JkI {β:Type} {q:Row β} {s:AV} {l:List β} (e:Rd q h s l) {i:Nat} (hi:∀k∈idOf s,k≠i) (B:AB):Rd q (oB h i B) s l:=by
 refine ⟨?_,e.2⟩
 have h1:=e.1
 cases s <;> first|exact h1|skip
 rename_i id off len cap k
 have hne:id≠i:=hi id (by simp [idOf])
 have hr:ZMh (oB h i B) id=ZMh h id:=by unfold ZMh oB;rw[List.getElem?_set_ne (Ne.symm hne)]
 simp only[rdS,hr]at h1 ⊢
 exact h1
theorem Bt.takeN {P:Program} {p:Nat} {fr:List AV} {h:List AB} {i n:Nat} {m:Bool} {l:List α} (hi:h[i]?=some (resN r m l)) (hn:n<=l.length):Bt P p fr h fr (h.set i (resN r m (l.take n))):=by
 have hl:(l.take n).length=n:=by rw[List.length_take];omega
 by_cases h0:n=0
 ·have e:resN r m (l.take n)=.dead:=by unfold resN;rw[if_pos (hl.trans h0)]
  rw[e]
  exact Bt.less hi (fun ρ w b o q _=>trivial) (fun q=>by cases q) (fun q=>by cases q)
 ·have hl0:¬l.length=0:=by omega
  have hle:n*r.sz<=l.length*r.sz:=Nat.mul_le_mul_right _ hn
  have hc:r.cells (l.take n)=(r.cells l).take (n*r.sz):=(r.cells_take l n).symm
  have hcl:=r.cells_len l
  refine Bt.less hi (fun ρ w b o q hb=>?_) (fun q=>?_) (fun q=>?_)
  ·simp only[resN,hl,if_neg h0,if_neg hl0,BR]at hb ⊢
   obtain ⟨cs,e,fz,h1,h2,h3,h4⟩:=hb
   refine ⟨cs,e,fz,h1,h2,?_,fun k a c ha hcs=>?_⟩
   ·rw[hc,List.length_take];omega
   ·rw[hc,List.getElem?_take]at ha
    split at ha
    ·exact h4 k a c ha hcs
    ·cases ha
  ·simpa only[resN,hl,if_neg h0,if_neg hl0,AB.mut] using q
  ·rw[qPl m hl0];rfl
end
def exK {α:Type} (r:Row α) (l:List α):Option Nat:=if l.length=0 then none else some r.sz
def exS {α:Type} (r:Row α) (id:Nat) (l:List α):AV:=.sl id 0 l.length l.length (exK r l)
def exB {α:Type} (r:Row α) (l:List α):AB:=.blk true true (r.cells l)
section
variable {α:Type} {r:Row α}
theorem QkM {H:List AB} {id:Nat} {fl m:Bool} {l:List α} (e:H[id]?=some (.blk fl m (r.cells l))) (hl:l.length<=maxLen):Rd r H (exS r id l) l:=by
 refine ⟨?_,hl⟩
 unfold exS
 simp only[rdS]
 split
 ·rename_i h0
  obtain rfl:=List.eq_nil_of_length_eq_zero h0
  rfl
 ·have:ZMh H id=some (r.cells l):=by unfold ZMh;rw[e]
  rw[this,Option.bind_some,if_pos (by rw[r.cells_len];omega),List.drop_zero,List.take_of_length_le (by rw[r.cells_len];exact Nat.le_refl _)]
theorem zuo (q:Nat->Bool) (id:Nat) (l:List α) (hq:q id=true):(exS r id l).ok q=true:=by simp [exS,AV.ok,hq]
theorem JxO (f:Nat->Nat) (id:Nat) (l:List α):(exS r id l).ren f=exS r (f id) l:=by simp [exS,AV.ren]
theorem Y4D (q:Nat->Bool) (l:List α):(exB r l).ok q=true:=oI rfl
theorem YhS (q:Nat->Bool) (f:Nat->Nat) (l:List α):BWk q f (exB r l) (exB r l)=True:=eq_true ⟨fun z=>z,rfl⟩
theorem qFF (id:Nat) (l:List α) (hr:r.sz≠0):q70 (exS r id l) .ns=some false:=by
 unfold exS exK
 rw[K7a,if_neg]
 rintro ⟨h1,h2⟩
 by_cases h0:l.length=0
 ·rw[if_pos h0]at h2
  cases h2
 ·exact h0 h1
end
end
section
set_option maxRecDepth 100000
set_option maxHeartbeats 4000000
abbrev EvF:=EvtA×(List Int×List Dg)
structure RdEf (h:List AB) (s:AV) (M:List EvF):Prop where
 ev:RdEv h s (M.map fun e=>(e.1,e.2.1))
 f:∀e∈M,Rd idR h e.1.refs.a e.2.2
 c:∀e∈M,e.1.deps.a.capOk=true/\e.1.refs.a.capOk=true
theorem RdEf.app {h:List AB} {s:AV} {M:List EvF} (e:RdEf h s M) (x:List AB):RdEf (h++x) s M:=⟨e.ev.app x,fun a ha=>(e.f a ha).app x,e.c⟩
theorem RdEf.inj {h:List AB} {s:AV} {M M':List EvF} (e:RdEf h s M) (e':RdEf h s M'):M=M':=by
 have h0:=e.ev.s.inj e'.ev.s
 rw[List.map_map,List.map_map]at h0
 have hl:M.length=M'.length:=by
  have:=congrArg List.length h0
  simpa using this
 refine List.ext_getElem hl fun i h1 h2=>?_
 have ha:(M[i]).1=(M'[i]).1:=by
  have:=congrArg (fun l=>l[i]?) h0
  simpa [h1,h2] using this
 have m1:M[i]∈M:=List.getElem_mem h1
 have m2:M'[i]∈M':=List.getElem_mem h2
 have d1:=e.ev.d _ (List.mem_map.2 ⟨_,m1,rfl⟩)
 have d2:=e'.ev.d _ (List.mem_map.2 ⟨_,m2,rfl⟩)
 have f1:=e.f _ m1
 have f2:=e'.f _ m2
 generalize M[i]=x at *
 generalize M'[i]=y at *
 obtain ⟨x1,x2,x3⟩:=x
 obtain ⟨y1,y2,y3⟩:=y
 dsimp only at ha d1 d2 f1 f2
 subst ha
 rw[d1.inj d2,f1.inj f2]
open Classical in
noncomputable def z47 (h:List AB) (s:AV):Option (List EvF):=if e:∃M,RdEf h s M then some e.choose else none
theorem RdEf.get {h:List AB} {s:AV} {M:List EvF} (e:RdEf h s M):z47 h s=some M:=by
 have hx:∃M,RdEf h s M:=⟨M,e⟩
 unfold z47
 rw[dif_pos hx,hx.choose_spec.inj e]
theorem KiG {β:Type} {h:List AB} {s:AV} {f:List EvF->Option β} {b:β} (e:(z47 h s).bind f=some b):∃M,RdEf h s M/\f M=some b:=by
 unfold z47 at e
 split at e
 ·rename_i hx
  exact ⟨_,hx.choose_spec,e⟩
 ·cases e
theorem RdEf.frz {h:List AB} {s:AV} {M:List EvF} (e:RdEf h s M):RdEf (h.map AB.freeze) s M:=⟨e.ev.frz,fun a ha=>(e.f a ha).frz,e.c⟩
def QAO (k:Nat) (e:EvF):EvtA:=⟨e.1.dot,⟨exS intR k e.2.1,rfl⟩,e.1.kind,e.1.repo,e.1.tag,e.1.id,⟨exS idR (k+1) e.2.2,rfl⟩⟩
def ZGX (e:EvF):List AB:=[exB intR e.2.1,exB idR e.2.2]
noncomputable def Zgx:List AV->List AB->Option (AV×List AB)
 | [a],h=>(getE a).bind fun x=>(getS intR h x.deps.a).bind fun d=>(getS idR h x.refs.a).bind fun f=>if d.length<=1000000/\f.length<=1000000 then some (.ag (evtF (QAO h.length (x,(d,f)))),h++ZGX (x,(d,f))) else none
 | _,_=>none
noncomputable def qHC:List AV->List AB->Option (AV×List AB)
 | [a],h=>(getS intR h a).bind fun xs=>if xs.length<=1000000 then some (exS intR (h.length+0) xs,h++[exB intR xs]) else none
 | _,_=>none
theorem zHb (l:List Dg):(idR.cells l).all (wrOk true)=true:=by
 induction l with
 | nil=>rfl
 | cons a l ih =>
  simp only[Row.cells,List.flatMap_cons,List.all_append]at ih ⊢
  rw[ih,Bool.and_true]
  exact List.all_eq_true.2 fun x hx=>by
   obtain ⟨b,_,rfl⟩:=List.mem_map.1 hx
   rfl
theorem X7x:Spec Tryz.prog 29 qHC:=by
 intro args h v h' e
 unfold qHC at e
 split at e
 ·rename_i a
  obtain ⟨xs,hs,e⟩:=zZy e
  split at e
  ·rename_i hl
   cases e
   refine FnAt.c (FnAt.run (by kernel_rfl) (T:=⟨[],[]⟩) ⟨trivial,trivial⟩ Tryz.func29 sw29 fun ho hh=>?_)
   simp only[XDA,Bool.and_eq_true]at ho
   have f1:=hs.fx ho.1 (sz:=1) rfl
   have u1:=hs.src (sz:=1) rfl
   unfold w29
   by_cases h0:xs.length=0
   ·have hx:xs=[]:=List.eq_nil_of_length_eq_zero h0
    subst hx
    simp only[QhU,YqB,z16,Xq6,simprocAttr,f1,u1,XBP,List.length_nil]
    exact Bt.eq rfl rfl
   ·have z1:=eq_false h0
    have z2:=eq_true (p:=xs.length*8<=140737488355328/\xs.length<=maxLen) ⟨by omega,by unfold maxLen;omega⟩
    simp only[QhU,YqB,z16,Xq6,simprocAttr,f1,u1,z1,z2,oD,ne_eq,forall_const]
    have hx:exS intR (h.length+0) xs=.sl (h.length+0) 0 xs.length xs.length (some 1):=by unfold exS exK;rw[if_neg h0];rfl
    rw[hx]
    exact Bt.sel [1] hh (by decide) (by simp only[KlC,FrSel,BlkSel,AV.ren,renL,AV.ok,okL,Option.some.injEq,exists_eq_left',List.length_cons,List.length_nil,Nat.reduceAdd,Nat.reduceLT,reduceCtorEq,implies_true,exists_eq',exB]) (by simp only[KlC,FrSel,BlkSel,AV.ren,renL,AV.ok,okL,Option.some.injEq,exists_eq_left',List.length_cons,List.length_nil,Nat.reduceAdd,Nat.reduceLT,reduceCtorEq,implies_true,exists_eq'])
  ·cases e
 ·cases e
theorem ZnF (x:EvtA) (s:SlA):over (evtF x) 2 [s.a]=evtF { x with deps:=s }:=by
 unfold over evtF
 rfl
theorem qDf (x:EvtA) (s:SlA):over (evtF x) 38 [s.a]=evtF { x with refs:=s }:=by
 have e:evtF x=(AV.i .i64 x.dot.1::.i .i64 x.dot.2::x.deps.a::.i .i64 x.kind::.s x.repo::.s x.tag::idR.f x.id)++[x.refs.a]:=rfl
 have l:(AV.i .i64 x.dot.1::.i .i64 x.dot.2::x.deps.a::.i .i64 x.kind::.s x.repo::.s x.tag::idR.f x.id).length=38:=by
  simp only[List.length_cons,idR.len]
  rfl
 rw[e]
 unfold over
 rw[List.take_left' l,List.drop_eq_nil_of_le (by rw[List.length_append,l];simp),List.append_nil]
 rfl
theorem qrM (q:Nat->Bool) (x:Dg):okL q (idR.f x)=true:=zFH.2 fun j a ha=>by
 obtain ⟨b,_,rfl⟩:=List.mem_map.1 (List.mem_of_getElem? ha)
 rfl
theorem Jf2 (f:Nat->Nat) (x:Dg):renL f (idR.f x)=idR.f x:=by
 have:∀l:List UInt8,renL f (l.map u8A)=l.map u8A:=fun l=>by
  induction l with
  | nil=>rfl
  | cons a l ih=>show u8A a::renL f (l.map u8A)=_;rw[ih];rfl
 exact this _
def EvtA.with2 (x:EvtA) (s t:SlA):EvtA:={ x with deps:=s,refs:=t }
theorem zlW (f:Nat->Nat) (x:EvtA):renL f (evtF x)=.i .i64 x.dot.1::.i .i64 x.dot.2::x.deps.a.ren f::.i .i64 x.kind::.s x.repo::.s x.tag::(idR.f x.id++[x.refs.a.ren f]):=by
 unfold evtF
 show AV.i .i64 x.dot.1::.i .i64 x.dot.2::x.deps.a.ren f::.i .i64 x.kind::.s x.repo::.s x.tag::renL f (idR.f x.id++[x.refs.a])=_
 rw[Q6y,Jf2]
 rfl
theorem zNY (q:Nat->Bool) (x:EvtA):okL q (evtF x)=(x.deps.a.ok q&&x.refs.a.ok q):=by
 unfold evtF
 simp only[XDA,Qgf,qrM,AV.ok,Bool.true_and,Bool.and_true,okL]
theorem qun (f:Nat->Nat) (k:Nat) (e:EvF):renL f (evtF (QAO k e))=evtF (e.1.with2 ⟨exS intR (f k) e.2.1,rfl⟩ ⟨exS idR (f (k+1)) e.2.2,rfl⟩):=by
 rw[zlW]
 unfold QAO
 simp only[JxO]
 rfl
theorem Qet (q:Nat->Bool) (k:Nat) (e:EvF) (h1:q k=true) (h2:q (k+1)=true):okL q (evtF (QAO k e))=true:=by
 rw[zNY]
 unfold QAO
 rw[zuo q k _ h1,zuo q (k+1) _ h2]
 rfl
theorem XGC {p:Nat} {sel:List Nat} {n:Nat} {e:EvF} {y:EvtA} (hn:1<n) (hy:y=e.1.with2 ⟨exS intR (p+sel.getD 0 0) e.2.1,rfl⟩ ⟨exS idR (p+sel.getD 1 0) e.2.2,rfl⟩):FrSel p sel n [.ag (evtF y)] [.ag (evtF (QAO p e))]:=by
 subst hy
 refine ⟨.inr ⟨?_,?_⟩,trivial⟩
 ·exact Qet _ _ _ (decide_eq_true (by omega)) (decide_eq_true (by omega))
 ·have e1:(AV.ag (evtF (QAO p e))).ren (selN p sel)=.ag (renL (selN p sel) (evtF (QAO p e))):=rfl
  rw[e1,qun,show selN p sel p=p+sel.getD 0 0 from JRu 0,JRu 1]
  all_goals exact Wk.refl _
theorem QwQ:Spec Tryz.prog 52 Zgx:=by
 intro args h v h' e
 unfold Zgx at e
 split at e
 ·obtain ⟨x,hx,e2⟩:=Kc6 e
  clear e
  subst hx
  obtain ⟨d,hd,e3⟩:=zZy e2
  obtain ⟨f,hf,e4⟩:=zZy e3
  clear e2 e3
  split at e4
  ·rename_i hl
   cases e4
   refine FnAt.c (FnAt.run (by kernel_rfl) (T:=⟨[⟨29,qHC,fun _=>[]⟩],[]⟩) ⟨⟨X7x,trivial⟩,trivial⟩ Tryz.func52 sw52 fun ho hh=>?_)
   simp only[XDA,Bool.and_eq_true]at ho
   have hoe:okL (fun i=>decide (i<h.length)) (evtF x)=true:=by
    have:=ho.1
    simpa only[AV.ok] using this
   obtain ⟨a0,a1,a2,a3,a4,a5,a6⟩:=Zxc x
   have w1:=fun y=>Q7m y
   have l1:=fun y=>YXj y
   have c1:∀l:List AV,(AV.ag l).cells=l:=fun _=>rfl
   have g1:∀z,getS intR (h++z) x.deps.a=some d:=fun z=>(hd.app z).get
   have hl1:=eq_true hl.1
   have u1:=hf.src (sz:=32) rfl
   have t1:(x.refs.a).isStr=false:=x.refs.str
   have o1:∀k,(exS intR k d).one=true:=fun k=>rfl
   have o2:∀y:EvtA,(evtF y)[38]?=some y.refs.a:=fun y=>(Zxc y).2.2.2.2.2.2
   have od:∀k,over (evtF x) 2 [exS intR k d]=evtF { x with deps:=⟨exS intR k d,rfl⟩ }:=fun k=>ZnF x ⟨_,rfl⟩
   have lt:∀y:EvtA,(evtF y).take 39=evtF y:=fun y=>List.take_of_length_le (by rw[YXj];exact Nat.le_refl _)
   unfold w52
   by_cases h0:f.length=0
   ·have hx:f=[]:=List.eq_nil_of_length_eq_zero h0
    subst hx
    have or:∀(y:EvtA) k,over (evtF y) 38 [.sl k 0 0 0 none]=evtF { y with refs:=⟨.sl k 0 0 0 none,rfl⟩ }:=fun y k=>qDf y ⟨_,rfl⟩
    simp only[QhU,YqB,z16,Xq6,simprocAttr,qHC,a2,w1,l1,c1,g1,hl1,u1,t1,o1,o2,od,or,ovE,lt,XBP,List.length_nil,List.drop_zero,Option.bind_some,oD,ne_eq,forall_const]
    exact Bt.sel [2,3] hh (by decide) (by simp only[KlC,FrSel,BlkSel,AV.ren,renL,AV.ok,okL,Option.some.injEq,exists_eq_left',List.length_cons,List.length_nil,Nat.reduceAdd,Nat.reduceLT,reduceCtorEq,implies_true,exists_eq',ZGX,exB,XBP]) (XGC (by decide) rfl)
   ·have z1:=eq_false h0
    have z2:=eq_true (p:=f.length*32<=140737488355328/\f.length<=maxLen) ⟨by omega,by unfold maxLen;omega⟩
    have or:∀(y:EvtA) k,over (evtF y) 38 [.sl k 0 f.length f.length (some 32)]=evtF { y with refs:=⟨.sl k 0 f.length f.length (some 32),rfl⟩ }:=fun y k=>qDf y ⟨_,rfl⟩
    simp only[QhU,YqB,z16,Xq6,simprocAttr,qHC,a2,w1,l1,c1,g1,hl1,u1,t1,o1,o2,od,or,ovE,lt,z1,z2,zHb,List.drop_zero,Option.bind_some,oD,ne_eq,forall_const]
    refine Bt.sel [2,4] hh (by decide) (by simp only[KlC,FrSel,BlkSel,AV.ren,renL,AV.ok,okL,Option.some.injEq,exists_eq_left',List.length_cons,List.length_nil,Nat.reduceAdd,Nat.reduceLT,reduceCtorEq,implies_true,exists_eq',ZGX,exB]) (XGC (by decide) ?_)
    have hx:exS idR (h.length+4) f=.sl (h.length+4) 0 f.length f.length (some 32):=by unfold exS exK;rw[if_neg h0];rfl
    unfold EvtA.with2
    congr 1
    exact SlA.ext hx.symm
  ·cases e4
 ·cases e
end
section
set_option maxRecDepth 100000
set_option maxHeartbeats 4000000
def XvB (k:Nat):List EvF->List EvtA
 | []=>[]
 | e::M=>QAO k e::XvB (k+2) M
def zWI (M:List EvF):List AB:=M.flatMap ZGX
theorem YjL:∀(k:Nat) (M:List EvF),(XvB k M).length=M.length
 | _,[]=>rfl
 | k,e::M=>by rw[XvB,List.length_cons,YjL,List.length_cons]
theorem JmL:∀(M:List EvF),(zWI M).length=2*M.length
 | []=>rfl
 | e::M=>by
  have:=JmL M
  show (ZGX e++zWI M).length=_
  rw[List.length_append,this,List.length_cons]
  show 2+_=_
  omega
theorem QRI:∀(k:Nat) (M:List EvF) (e:EvF),XvB k (M++[e])=XvB k M++[QAO (k+2*M.length) e]
 | k,[],e=>rfl
 | k,x::M,e=>by
  rw[List.cons_append,XvB,QRI (k+2) M e,XvB,List.length_cons,show k+2+2*M.length=k+2*(M.length+1) by omega]
  rfl
theorem JcI (M:List EvF) (e:EvF):zWI (M++[e])=zWI M++ZGX e:=by
 unfold zWI
 rw[List.flatMap_append]
 simp
theorem Yuj (q:Nat->Bool):∀(k:Nat) (M:List EvF),(∀j,k<=j->j<k+2*M.length->q j=true)->∀x∈XvB k M,okL q (evtF x)=true
 | _,[],_,x,hx=>by cases hx
 | k,e::M,h,x,hx=>by
  rw[List.length_cons]at h
  rcases List.mem_cons.1 hx with rfl|hx
  ·exact Qet q k e (h k (Nat.le_refl _) (by omega)) (h (k+1) (by omega) (by omega))
  ·exact Yuj q (k+2) M (fun j h1 h2=>h j (by omega) (by omega)) x hx
theorem K0m (q:Nat->Bool) (M:List EvF):∀B∈zWI M,B.ok q=true:=fun B hB=>by
 obtain ⟨e,_,hB⟩:=List.mem_flatMap.1 hB
 simp only[ZGX,List.mem_cons,List.not_mem_nil,or_false]at hB
 rcases hB with rfl|rfl <;> rfl
theorem zFL:∀(k:Nat) (M:List EvF) (h:List AB),(∀j,j<2*M.length->h[k+j]?=(zWI M)[j]?)->(∀e∈M,e.2.1.length<=maxLen/\e.2.2.length<=maxLen) ->
  ∀(i:Nat) (x:EvtA) (e:EvF),(XvB k M)[i]?=some x->M[i]?=some e->Rd intR h x.deps.a e.2.1/\Rd idR h x.refs.a e.2.2/\x.dot=e.1.dot
 | k,[],h,_,_,i,x,e,hx,_=>by simp [XvB]at hx
 | k,y::M,h,hh,hb,i,x,e,hx,he=>by
  have h0:=hh 0 (by simp)
  have h1:=hh 1 (by simp only[List.length_cons];omega)
  have hy:=hb y (List.mem_cons_self ..)
  cases i with
  | zero =>
   cases hx;cases he
   exact ⟨QkM h0 hy.1,QkM h1 hy.2,rfl⟩
  | succ i =>
   refine zFL (k+2) M h (fun j hj=>?_) (fun z hz=>hb z (List.mem_cons_of_mem _ hz)) i x e (by simpa [XvB] using hx) (by simpa using he)
   have:=hh (j+2) (by simp only[List.length_cons];omega)
   rw[show k+2+j=k+(j+2) by omega,this]
   rfl
theorem RdEf.of {h:List AB} {s:AV} {es:List EvtA} {M:List EvF} (hs:Rd evR h s es) (hl:es.length=M.length) (hi:∀(i:Nat) (x:EvtA) (e:EvF),es[i]?=some x->M[i]?=some e->Rd intR h x.deps.a e.2.1/\Rd idR h x.refs.a e.2.2/\okL (fun i=>decide (i<h.length)) (evtF x)=true/\x.deps.a.capOk=true/\x.refs.a.capOk=true) :
  RdEf h s ((es.zip M).map fun p=>(p.1,p.2.2)):=by
 have hz:∀p∈es.zip M,Rd intR h p.1.deps.a p.2.2.1/\Rd idR h p.1.refs.a p.2.2.2/\okL (fun i=>decide (i<h.length)) (evtF p.1)=true/\p.1.deps.a.capOk=true/\p.1.refs.a.capOk=true:=fun p hp=>by
  obtain ⟨j,hj⟩:=List.mem_iff_getElem?.1 hp
  obtain ⟨a,b⟩:=p
  rw[List.getElem?_zip_eq_some]at hj
  exact hi j a b hj.1 hj.2
 have hm1:((es.zip M).map fun p=>(p.1,p.2.2)).map (fun e=>(e.1,e.2.1))=(es.zip M).map fun p=>(p.1,p.2.2.1):=by rw[List.map_map];rfl
 have hm2:((es.zip M).map fun p=>(p.1,p.2.2.1)).map (·.1)=es:=by
  rw[List.map_map]
  exact List.map_fst_zip (by omega)
 refine ⟨⟨by rw[hm1,hm2];exact hs,fun e he=>?_,fun e he=>?_⟩,fun e he=>?_,fun e he=>?_⟩
 ·rw[hm1]at he
  obtain ⟨p,hp,rfl⟩:=List.mem_map.1 he
  exact (hz p hp).1
 ·rw[hm1]at he
  obtain ⟨p,hp,rfl⟩:=List.mem_map.1 he
  exact (hz p hp).2.2.1
 ·obtain ⟨p,hp,rfl⟩:=List.mem_map.1 he
  exact (hz p hp).2.1
 ·obtain ⟨p,hp,rfl⟩:=List.mem_map.1 he
  exact (hz p hp).2.2.2
def bdE (M:List EvF):Prop:=M.length<=1000/\∀e∈M,e.2.1.length<=100000/\e.2.2.length<=100000/\e.1.repo.length<=100000/\e.1.tag.length<=100000
theorem Qs6:∀l:List AV,WkL l l
 | []=>trivial
 | a::l=>⟨Wk.refl a,Qs6 l⟩
open Classical in
noncomputable def XPy:List AV->List AB->Option (AV×List AB)
 | [s],h=>(z47 h s).bind fun M=>if bdE M then some (apS evR (h.length+2*M.length) (XvB h.length M),h++(zWI M++[resN evR true (XvB h.length M)])) else none
 | _,_=>none
theorem XYB:Spec Tryz.prog 11 XPy:=by
 intro args h v h' e
 unfold XPy at e
 split at e
 ·rename_i s
  obtain ⟨M,hs,e⟩:=KiG e
  split at e
  ·rename_i hb
   cases e
   refine FnAt.c (FnAt.run (by kernel_rfl) (T:=⟨[⟨52,Zgx,fun _=>[]⟩],[]⟩) ⟨⟨QwQ,trivial⟩,trivial⟩ Tryz.func11 sw11 fun ho hh=>?_)
   simp only[XDA,Bool.and_eq_true]at ho
   have hlm:((M.map fun e=>(e.1,e.2.1)).map (·.1)).length=M.length:=by simp
   have f1:=hs.ev.s.fx ho.1 (sz:=39) rfl
   rw[hlm]at f1
   unfold w11
   simp only[QhU,YqB,z16,Xq6,simprocAttr,f1]
   refine q2X (S:=Nat) (fun i=>M.length-i) (fun i=>[s]++tp 2++[apS evR (h.length+2*i) (XvB h.length (M.take i)),.i .i64 (i:Int)]++tp 15) (fun i=>h++zWI (M.take i)++[resN evR true (XvB h.length (M.take i))]) (fun i=>i<=M.length) 0 (Nat.zero_le _) ?_ fun i hi=>?_
   ·refine (Bt.pad _ _ 1).trans ?_
    refine Bt.wk ?_
    simp only[z16,Xq6,simprocAttr]
    all_goals exact Wk.refl _
   by_cases g:i<M.length
   ·have g':((i:Int)<(M.length:Int))=True:=eq_true (by omega)
    have e1:IntKind.i64.wrap ((i:Int)+1)=((i+1:Nat):Int):=ZWm (by have:=hb.1;unfold In64;omega)
    have hgd:((M.map fun e=>(e.1,e.2.1)).map (·.1)).getD i evR.d=(M[i]).1:=by rw[List.getD_eq_getElem?_getD,List.map_map,List.getElem?_map,List.getElem?_eq_getElem g];rfl
    have hin:M[i]∈M:=List.getElem_mem g
    have hbe:=hb.2 _ hin
    have hd:=hs.ev.d _ (List.mem_map.2 ⟨_,hin,rfl⟩)
    have hf:=hs.f _ hin
    obtain ⟨e,he⟩:∃e,M[i]=e:=⟨_,rfl⟩
    rw[he]at hgd hin hbe hd hf
    obtain ⟨H,hH⟩:∃H,h++zWI (M.take i)=H:=⟨_,rfl⟩
    have hHl:H.length=h.length+2*i:=by rw[<-hH,List.length_append,JmL,List.length_take];congr 2;omega
    have hHB:HOk H:=by
     rw[<-hH,XUr hh]
     exact List.all_eq_true.2 fun B hB=>K0m _ _ B hB
    obtain ⟨out,hout⟩:∃out,XvB h.length (M.take i)=out:=⟨_,rfl⟩
    have hol:out.length=i:=by rw[<-hout,YjL,List.length_take];omega
    have hook:∀x∈out,okL (fun i=>decide (i<H.length)) (evtF x)=true:=by
     rw[<-hout]
     refine Yuj _ _ _ fun j h1 h2=>decide_eq_true ?_
     rw[List.length_take]at h2
     omega
    have n1:XvB h.length (M.take (i+1))=out++[QAO H.length e]:=by
     rw[List.take_succ_eq_append_getElem g,he,QRI,hout,List.length_take,hHl]
     congr 3
     omega
    have n2:∀X,h++(zWI (M.take (i+1))++X)=H++(ZGX e++X):=fun X=>by
     rw[List.take_succ_eq_append_getElem g,he,JcI,<-hH]
     simp only[List.append_assoc]
    have gd:∀L,getS intR (H++L) e.1.deps.a=some e.2.1:=fun L=>by rw[<-hH,List.append_assoc];exact (hd.app _).get
    have gf:∀L,getS idR (H++L) e.1.refs.a=some e.2.2:=fun L=>by rw[<-hH,List.append_assoc];exact (hf.app _).get
    have b1:=eq_true (p:=e.2.1.length<=1000000/\e.2.2.length<=1000000) ⟨by omega,by omega⟩
    obtain ⟨f1a,f1b,f1c,f1d,f1e,f1f,f1g,f1h,f1i,f1j,f1k⟩:=f1
    have lda:∀L,ldV (H++L) (some 39) (elP 39 s i 0)=some (.ag (evtF e.1)):=fun L=>by
     rw[<-hH,List.append_assoc,f1h _ i g,hgd]
     rfl
    have gz:((0:Int)<=(i:Int)/\(i:Int)<(M.length:Int))=True:=eq_true (by omega)
    have soH:∀c,s.ok (fun j=>decide (j<H.length+c))=true:=fun c=>AV.ok_mono (fun i q=>by simp only[decide_eq_true_eq]at q ⊢;omega) s ho.1
    have srH:∀sel,Wk (s.ren (selN H.length sel)) s:=fun sel=>Wk.ren (fun i hi=>ZiE hi) (AV.ok_mono (fun i q=>by simp only[decide_eq_true_eq]at q ⊢;omega) s ho.1)
    have lt:∀y:EvtA,(evtF y).take 39=evtF y:=fun y=>List.take_of_length_le (by rw[YXj];exact Nat.le_refl _)
    have c1:∀l:List AV,(AV.ag l).cells=l:=fun _=>rfl
    have fa:=fun (A B C:AB) ys=>K35 (h:=H) (r:=evR) (sz:=39) rfl [resN evR true out,A,B,C] 0 out 136 1 ys rfl (by decide) (by rw[hol];have:=hb.1;omega) (by rw[hol];have:=hb.1;unfold maxLen;omega)
    have e0:h.length+2*i=H.length+0:=by omega
    rw[hH,hout,e0]
    simp only[QhU,YqB,z16,Xq6,simprocAttr,f1a,f1b,f1c,f1d,f1e,f1f,lda,g,g',gz,e1,Zgx,Zz9,gd,gf,b1,ovE,Q7m,YXj,lt,c1,fa,ZGX,Option.bind_some,Option.map_some,if_true,ZkX,oD,ne_eq,forall_const]
    refine ⟨i+1,g,by dsimp only;omega,?_⟩
    dsimp only
    rw[n1,n2,show h.length+2*(i+1)=H.length+2 by omega,hol,<-hol]
    refine Bt.low (p':=H.length) (Bt.sel [1,2,4] hHB (by decide) ⟨⟨_,rfl,?_⟩,⟨_,rfl,?_⟩,⟨_,rfl,?_⟩,trivial⟩ ?_) (by omega) (by rw[List.length_append];omega)
    ·rw[YhS];trivial
    ·rw[YhS];trivial
    ·refine q1q hook (Qet _ _ _ (decide_eq_true (by simp only[List.length_cons,List.length_nil];omega)) (decide_eq_true (by simp only[List.length_cons,List.length_nil];omega))) ?_
     rw[ZxE,ZxE,qun,show selN H.length [1,2,4] H.length=H.length+1 from JRu 0,show selN H.length [1,2,4] (H.length+1)=H.length+2 from JRu 1]
     exact Qs6 _
    ·have hap:AV.sl (H.length+4) 0 (out.length+1) (out.length+1) (some 39)=apS evR (H.length+4) (out++[QAO H.length e]):=(ZTK (r:=evR) (H.length+4) out (QAO H.length e)).symm
     rw[hap]
     have ao:(apS evR (H.length+2) (out++[QAO H.length e])).ok (fun i=>decide (i<H.length+3))=true:=Yv9 _ _ _ (by simp)
     simp only[tp_0,tp_s,List.cons_append,List.nil_append,KlC,FrSel,BlkSel,AV.ren,renL,AV.ok,okL,Option.some.injEq,exists_eq_left',List.length_cons,List.length_nil,Nat.reduceAdd,Nat.reduceLT,reduceCtorEq,implies_true,exists_eq',soH,srH,ao]
   ·have g':((i:Int)<(M.length:Int))=False:=eq_false (by omega)
    have hiM:i=M.length:=by omega
    subst hiM
    rw[List.take_length]
    simp only[QhU,YqB,z16,Xq6,simprocAttr,f1,g',oD,ne_eq,forall_const]
    exact Bt.refl _ _ _
  ·cases e
 ·cases e
def ZDg (k:Nat) (M:List EvF):List EvF:=((XvB k M).zip M).map fun p=>(p.1,p.2.2)
theorem XcZ {h L:List AB} {M:List EvF} (hb:bdE M) {b:Bool}:RdEf (h++(zWI M++resN evR b (XvB h.length M)::L)) (apS evR (h.length+2*M.length) (XvB h.length M)) (ZDg h.length M):=by
 have hl:=JmL M
 refine RdEf.of (qFX (m:=b) (by rw[qu4,List.getElem?_append_right (by omega),hl,Nat.sub_self];rfl) (by rw[YjL];have:=hb.1;unfold maxLen;omega)) (YjL _ _) fun i x e hx he=>?_
 have hj:∀j,j<2*M.length->(h++(zWI M++resN evR b (XvB h.length M)::L))[h.length+j]?=(zWI M)[j]?:=fun j hj=>by rw[qu4,List.getElem?_append_left (by omega)]
 obtain ⟨q1,q2,_⟩:=zFL h.length M _ hj (fun e he=>by have:=hb.2 e he;unfold maxLen;omega) i x e hx he
 refine ⟨q1,q2,?_,?_⟩
 ·refine Yuj _ h.length M (fun j h1 h2=>decide_eq_true ?_) x (List.mem_of_getElem? hx)
  rw[List.length_append,List.length_append,hl]
  omega
 ·have:∀(k:Nat) (M:List EvF),∀x∈XvB k M,x.deps.a.capOk=true/\x.refs.a.capOk=true:=fun k M=>by
   induction M generalizing k with
   | nil=>intro x hx;cases hx
   | cons y M ih =>
    intro x hx
    rcases List.mem_cons.1 hx with rfl|hx
    ·exact ⟨by simp [QAO,exS,AV.capOk],by simp [QAO,exS,AV.capOk]⟩
    ·exact ih (k+2) x hx
  exact this _ _ x (List.mem_of_getElem? hx)
end
section
section
variable {α:Type}
def delP (P:α->Prop) [DecidablePred P] (l:List α):List α:=l.filter fun y=>decide (¬P y)
variable {P:α->Prop} [DecidablePred P]
theorem YzX (d:α) {l:List α} {k:Nat} (h:k<l.length):delP P (l.take (k+1))=delP P (l.take k)++(if ¬P (l.getD k d) then [l.getD k d] else []):=by
 unfold delP
 rw[List.take_succ_eq_append_getElem h,List.filter_append,List.getD_eq_getElem?_getD,List.getElem?_eq_getElem h]
 simp only[Option.getD_some,List.filter_cons,List.filter_nil,decide_eq_true_eq]
theorem ZSw {l:List α} (h:¬ ∃x∈l,P x):delP P l=l:=List.filter_eq_self.2 fun y hy=>decide_eq_true fun q=>h ⟨y,hy,q⟩
theorem zZs:∀(l:List α) (n:Nat),0<=JFm P l n->∃j,j<l.length/\JFm P l n=((n+j:Nat):Int)/\delP P (l.take (j+1))=l.take j
 | [],n,h=>by simp [JFm]at h
 | a::l,n,h=>by
  unfold JFm at h ⊢
  split
  ·rename_i q
   exact ⟨0,by simp,by simp,by simp [delP,q]⟩
  ·rename_i q
   rw[if_neg q]at h
   obtain ⟨j,h1,h2,h3⟩:=zZs l (n+1) h
   refine ⟨j+1,by simpa using h1,by rw[h2];congr 1;omega,?_⟩
   rw[List.take_succ_cons,List.take_succ_cons,<-h3]
   unfold delP
   rw[List.filter_cons,if_pos (decide_eq_true q)]
theorem JuM:∀(l:List α) (n:Nat),JFm P l n<0->JFm P l n = -1
 | [],n,_=>rfl
 | a::l,n,h=>by
  unfold JFm at h ⊢
  split
  ·rename_i z
   rw[if_pos z]at h
   omega
  ·rename_i z
   rw[if_neg z]at h
   exact JuM l (n+1) h
structure DelS (P:α->Prop) [DecidablePred P] (d:α) (l L:List α) (j k:Nat):Prop where
 len:L.length=l.length
 lt:k<j
 le:j<=l.length
 hd:L.take k=delP P (l.take j)
 tl:∀m,j<=m->L.getD m d=l.getD m d
variable {d:α}
theorem DelS.skip {l L:List α} {j k:Nat} (s:DelS P d l L j k) (hj:j<l.length) (q:P (l.getD j d)):DelS P d l L (j+1) k:=
 ⟨s.len,Nat.lt_succ_of_lt s.lt,hj,by rw[YzX d hj,if_neg (not_not_intro q),List.append_nil];exact s.hd,fun m hm=>s.tl m (by omega)⟩
theorem DelS.keep {l L:List α} {j k:Nat} (s:DelS P d l L j k) (hj:j<l.length) (q:¬P (l.getD j d)):DelS P d l (L.set k (l.getD j d)) (j+1) (k+1):=by
 have hk:k<L.length:=by have:=s.len;have:=s.lt;omega
 refine ⟨by rw[List.length_set];exact s.len,Nat.succ_lt_succ s.lt,hj,?_,fun m hm=>?_⟩
 ·rw[YzX d hj,if_pos q,<-s.hd,List.take_succ_eq_append_getElem (by rw[List.length_set];exact hk),List.getElem_set_self]
  congr 1
  rw[List.take_set,List.set_eq_of_length_le (by rw[List.length_take];omega)]
 ·rw[List.getD_eq_getElem?_getD,List.getElem?_set_ne (by have:=s.lt;omega),<-List.getD_eq_getElem?_getD]
  exact s.tl m (by omega)
end
def clrW (h:List AB) (z:List AV):AV->Option (AV×List AB)
 | .ns=>some (.tu [],h)
 | .se=>some (.tu [],h)
 | .sl id off n _ _=>if n=0 then some (.tu [],h) else (stB h id off ((List.replicate n z).flatten)).map (.tu [],·)
 | _=>none
theorem JeJ {T:Env} {fr:List AV} {h:List AB} (z:List AV) (x:Opd):opR T (.clr z x) fr h=clrW h z (x.ev fr):=by
 show (match x.ev fr with | .ns=>_ | .se=>_ | .sl id off n _ _=>_|_=>_)=_
 unfold clrW
 split <;> rfl
section
variable {α:Type} {r:Row α} {h:List AB}
theorem qYO {id i n:Nat} {L:List α} (hid:id<h.length) (hl:i+n=L.length) (hn:0<n) {sz:Nat} (hz:r.sz=sz) {z:α} (hw:(r.f z).all (wrOk false)=true) (c:Nat) (x:List AB):clrW (oB h id (resN r true L)++x) (r.f z) (.sl id (0+i*sz) n c (some sz))=some (.tu [],oB h id (resN r true (L.take i++List.replicate n z))++x):=by
 subst hz
 have hi2:=K6A hid (resN r true L) x
 rw[qPl true (by omega)]at hi2
 have hlen:(List.replicate n (r.f z)).flatten.length=n*r.sz:=by rw[<-XPP,r.cells_len,List.length_replicate]
 have hall:(List.replicate n (r.f z)).flatten.all (wrOk false)=true:=by
  rw[List.all_eq_true]
  intro x hx
  rw[List.mem_flatten]at hx
  obtain ⟨k,hk,hxk⟩:=hx
  rw[(List.mem_replicate.1 hk).2]at hxk
  exact List.all_eq_true.1 hw x hxk
 simp only[clrW]
 rw[if_neg (by omega),Nat.zero_add]
 unfold stB
 rw[qPl true (by omega),hi2]
 dsimp only
 rw[if_pos ⟨by rw[hlen,<-Nat.add_mul,hl,r.cells_len];exact Nat.le_refl _,hall⟩,XH6 L i n z hl,Xqv hid,qPl true (by rw[List.length_append,List.length_take,List.length_replicate];omega)]
 rfl
theorem zNV {P:Program} {id i n:Nat} {L m:List α} (hlt:id<h.length) (hL:L.length=n) (hi:i<=n) (h0:0<n) (ht:L.take i=m):Bt P h.length [.sl id 0 i n (some r.sz)] (oB h id (resN r true L)++[]) [rsl r id m] (oB h id (resN r true m)):=by
 subst ht hL
 rw[List.append_nil]
 have hb:=Bt.takeN (P:=P) (p:=h.length) (fr:=[.sl id 0 i L.length (some r.sz)]) (h:=oB h id (resN r true L)) (i:=id) (n:=i) (m:=true) (l:=L) (List.getElem?_set_self hlt) hi
 unfold oB at hb ⊢
 rw[List.set_set]at hb
 refine hb.trans (Bt.wk ⟨?_,trivial⟩)
 have e:AV.sl id 0 i L.length (some r.sz)=cutS (rsl r id L) i:=by
  unfold rsl
  rw[if_neg (by omega)]
  rfl
 rw[e]
 exact KTd id hi
theorem Y7I {id k n sz:Nat} (hk:k<n) (hs:sz≠0):slL sz (.sl id 0 n n (some sz)) (some (.i .i64 (k:Int))) none none=some (.sl id (0+k*sz) (n-k) (n-k) (some sz)):=by
 rcases Nat.eq_zero_or_pos k with k0|k0
 ·subst k0;simp [slL,bnd]
 ·simp [slL,bnd,kcut,hk,Nat.le_of_lt hk,Nat.ne_of_gt k0,hs]
theorem XH0 {id k n sz:Nat} (hk:k<=n):slL sz (.sl id 0 n n (some sz)) none (some (.i .i64 (k:Int))) none=some (.sl id 0 k n (some sz)):=by
 simp [slL,bnd,kcut,hk]
end
end
end Go.Proofs.YtebcngelgdpbjaaGreat
