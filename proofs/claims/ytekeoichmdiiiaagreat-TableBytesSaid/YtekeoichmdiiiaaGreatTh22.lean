/- Part 22 of what the laws' proofs rest on. No condition. -/
import Derived.Test.YtekeoichmdiiiaaGreatTh21
set_option linter.all false
namespace Go.Proofs.YtekeoichmdiiiaaGreat
section
set_option maxRecDepth 100000
set_option maxHeartbeats 4000000
theorem Kz1 {h:List AB} {i:Nat} {xs:List AV} (e:zZU h i=some xs):zZU (h.map AB.freeze) i=some xs:=by
 unfold zZU at e ⊢
 rw[List.getElem?_map]
 cases hB:h[i]? with
 | none=>rw[hB]at e;cases e
 | some B =>
  rw[hB]at e
  cases B <;> first|(cases e;done)|exact e
noncomputable def zJN:List AV->List AB->Option (AV×List AB)
 | [.p i 0],h=>(rdr h i).bind fun x=>(getS X0d h x.2.1).bind fun bs=>if 0<=x.2.2.1/\x.2.2.1<=bs.length then some (.ag [.i .i64 (Q60 bs ⟨x.2.2.1.toNat,x.2.2.2.1,x.2.2.2.2⟩).1,.i .i64 (Q60 bs ⟨x.2.2.1.toNat,x.2.2.2.1,x.2.2.2.2⟩).2],h) else none
 | _,_=>none
theorem ZLZ:Spec Tryz.prog 107 zJN:=by
 intro args h v h' e
 unfold zJN at e
 split at e
 ·rename_i i
  obtain ⟨j,s,p,er,a,⟨m,hi⟩,hb,hc,e⟩:=Zyn e
  dsimp only at e
  obtain ⟨bs,hs,e⟩:=Qk0 e
  split at e
  ·rename_i hp
   cases e
   obtain ⟨n,rfl⟩:=Int.eq_ofNat_of_zero_le hp.1
   refine FnAt.c (FnAt.frz0 fun hz=>?_)
   replace hb:=Kz1 hb
   replace hc:=Kz1 hc
   replace hs:=hs.frz
   replace hi:(h.map AB.freeze)[i]?=some (.blk false false [.p j 0,s,.i .i64 (n:Int)]):=by rw[List.getElem?_map,hi];rfl
   generalize h.map AB.freeze=h at *
   refine (FnAt.run (by kernel_rfl) (T:=⟨[⟨169,zbh,fun _=>[]⟩],[]⟩) ⟨⟨ZST,trivial⟩,trivial⟩ Tryz.func107 q5V fun ho hh=>?_)
   have f1:=X5u hb
   have f2:=X5u hc
   have f3:=hs.fx (qC8 hh hi) (sz:=1) rfl
   have hn:((n:Int)).toNat=n:=Int.toNat_natCast n
   unfold w107
   by_cases g:er=0
   ·have g':=eq_true g
    by_cases q:n<bs.length
    ·have q':((n:Int)<(bs.length:Int))=True:=eq_true (by omega)
     have q2:=eq_true q
     have hr:Q60 bs ⟨n,er,a⟩=(4,(n:Int)):=by unfold Q60;rw[if_pos ⟨g,q⟩]
     simp only[hn,hr,z49,Qs3,XtK,K1H,JS3,simprocAttr,CO.tmps,Opd.tmps,optT,f1,f2,f3,g',q',q2,zbh,oW hh hz,YNB,List.getElem?_cons_zero,List.getElem?_cons_succ,ne_eq,not_true_eq_false,decide_true,decide_false]
     exact Bt.drop _ hh rfl (by simp only[JL2,ZiP,q0E,ok_i,Bool.and_true])
    ·have q':((n:Int)<(bs.length:Int))=False:=eq_false (by omega)
     have q2:=eq_false q
     have hr:Q60 bs ⟨n,er,a⟩=(er,a):=by unfold Q60;rw[if_neg fun z=>q z.2]
     simp only[hn,hr,z49,Qs3,XtK,K1H,JS3,simprocAttr,CO.tmps,Opd.tmps,optT,f1,f2,f3,g',q',q2,zbh,oW hh hz,YNB,List.getElem?_cons_zero,List.getElem?_cons_succ,ne_eq,not_true_eq_false,decide_true,decide_false]
     exact Bt.drop _ hh rfl (by simp only[JL2,ZiP,q0E,ok_i,Bool.and_true])
   ·have g':=eq_false g
    have hr:Q60 bs ⟨n,er,a⟩=(er,a):=by unfold Q60;rw[if_neg fun z=>g z.1]
    simp only[hn,hr,z49,Qs3,XtK,K1H,JS3,simprocAttr,CO.tmps,Opd.tmps,optT,f1,f2,f3,g',zbh,oW hh hz,YNB,List.getElem?_cons_zero,List.getElem?_cons_succ,ne_eq,not_false_eq_true,decide_true,decide_false]
    exact Bt.drop _ hh rfl (by simp only[JL2,ZiP,q0E,ok_i,Bool.and_true])
  ·cases e
 ·cases e
end
section
set_option maxRecDepth 100000
set_option maxHeartbeats 4000000
theorem qrm (l:List UInt8):(X0d.cells l).all (wrOk true)=true:=by
 rw[YG4,List.all_eq_true]
 intro a h
 obtain ⟨b,_,rfl⟩:=List.mem_map.1 h
 rfl
noncomputable def qjh:List AV->List AB->Option (AV×List AB)
 | [a],h=>(getS X0d h a).bind fun xs=>if xs.length<=1000000 then some (rsl X0d h.length xs,h++[resB X0d true xs]) else none
 | _,_=>none
theorem Xpb (h:List AB) (xs:List UInt8) (h0:xs.length=0):FnC Tryz.prog 170 [.se] h (rsl X0d h.length xs) (h++[resB X0d true xs]):=by
 refine FnAt.c (FnAt.run (by kernel_rfl) (T:=⟨[],[]⟩) ⟨trivial,trivial⟩ Tryz.func170 Yv9 fun ho hh=>?_)
 have fs:∀x:List AB,srcV (h++x) 1 .se=some (0,[]):=fun _=>rfl
 unfold w170
 simp only[z49,Qs3,XtK,JS3,simprocAttr,fs,qrm]
 exact Bt.one 0 hh (fun _=>Wk.empty _ _ _ _ _ _) (by simp) (fun h=>absurd h0 h)
theorem qj5 (h:List AB) (xs:List UInt8) (h0:xs.length=0):FnC Tryz.prog 170 [.ns] h (rsl X0d h.length xs) (h++[resB X0d true xs]):=by
 refine FnAt.c (FnAt.run (by kernel_rfl) (T:=⟨[],[]⟩) ⟨trivial,trivial⟩ Tryz.func170 Yv9 fun ho hh=>?_)
 unfold w170
 simp only[z49,Qs3,XtK,JS3,simprocAttr]
 exact Bt.one0 h0 (Wk.nil _ _)
theorem Z6M:Spec Tryz.prog 170 qjh:=by
 intro args h v h' e
 unfold qjh at e
 split at e
 ·rename_i a
  obtain ⟨xs,ha,e⟩:=Qk0 e
  split at e
  ·rename_i hl
   cases e
   by_cases hk:∃id off cap,a=.sl id off 0 cap (some 0)
   ·obtain ⟨id,off,cap,rfl⟩:=hk
    have h0:xs.length=0:=by have:=ha.len;simp only[lenV,Option.some.injEq]at this;omega
    exact FnC.empty1 (qj5 h xs h0) (Xpb h xs h0)
   have hs:=ha.isSl
   have hlen:=ha.len
   cases a <;> first|(cases hs;done)|skip
   ·rename_i id off len cap k
    have hq:ZAx (.sl id off len cap k) .ns=some false:=by
     rw[Xhz,if_neg]
     rintro ⟨rfl,rfl⟩
     exact hk ⟨_,_,_,rfl⟩
    refine FnAt.c (FnAt.run (by kernel_rfl) (T:=⟨[],[]⟩) ⟨trivial,trivial⟩ Tryz.func170 Yv9 fun ho hh=>?_)
    simp only[ZiP,Bool.and_eq_true]at ho
    have fa:=ha.fx ho.1 (sz:=1) rfl
    have fs:=ha.src (sz:=1) rfl
    unfold w170
    by_cases h0:xs.length=0
    ·simp only[z49,Qs3,XtK,JS3,simprocAttr,fa,fs,h0,hq,qrm]
     exact Bt.one 0 hh (fun _=>Wk.empty _ _ _ _ _ _) (by simp) (fun h=>absurd h0 h)
    ·simp only[z49,Qs3,XtK,JS3,simprocAttr,fa,fs,h0,hq,qrm]
     exact ⟨⟨by omega,by unfold maxLen;omega⟩,Bt.one 1 hh (fun h=>absurd h h0) (by simp) (fun _=>⟨rfl,rfl⟩)⟩
   ·exact Xpb h xs (by simp only[lenV,Option.some.injEq]at hlen;omega)
   ·exact qj5 h xs (by simp only[lenV,Option.some.injEq]at hlen;omega)
  ·cases e
 ·cases e
noncomputable def ZjI:List AV->List AB->Option (AV×List AB)
 | [a],h=>(getS X0d h a).bind fun xs=>if xs.length<=1000000 then some (.p h.length 0,h++[.blk false true [.p (h.length+1) 0,rsl X0d (h.length+2) xs,.i .i64 0],.blk true true [.i .i64 0,.i .i64 0],resB X0d true xs]) else none
 | _,_=>none
theorem qCs:Spec Tryz.prog 100 ZjI:=by
 intro args h v h' e
 unfold ZjI at e
 split at e
 ·rename_i a
  obtain ⟨xs,ha,e⟩:=Qk0 e
  split at e
  ·rename_i hl
   cases e
   refine FnAt.c (FnAt.frz fun hz=>?_)
   rw[show h.length=(h.map AB.freeze).length from (List.length_map _).symm]
   replace ha:=ha.frz
   generalize h.map AB.freeze=h at *
   refine FnAt.run (by kernel_rfl) (T:=⟨[⟨170,qjh,fun _=>[]⟩],[]⟩) ⟨⟨Z6M,trivial⟩,trivial⟩ Tryz.func100 ZSg fun ho hh=>?_
   simp only[ZiP,Bool.and_eq_true]at ho
   have fa:=ha.fx ho.1 (sz:=1) rfl
   have l1:=eq_true hl
   unfold w100
   simp only[z49,Qs3,XtK,K1H,JS3,simprocAttr,CO.tmps,Opd.tmps,optT,fa,l1,qjh,oW hh hz]
   exact Bt.sel [2,0,1] hh (by decide) (by simp only[Ztz,FrSel,BlkSel,AV.ren,renL,AV.ok,okL,Option.some.injEq,exists_eq_left',List.length_cons,List.length_nil,Nat.reduceAdd,Nat.reduceLT,reduceCtorEq,implies_true,exists_eq',Ytc,Ket]) (by simp only[Ztz,FrSel,BlkSel,AV.ren,renL,AV.ok,okL,Option.some.injEq,exists_eq_left',List.length_cons,List.length_nil,Nat.reduceAdd,Nat.reduceLT,reduceCtorEq,implies_true,exists_eq'])
  ·cases e
 ·cases e
end
section
theorem Xsk {α:Type} {xs ys:List α} {i:Nat} (d:α) (hx:i<xs.length) (hy:i<ys.length) (e:xs.take i=ys.take i):(xs.take (i+1)=ys.take (i+1))↔xs.getD i d=ys.getD i d:=by
 rw[List.take_succ_eq_append_getElem hx,List.take_succ_eq_append_getElem hy,e,List.append_right_inj,List.getD_eq_getElem?_getD,List.getD_eq_getElem?_getD,List.getElem?_eq_getElem hx,List.getElem?_eq_getElem hy]
 simp
theorem qrH {α:Type} {xs ys:List α} {i:Nat} (hi:xs.length<=i):(xs.length=ys.length/\xs.take i=ys.take i)↔xs=ys:=by
 constructor
 ·rintro ⟨h1,h2⟩
  rwa [List.take_of_length_le hi,List.take_of_length_le (by omega)]at h2
 ·rintro rfl
  exact ⟨rfl,rfl⟩
theorem KfX {α:Type} {xs ys:List α} {i:Nat} (h:¬(xs.length=ys.length/\xs.take i=ys.take i)):¬xs=ys:=by
 rintro rfl
 exact h ⟨rfl,rfl⟩
end
section
set_option maxRecDepth 100000
noncomputable def YDe:List AV->List AB->Option (AV×List AB)
 | [a,b],h=>(getS intR h a).bind fun xs=>(getS intR h b).bind fun ys=>some (.b (decide (xs=ys)),h)
 | _,_=>none
theorem YX2:Spec Tryz.prog 80 YDe:=by
 intro args h v h' e
 unfold YDe at e
 split at e
 ·rename_i a b
  obtain ⟨xs,ha,e⟩:=Qk0 e
  obtain ⟨ys,hb,e⟩:=Qk0 e
  cases e
  refine FnAt.c (FnAt.frz0 fun hz=>?_)
  replace ha:=ha.frz
  replace hb:=hb.frz
  generalize h.map AB.freeze=h at *
  refine FnAt.run (by kernel_rfl) (T:=⟨[],[]⟩) ⟨trivial,trivial⟩ Tryz.func80 sw80 fun ho hh=>?_
  simp only[ZiP,Bool.and_eq_true]at ho
  have fa:=ha.fx ho.1 (sz:=1) rfl
  have fb:=hb.fx ho.2.1 (sz:=1) rfl
  unfold w80
  simp only[z49,Qs3,XtK,JS3,simprocAttr,fa,fb]
  refine ZDF (S:=Nat) (fun i=>xs.length-i) (fun i=>[a,b]++tp 3++[.b (decide (xs.length=ys.length/\xs.take i=ys.take i)),.i .i64 i]++tp 24) (fun i=>xs.length=ys.length->i<=xs.length) 0 (fun _=>Nat.zero_le _) (by simp only[XtK,JS3,simprocAttr,List.take_zero]) fun i hi=>?_
  simp only[XtK,JS3,simprocAttr,fa,fb]
  refine ⟨fun h1=>⟨fun h2=>?_,fun h2=>?_⟩,fun h1=>?_⟩
  ·have h3:i<ys.length:=by omega
   have e1:IntKind.i64.wrap ((i:Int)+1)=((i+1:Nat):Int):=Q7p (by have:=ha.2;unfold maxLen at this;unfold In64;omega)
   simp only[XtK,ZGK,JS3,simprocAttr,CO.tmps,Opd.tmps,optT,fa,fb,h2,h3,KpI,Nat.zero_lt_one,e1]
   refine ⟨i+1,fun _=>h2,by omega,?_,Wk.refl _⟩
   have e2:(xs.length=ys.length/\xs.take (i+1)=ys.take (i+1))=(xs.getD i intR.d=ys.getD i intR.d):=propext (by rw[and_iff_right h1.1];exact Xsk _ h2 h3 h1.2)
   simp only[e2,J8z]
  ·exact Bt.eq (by simp only[AV.b.injEq,decide_eq_decide];exact qrH (by omega)) (List.append_nil h)
  ·exact Bt.eq (by simp only[AV.b.injEq,decide_eq_decide];exact iff_of_false h1 (KfX h1)) (List.append_nil h)
 ·cases e
end
section
set_option maxRecDepth 100000
set_option maxHeartbeats 4000000
theorem Qpw {T:Env} {fr:List AV} {h:List AB} (x:Opd):opR T (.b2s x) fr h=if (x.ev fr).isStr then none else (srcV h 1 (x.ev fr)).bind fun p=>(bytesOf p.2).map fun l=>(.s l,h):=oI rfl
theorem YHj (l:List UInt8):bytesOf (X0d.cells l)=some l:=by
 rw[YG4]
 induction l with
 | nil=>rfl
 | cons x l ih =>
  simp only[List.map_cons,bytesOf,u8A,ih]
  simp
theorem QZw (x y:List UInt8):binV .eql (.s x) (.s y)=some (.b (x == y)):=oI rfl
noncomputable def qtz:List AV->List AB->Option (AV×List AB)
 | [a,b],h=>(getS X0d h a).bind fun xs=>(getS X0d h b).bind fun ys=>some (.b (decide (xs=ys)),h)
 | _,_=>none
theorem Xbw:Spec Tryz.prog 17 qtz:=by
 intro args h v h' e
 unfold qtz at e
 split at e
 ·rename_i a b
  obtain ⟨xs,ha,e⟩:=Qk0 e
  obtain ⟨ys,hb,e⟩:=Qk0 e
  cases e
  refine FnAt.c (FnAt.frz0 fun hz=>?_)
  replace ha:=ha.frz
  replace hb:=hb.frz
  generalize h.map AB.freeze=h at *
  refine FnAt.run (by kernel_rfl) (T:=⟨[],[]⟩) ⟨trivial,trivial⟩ Tryz.func17 sw17 fun ho hh=>?_
  simp only[ZiP,Bool.and_eq_true]at ho
  have fa:=ha.fx ho.1 (sz:=1) rfl
  have fb:=hb.fx ho.2.1 (sz:=1) rfl
  have sa:=ha.src (sz:=1) rfl
  have sb:=hb.src (sz:=1) rfl
  have ia:=QP8 ha.isSl
  have ib:=QP8 hb.isSl
  unfold w17
  simp only[z49,Qs3,XtK,K1H,JS3,simprocAttr,CO.tmps,Opd.tmps,optT,fa,fb,sa,sb,ia,ib,Qpw,YHj,QZw,oW hh hz]
  exact Bt.dropB _ hh (Bool.eq_iff_iff.2 (by simp))
 ·cases e
end
section
noncomputable def tl0:List (Option TC):=[none,none,none,none,some (.cf w4),none,none,none,none,none,some (.cf w10),none,some (.cf w12),none,some (.cf w14),none]
theorem ta0:AllN Tryz.prog 0 tl0:=(AllN.skip (AllN.skip (AllN.skip (AllN.skip (AllN.cons Tryz.func4 sw4 (AllN.skip (AllN.skip (AllN.skip (AllN.skip (AllN.skip (AllN.cons Tryz.func10 sw10 (AllN.skip (AllN.cons Tryz.func12 sw12 (AllN.skip (AllN.cons Tryz.func14 sw14 (AllN.skip trivial))))))))))))))))
noncomputable def tl1:List (Option TC):=[some (.cf w16),some (.cf w17),some (.cf w18),none,none,some (.cf w21),some (.cf w22),some (.cf w23),some (.cf w24),some (.cf w25),some (.cf w26),some (.cf w27),some (.cf w28),some (.cf w29),some (.cf w30),some (.cf w31)]
theorem ta1:AllN Tryz.prog 16 tl1:=(AllN.cons Tryz.func16 sw16 (AllN.cons Tryz.func17 sw17 (AllN.cons Tryz.func18 sw18 (AllN.skip (AllN.skip (AllN.cons Tryz.func21 sw21 (AllN.cons Tryz.func22 sw22 (AllN.cons Tryz.func23 sw23 (AllN.cons Tryz.func24 sw24 (AllN.cons Tryz.func25 sw25 (AllN.cons Tryz.func26 sw26 (AllN.cons Tryz.func27 sw27 (AllN.cons Tryz.func28 sw28 (AllN.cons Tryz.func29 sw29 (AllN.cons Tryz.func30 sw30 (AllN.cons Tryz.func31 sw31 trivial))))))))))))))))
noncomputable def tl2:List (Option TC):=[none,none,some (.cf w34),none,none,none,none,none,none,none,none,none,none,none,none,some (.cf w47)]
theorem ta2:AllN Tryz.prog 32 tl2:=(AllN.skip (AllN.skip (AllN.cons Tryz.func34 sw34 (AllN.skip (AllN.skip (AllN.skip (AllN.skip (AllN.skip (AllN.skip (AllN.skip (AllN.skip (AllN.skip (AllN.skip (AllN.skip (AllN.skip (AllN.cons Tryz.func47 sw47 trivial))))))))))))))))
noncomputable def tl3:List (Option TC):=[none,none,none,none,none,none,some (.cf w54),none,some (.cf w56),some (.cf w57),some (.cf w58),some (.cf w59),some (.cf w60),some (.cf w61),none,none]
theorem ta3:AllN Tryz.prog 48 tl3:=(AllN.skip (AllN.skip (AllN.skip (AllN.skip (AllN.skip (AllN.skip (AllN.cons Tryz.func54 sw54 (AllN.skip (AllN.cons Tryz.func56 sw56 (AllN.cons Tryz.func57 sw57 (AllN.cons Tryz.func58 sw58 (AllN.cons Tryz.func59 sw59 (AllN.cons Tryz.func60 sw60 (AllN.cons Tryz.func61 sw61 (AllN.skip (AllN.skip trivial))))))))))))))))
noncomputable def tl4:List (Option TC):=[none,none,none,none,some (.cf w68),some (.cf w69),some (.cf w70),some (.cf w71),some (.cf w72),some (.cf w73),none,none,none,none,none,none]
theorem ta4:AllN Tryz.prog 64 tl4:=(AllN.skip (AllN.skip (AllN.skip (AllN.skip (AllN.cons Tryz.func68 sw68 (AllN.cons Tryz.func69 sw69 (AllN.cons Tryz.func70 sw70 (AllN.cons Tryz.func71 sw71 (AllN.cons Tryz.func72 sw72 (AllN.cons Tryz.func73 sw73 (AllN.skip (AllN.skip (AllN.skip (AllN.skip (AllN.skip (AllN.skip trivial))))))))))))))))
noncomputable def tl5:List (Option TC):=[some (.cf w80),some (.cf w81),some (.cf w82),some (.cf w83),some (.cf w84),some (.cf w85),some (.cf w86),some (.cf w87),none,none,none,none,none,some (.cf w93),some (.cf w94),some (.cf w95)]
theorem ta5:AllN Tryz.prog 80 tl5:=(AllN.cons Tryz.func80 sw80 (AllN.cons Tryz.func81 sw81 (AllN.cons Tryz.func82 sw82 (AllN.cons Tryz.func83 sw83 (AllN.cons Tryz.func84 sw84 (AllN.cons Tryz.func85 sw85 (AllN.cons Tryz.func86 sw86 (AllN.cons Tryz.func87 sw87 (AllN.skip (AllN.skip (AllN.skip (AllN.skip (AllN.skip (AllN.cons Tryz.func93 sw93 (AllN.cons Tryz.func94 sw94 (AllN.cons Tryz.func95 sw95 trivial))))))))))))))))
noncomputable def tl6:List (Option TC):=[none,some (.cf w97),some (.cf w98),some (.cf w99),none,none,none,none,none,none,none,none,none,none,none,none]
theorem ta6:AllN Tryz.prog 96 tl6:=(AllN.skip (AllN.cons Tryz.func97 sw97 (AllN.cons Tryz.func98 sw98 (AllN.cons Tryz.func99 sw99 (AllN.skip (AllN.skip (AllN.skip (AllN.skip (AllN.skip (AllN.skip (AllN.skip (AllN.skip (AllN.skip (AllN.skip (AllN.skip (AllN.skip trivial))))))))))))))))
noncomputable def tl7:List (Option TC):=[none,none,none,some (.cf w115),none,none,none,none,none,none,none,none,none,none,none,none]
theorem ta7:AllN Tryz.prog 112 tl7:=(AllN.skip (AllN.skip (AllN.skip (AllN.cons Tryz.func115 XIq (AllN.skip (AllN.skip (AllN.skip (AllN.skip (AllN.skip (AllN.skip (AllN.skip (AllN.skip (AllN.skip (AllN.skip (AllN.skip (AllN.skip trivial))))))))))))))))
noncomputable def tl8:List (Option TC):=[none,none,some (.cf w130),some (.cf w131),some (.cf w132),some (.cf w133),some (.cf w134),some (.cf w135),some (.cf w136),some (.cf w137),none,none,none,none,none,none]
theorem ta8:AllN Tryz.prog 128 tl8:=(AllN.skip (AllN.skip (AllN.cons Tryz.func130 Xpa (AllN.cons Tryz.func131 KdI (AllN.cons Tryz.func132 zoS (AllN.cons Tryz.func133 qbk (AllN.cons Tryz.func134 zK2 (AllN.cons Tryz.func135 XlW (AllN.cons Tryz.func136 QLT (AllN.cons Tryz.func137 qDn (AllN.skip (AllN.skip (AllN.skip (AllN.skip (AllN.skip (AllN.skip trivial))))))))))))))))
noncomputable def tl9:List (Option TC):=[none,none,some (.cf w146),some (.cf w147),none,some (.cf w149),some (.cf w150),some (.cf w151),some (.cf w152),some (.cf w153),some (.cf w154),some (.cf w155),some (.cf w156),some (.cf w157),some (.cf w158),some (.cf w159)]
theorem ta9:AllN Tryz.prog 144 tl9:=(AllN.skip (AllN.skip (AllN.cons Tryz.func146 KWa (AllN.cons Tryz.func147 QAI (AllN.skip (AllN.cons Tryz.func149 Qhr (AllN.cons Tryz.func150 zVL (AllN.cons Tryz.func151 KA4 (AllN.cons Tryz.func152 QJw (AllN.cons Tryz.func153 QWI (AllN.cons Tryz.func154 qoY (AllN.cons Tryz.func155 zTH (AllN.cons Tryz.func156 Q8z (AllN.cons Tryz.func157 Y2E (AllN.cons Tryz.func158 YAr (AllN.cons Tryz.func159 qN9 trivial))))))))))))))))
noncomputable def tl10:List (Option TC):=[some (.cf w160),some (.cf w161),some (.cf w162),some (.cf w163),none,some (.cf w165),some (.cf w166),some (.cf w167),some (.cf w168),some (.cf w169),some (.cf w170),none,none,none,none,none]
theorem ta10:AllN Tryz.prog 160 tl10:=(AllN.cons Tryz.func160 ZRU (AllN.cons Tryz.func161 Jgm (AllN.cons Tryz.func162 zUj (AllN.cons Tryz.func163 quq (AllN.skip (AllN.cons Tryz.func165 Kmn (AllN.cons Tryz.func166 JpM (AllN.cons Tryz.func167 JYA (AllN.cons Tryz.func168 Xv6 (AllN.cons Tryz.func169 K2a (AllN.cons Tryz.func170 Yv9 (AllN.skip (AllN.skip (AllN.skip (AllN.skip (AllN.skip trivial))))))))))))))))
noncomputable def tl11:List (Option TC):=[some (.cf w176),some (.cf w177),some (.cf w178),some (.cf w179),some (.cf w180),some (.cf w181),some (.cf w182),some (.cf w183),some (.cf w184),some (.cf w185),some (.cf w186),some (.cf w187),some (.cf w188),some (.cf w189),none,none]
theorem ta11:AllN Tryz.prog 176 tl11:=(AllN.cons Tryz.func176 YR4 (AllN.cons Tryz.func177 YNl (AllN.cons Tryz.func178 qqL (AllN.cons Tryz.func179 Zy5 (AllN.cons Tryz.func180 Zfv (AllN.cons Tryz.func181 zZ1 (AllN.cons Tryz.func182 QO2 (AllN.cons Tryz.func183 KmW (AllN.cons Tryz.func184 QP1 (AllN.cons Tryz.func185 Zzg (AllN.cons Tryz.func186 qGV (AllN.cons Tryz.func187 Jb0 (AllN.cons Tryz.func188 z2D (AllN.cons Tryz.func189 YEh (AllN.skip (AllN.skip trivial))))))))))))))))
noncomputable def tl12:List (Option TC):=[none,some (.cf w193),some (.cf w194),some (.cf w195),some (.cf w196),some (.cf w197),some (.cf w198),some (.cf w199),none,none,none,none,none,none,none,none]
theorem ta12:AllN Tryz.prog 192 tl12:=(AllN.skip (AllN.cons Tryz.func193 YUA (AllN.cons Tryz.func194 QxL (AllN.cons Tryz.func195 QDB (AllN.cons Tryz.func196 ZRd (AllN.cons Tryz.func197 X8u (AllN.cons Tryz.func198 Q9z (AllN.cons Tryz.func199 KJX (AllN.skip (AllN.skip (AllN.skip (AllN.skip (AllN.skip (AllN.skip (AllN.skip (AllN.skip trivial))))))))))))))))
noncomputable def tl13:List (Option TC):=[none,none,none,none,none,none,none,none,none,none,none,none,none,none,none,some (.cf w223)]
theorem ta13:AllN Tryz.prog 208 tl13:=(AllN.skip (AllN.skip (AllN.skip (AllN.skip (AllN.skip (AllN.skip (AllN.skip (AllN.skip (AllN.skip (AllN.skip (AllN.skip (AllN.skip (AllN.skip (AllN.skip (AllN.skip (AllN.cons Tryz.func223 QNy trivial))))))))))))))))
noncomputable def tl14:List (Option TC):=[some (.cf w224),some (.cf w225),none,none,none,none,none,none,none,some (.cf w233),some (.cf w234),some (.cf w235),some (.cf w236),some (.cf w237),some (.cf w238),some (.cf w239)]
theorem ta14:AllN Tryz.prog 224 tl14:=(AllN.cons Tryz.func224 YrR (AllN.cons Tryz.func225 ZIc (AllN.skip (AllN.skip (AllN.skip (AllN.skip (AllN.skip (AllN.skip (AllN.skip (AllN.cons Tryz.func233 zlR (AllN.cons Tryz.func234 Zlp (AllN.cons Tryz.func235 QYg (AllN.cons Tryz.func236 ZJr (AllN.cons Tryz.func237 X8U (AllN.cons Tryz.func238 X2G (AllN.cons Tryz.func239 YX6 trivial))))))))))))))))
noncomputable def tl15:List (Option TC):=[some (.cf w240),some (.cf w241),none,none,none,none,none,none,some (.cf w248),some (.cf w249),some (.cf w250),none,some (.cf w252),none,some (.cf w254),none]
theorem ta15:AllN Tryz.prog 240 tl15:=(AllN.cons Tryz.func240 YZg (AllN.cons Tryz.func241 Y5h (AllN.skip (AllN.skip (AllN.skip (AllN.skip (AllN.skip (AllN.skip (AllN.cons Tryz.func248 QFT (AllN.cons Tryz.func249 JjD (AllN.cons Tryz.func250 qjN (AllN.skip (AllN.cons Tryz.func252 zFm (AllN.skip (AllN.cons Tryz.func254 qBT (AllN.skip trivial))))))))))))))))
noncomputable def tl16:List (Option TC):=[some (.cf w256),some (.cf w257),some (.cf w258),some (.cf w259),some (.cf w260),some (.cf w261),none,none,none,some (.cf w265),some (.cf w266),some (.cf w267),none,none,none,none]
theorem ta16:AllN Tryz.prog 256 tl16:=(AllN.cons Tryz.func256 Qsr (AllN.cons Tryz.func257 YvR (AllN.cons Tryz.func258 qOH (AllN.cons Tryz.func259 XBD (AllN.cons Tryz.func260 qIW (AllN.cons Tryz.func261 XCu (AllN.skip (AllN.skip (AllN.skip (AllN.cons Tryz.func265 KTH (AllN.cons Tryz.func266 qKU (AllN.cons Tryz.func267 zsp (AllN.skip (AllN.skip (AllN.skip (AllN.skip trivial))))))))))))))))
noncomputable def tl17:List (Option TC):=[none,none,none,none,none,none,none,none,none,none,none,none,none,none,none,some (.cf w287)]
theorem ta17:AllN Tryz.prog 272 tl17:=(AllN.skip (AllN.skip (AllN.skip (AllN.skip (AllN.skip (AllN.skip (AllN.skip (AllN.skip (AllN.skip (AllN.skip (AllN.skip (AllN.skip (AllN.skip (AllN.skip (AllN.skip (AllN.cons Tryz.func287 Qkz trivial))))))))))))))))
noncomputable def tl18:List (Option TC):=[some (.cf w288),some (.cf w289),some (.cf w290),some (.cf w291),some (.cf w292),none,none,none,none,none,none,none,some (.cf w300),some (.cf w301),some (.cf w302),some (.cf w303)]
theorem ta18:AllN Tryz.prog 288 tl18:=(AllN.cons Tryz.func288 ZzR (AllN.cons Tryz.func289 ZMV (AllN.cons Tryz.func290 ZDE (AllN.cons Tryz.func291 zBL (AllN.cons Tryz.func292 Z06 (AllN.skip (AllN.skip (AllN.skip (AllN.skip (AllN.skip (AllN.skip (AllN.skip (AllN.cons Tryz.func300 JEx (AllN.cons Tryz.func301 YLo (AllN.cons Tryz.func302 KoN (AllN.cons Tryz.func303 X97 trivial))))))))))))))))
noncomputable def tl19:List (Option TC):=[some (.cf w304),some (.cf w305),some (.cf w306),some (.cf w307),some (.cf w308),some (.cf w309),some (.cf w310),some (.cf w311),some (.cf w312),none,none,some (.cf w315),some (.cf w316),none,none,some (.cf w319)]
theorem ta19:AllN Tryz.prog 304 tl19:=(AllN.cons Tryz.func304 qRY (AllN.cons Tryz.func305 ZQU (AllN.cons Tryz.func306 Qsa (AllN.cons Tryz.func307 Xcv (AllN.cons Tryz.func308 qxv (AllN.cons Tryz.func309 QRO (AllN.cons Tryz.func310 Kxf (AllN.cons Tryz.func311 XRA (AllN.cons Tryz.func312 Qzt (AllN.skip (AllN.skip (AllN.cons Tryz.func315 ZiR (AllN.cons Tryz.func316 YRE (AllN.skip (AllN.skip (AllN.cons Tryz.func319 JVL trivial))))))))))))))))
noncomputable def tl20:List (Option TC):=[none,none,none,none,none,none,none,none,none,some (.cf w329),some (.cf w330),some (.cf w331),some (.cf w332),some (.cf w333),some (.cf w334),some (.cf w335)]
theorem ta20:AllN Tryz.prog 320 tl20:=(AllN.skip (AllN.skip (AllN.skip (AllN.skip (AllN.skip (AllN.skip (AllN.skip (AllN.skip (AllN.skip (AllN.cons Tryz.func329 XfO (AllN.cons Tryz.func330 zH2 (AllN.cons Tryz.func331 QPu (AllN.cons Tryz.func332 X7D (AllN.cons Tryz.func333 qWY (AllN.cons Tryz.func334 zd0 (AllN.cons Tryz.func335 XmV trivial))))))))))))))))
noncomputable def tl21:List (Option TC):=[some (.cf w336),none,none,none,none,some (.cf w341),none,none,none,none,none,none,none,none,none,none]
theorem ta21:AllN Tryz.prog 336 tl21:=(AllN.cons Tryz.func336 quK (AllN.skip (AllN.skip (AllN.skip (AllN.skip (AllN.cons Tryz.func341 KLG (AllN.skip (AllN.skip (AllN.skip (AllN.skip (AllN.skip (AllN.skip (AllN.skip (AllN.skip (AllN.skip (AllN.skip trivial))))))))))))))))
noncomputable def tls:List (List (Option TC)):=[tl0,tl1,tl2,tl3,tl4,tl5,tl6,tl7,tl8,tl9,tl10,tl11,tl12,tl13,tl14,tl15,tl16,tl17,tl18,tl19,tl20,tl21]
noncomputable def TT:TB:=tabn tls
theorem z8c:Z4Q Tryz.prog TT:=JkV tls (AllNs.cons ta0 (AllNs.cons ta1 (AllNs.cons ta2 (AllNs.cons ta3 (AllNs.cons ta4 (AllNs.cons ta5 (AllNs.cons ta6 (AllNs.cons ta7 (AllNs.cons ta8 (AllNs.cons ta9 (AllNs.cons ta10 (AllNs.cons ta11 (AllNs.cons ta12 (AllNs.cons ta13 (AllNs.cons ta14 (AllNs.cons ta15 (AllNs.cons ta16 (AllNs.cons ta17 (AllNs.cons ta18 (AllNs.cons ta19 (AllNs.cons ta20 (AllNs.cons ta21 trivial))))))))))))))))))))))
end
section
theorem ct4:runT TT 60 w4=true:=by kernel_rfl
theorem fc4 (h:List AB):FnC Tryz.prog 4 [] h (.b true) h:=FnC.closed (by kernel_rfl) z8c 60 4 (by kernel_rfl) ct4 h
end
section
set_option maxRecDepth 100000
set_option maxHeartbeats 4000000
theorem ZBH {h:List AB} {i:Nat} {fl:Bool} {cells:List AV} (hi:h[i]?=some (.blk fl true cells)) {o:Nat} {v:AV} (ho:o+1<=cells.length) (hw:wrOk fl v=true) (h1:v.one=true) (x:List AB):stV (h++x) none (.p i o) v=some (h.set i (.blk fl true (over cells o [v]))++x):=by
 have hlt:=(List.getElem?_eq_some_iff.1 hi).1
 simp only[stV,if_true,stB,h1]
 rw[List.getElem?_append_left hlt,hi]
 dsimp only
 rw[if_pos ⟨ho,by simp [hw]⟩,List.set_append_left _ _ hlt]
theorem Rd.setB {α:Type} {r:Row α} {h:List AB} {s:AV} {l:List α} (e:Rd r h s l) {i:Nat} (hi:∀k∈idOf s,k≠i) (B:AB):Rd r (h.set i B) s l:=by
 refine ⟨?_,e.2⟩
 have h1:=e.1
 cases s <;> first|exact h1|skip
 rename_i id off len cap k
 have hne:id≠i:=hi id (by simp [idOf])
 have hr:zZU (h.set i B) id=zZU h id:=by unfold zZU;rw[List.getElem?_set_ne (Ne.symm hne)]
 simp only[rdS,hr]at h1 ⊢
 exact h1
theorem qgt {h:List AB} {i:Nat} {B:AB} (e:h[i]?=some B):h.set i B=h:=by
 apply List.ext_getElem?
 intro k
 rw[List.getElem?_set]
 split
 ·rename_i hij
  subst hij
  first|rw[if_pos (List.getElem?_eq_some_iff.1 e).1,e] | rw[e]
 ·rfl
theorem Rd.cutS {α:Type} {r:Row α} {h:List AB} {s:AV} {l:List α} (e:Rd r h s l) (hc:s.capOk=true) {a b:Nat} (hab:a<=b) (hb:b<=l.length) {sz:Nat} (hz:r.sz=sz):∃s',slL sz s (some (.i .i64 a)) (some (.i .i64 b)) none=some s'/\Rd r h s' ((l.drop a).take (b-a))/\(∀q,s.ok q=true->s'.ok q=true)/\∀k∈idOf s',k∈idOf s:=by
 subst hz
 have hs:=e.isSl
 have hl:=e.len
 have hm:=e.2
 have hlen:((l.drop a).take (b-a)).length=b-a:=by rw[List.length_take,List.length_drop];omega
 cases s <;> first|(cases hs;done)|skip
 ·rename_i id off len cap k
  simp only[AV.capOk,decide_eq_true_eq]at hc
  simp only[lenV,Option.some.injEq]at hl
  obtain rfl:len=l.length:=by omega
  have b1:bnd l.length cap (some (.i .i64 (b:Int)))=some b:=by
   simp only[bnd]
   rw[if_pos ⟨by omega,by omega⟩,Int.toNat_natCast]
  have b2:bnd 0 b (some (.i .i64 (a:Int)))=some a:=by
   simp only[bnd]
   rw[if_pos ⟨by omega,by omega⟩,Int.toNat_natCast]
  simp only[slL,b1,b2,Option.bind_some,Option.map_some]
  have okq:∀q,(AV.sl id off l.length cap k).ok q=true->l.length≠0->q id=true:=fun q hq h0=>by
   simp only[AV.ok,Bool.or_eq_true,Bool.and_eq_true,Nat.beq_eq]at hq
   rcases hq with hq|hq
   ·exact absurd hq.1.1 h0
   ·exact hq
  have okr:∀(q:Nat->Bool) o n c k',q id=true->(AV.sl id o n c k').ok q=true:=fun q o n c k' hq=>YJG q _ _ _ _ _ hq
  by_cases h0:b-a=0
  ·by_cases ha:a=0
   ·rw[if_pos ha]
    by_cases hL:l.length=0
    ·rw[show b=l.length by omega]
     refine ⟨_,rfl,?_,fun q hq=>hq,fun z hz=>hz⟩
     rw[hL]
     exact Rd.mk0 (by rw[List.length_take,List.length_drop];omega)
    ·refine ⟨_,rfl,?_,fun q hq=>okr q _ _ _ _ (okq q hq hL),fun z hz=>hz⟩
     rw[show b=0 by omega]
     exact Rd.mk0 (by simp)
   ·rw[if_neg ha]
    by_cases hac:a<cap
    ·rw[if_pos hac]
     refine ⟨_,rfl,?_,fun q hq=>okr q _ _ _ _ (okq q hq (by omega)),fun z hz=>hz⟩
     rw[h0]
     exact Rd.mk0 (by simp)
    ·rw[if_neg hac]
     by_cases hk:k=none
     ·rw[if_pos hk]
      exact ⟨_,rfl,Rd.mk0 (by omega),fun q hq=>okr q _ _ _ _ (okq q hq (by omega)),fun z hz=>hz⟩
     ·rw[if_neg hk]
      refine ⟨_,rfl,?_,fun q hq=>rfl,fun z hz=>by cases hz⟩
      rw[List.eq_nil_of_length_eq_zero (hlen.trans h0)]
      exact ⟨rfl,Nat.zero_le _⟩
  ·have hl0:l.length≠0:=by omega
   obtain ⟨_,xs,g1,g2,g3⟩:=e.slc hl0
   have hpos:=r.pos
   have key:∀o,o=off+a*r.sz->(xs.drop o).take (((l.drop a).take (b-a)).length*r.sz)=r.cells ((l.drop a).take (b-a))/\o+((l.drop a).take (b-a)).length*r.sz<=xs.length:=fun o ho=>by
    subst ho
    have hle:a*r.sz+(b-a)*r.sz<=l.length*r.sz:=by
     rw[<-Nat.add_mul]
     exact Nat.mul_le_mul_right _ (by omega)
    rw[hlen]
    refine ⟨?_,by omega⟩
    refine List.ext_getElem? fun n=>?_
    rw[List.getElem?_take]
    by_cases hn:n<(b-a)*r.sz
    ·rw[if_pos hn,List.getElem?_drop,Nat.add_assoc]
     have e1:r.cells l=(xs.drop off).take (l.length*r.sz):=g3.symm
     have e2:(r.cells l)[a*r.sz+n]?=xs[off+(a*r.sz+n)]?:=by
      rw[e1,List.getElem?_take,if_pos (by omega),List.getElem?_drop]
     rw[<-e2]
     have hd:n / r.sz<b-a:=(Nat.div_lt_iff_lt_mul hpos).2 hn
     have hmod:=Nat.mod_lt n hpos
     have hn':n=(n / r.sz)*r.sz+n % r.sz:=by rw[Nat.mul_comm];exact (Nat.div_add_mod n r.sz).symm
     have q1:=r.cells_get l (a+n / r.sz) (n % r.sz) (by omega) hmod
     have q2:=r.cells_get ((l.drop a).take (b-a)) (n / r.sz) (n % r.sz) (by omega) hmod
     rw[show a*r.sz+n=(a+n / r.sz)*r.sz+n % r.sz by rw[Nat.add_mul];omega,q1]
     conv=>rhs;rw[hn']
     rw[q2]
     congr 2
     rw[List.getD_eq_getElem?_getD,List.getD_eq_getElem?_getD,List.getElem?_take,if_pos hd,List.getElem?_drop]
    ·rw[if_neg hn,List.getElem?_eq_none (by rw[r.cells_len,hlen];omega)]
   by_cases ha:a=0
   ·rw[if_pos ha]
    obtain ⟨k1,k2⟩:=key off (by rw[ha];omega)
    exact ⟨_,rfl,Rd.mk_sl g1 (by omega) k2 k1 (by omega),fun q hq=>okr q _ _ _ _ (okq q hq (by omega)),fun z hz=>hz⟩
   ·rw[if_neg ha,if_pos (by omega)]
    obtain ⟨k1,k2⟩:=key _ rfl
    exact ⟨_,rfl,Rd.mk_sl g1 (by omega) k2 k1 (by omega),fun q hq=>okr q _ _ _ _ (okq q hq (by omega)),fun z hz=>hz⟩
 ·simp only[lenV,Option.some.injEq]at hl
  have h0:l.length=0:=by omega
  obtain rfl:a=0:=by omega
  obtain rfl:b=0:=by omega
  exact ⟨.se,by simp [slL,bnd],by rw[List.eq_nil_of_length_eq_zero h0];exact ⟨rfl,Nat.zero_le _⟩,fun q hq=>rfl,fun z hz=>by cases hz⟩
 ·simp only[lenV,Option.some.injEq]at hl
  have h0:l.length=0:=by omega
  obtain rfl:a=0:=by omega
  obtain rfl:b=0:=by omega
  exact ⟨.ns,by simp [slL,bnd],by rw[List.eq_nil_of_length_eq_zero h0];exact ⟨rfl,Nat.zero_le _⟩,fun q hq=>rfl,fun z hz=>by cases hz⟩
def rB (h:List AB) (i j:Nat) (s:AV) (x:RSt):List AB:=(h.set i (.blk false true [.p j 0,s,.i .i64 (x.pos:Nat)])).set j (.blk true true [.i .i64 x.err,.i .i64 x.ea])
structure RdH (h:List AB) (i j:Nat) (s:AV) (bs:List UInt8):Prop where
 hi:i<h.length
 hj:j<h.length
 ne:i≠j
 rd:Rd X0d h s bs
 q:∀k∈idOf s,k≠i/\k≠j
 cap:s.capOk=true
 lt:∀k∈idOf s,k<h.length
noncomputable def rdM (h:List AB) (i:Nat):Option (Nat×AV×List UInt8×RSt):=match h[i]? with
 | some (.blk false true [.p j 0,s,.i .i64 p])=>match h[j]? with
  | some (.blk true true [.i .i64 e,.i .i64 a])=>(getS X0d h s).bind fun bs=>if 0<=p/\p<=bs.length/\(idOf s).all (fun k=>decide (k≠i/\k≠j/\k<h.length))=true/\s.capOk=true then some (j,s,bs,⟨p.toNat,e,a⟩) else none
  | _=>none
 | _=>none
section
variable {h:List AB} {i j:Nat} {s:AV} {bs:List UInt8} {x:RSt}
theorem Kz5:(rB h i j s x).length=h.length:=by unfold rB;rw[List.length_set,List.length_set]
theorem rB_i (H:RdH h i j s bs):(rB h i j s x)[i]?=some (.blk false true [.p j 0,s,.i .i64 (x.pos:Nat)]):=by
 unfold rB
 rw[List.getElem?_set_ne (Ne.symm H.ne),List.getElem?_set_self H.hi]
theorem rB_j (H:RdH h i j s bs):(rB h i j s x)[j]?=some (.blk true true [.i .i64 x.err,.i .i64 x.ea]):=by
 unfold rB
 rw[List.getElem?_set_self (by rw[List.length_set];exact H.hj)]
theorem qO8 {k:Nat} (hi:k≠i) (hj:k≠j):(rB h i j s x)[k]?=h[k]?:=by
 unfold rB
 rw[List.getElem?_set_ne (Ne.symm hj),List.getElem?_set_ne (Ne.symm hi)]
theorem JJh (H:RdH h i j s bs) (y:RSt):rB (rB h i j s x) i j s y=rB h i j s y:=by
 unfold rB
 rw[List.set_comm _ _ (Ne.symm H.ne),List.set_set,List.set_set]
theorem Qju (H:RdH h i j s bs) (L:List AB):rB (h++L) i j s x=rB h i j s x++L:=by
 unfold rB
 rw[List.set_append_left _ _ H.hi,List.set_append_left _ _ (by rw[List.length_set];exact H.hj)]
theorem Zuy (H:RdH h i j s bs) (y:RSt) (L:List AB):rB (rB h i j s x++L) i j s y=rB h i j s y++L:=by
 have H':RdH (rB h i j s x) i j s bs:=⟨by rw[Kz5];exact H.hi,by rw[Kz5];exact H.hj,H.ne,(H.rd.setB (fun k hk=>(H.q k hk).1) _).setB (fun k hk=>(H.q k hk).2) _,H.q,H.cap,fun k hk=>by rw[Kz5];exact H.lt k hk⟩
 rw[Qju H',JJh H]
theorem Y8O {n:Nat} {e a:Int} (hi:h[i]?=some (.blk false true [.p j 0,s,.i .i64 (n:Nat)])) (hj:h[j]?=some (.blk true true [.i .i64 e,.i .i64 a])):rB h i j s ⟨n,e,a⟩=h:=by
 unfold rB
 dsimp only
 rw[qgt hi,qgt hj]
theorem RdH.rB (H:RdH h i j s bs) (x:RSt):Rd X0d (rB h i j s x) s bs:=(H.rd.setB (fun k hk=>(H.q k hk).1) _).setB (fun k hk=>(H.q k hk).2) _
theorem qMc (H:RdH h i j s bs) (ho:s.ok (fun k=>decide (k<h.length))=true) (hh:HOk h) (x:RSt):HOk (rB h i j s x):=by
 intro k B hB
 rw[Kz5]
 by_cases h1:k=i
 ·subst h1
  rw[rB_i H]at hB
  cases hB
  simp only[AB.ok,ZiP,q0E,ok_p,ok_i,ho,decide_eq_true_eq,Bool.and_true,Bool.true_and]
  exact H.hj
 ·by_cases h2:k=j
  ·subst h2
   rw[rB_j H]at hB
   cases hB
   rfl
  ·rw[qO8 h1 h2]at hB
   exact hh k B hB
theorem QN1 {β:Type} {f:Nat×AV×List UInt8×RSt->Option β} {b:β} (q:(rdM h i).bind f=some b):∃j s bs n e a,h[i]?=some (.blk false true [.p j 0,s,.i .i64 (n:Nat)])/\h[j]?=some (.blk true true [.i .i64 e,.i .i64 a])/\RdH h i j s bs/\n<=bs.length/\f (j,s,bs,⟨n,e,a⟩)=some b:=by
 obtain ⟨y,h1,h2⟩:=oQ.1 q
 unfold rdM at h1
 split at h1
 ·rename_i j s p hi
  split at h1
  ·rename_i e a hj
   obtain ⟨bs,hs,h1⟩:=Qk0 h1
   split at h1
   ·rename_i hc
    cases h1
    obtain ⟨h0,hl,hq,hcap⟩:=hc
    obtain ⟨n,rfl⟩:=Int.eq_ofNat_of_zero_le h0
    have hne:i≠j:=by
     rintro rfl
     rw[hi]at hj
     cases hj
    rw[Int.toNat_natCast]at h2
    exact ⟨j,s,bs,n,e,a,hi,hj,⟨(List.getElem?_eq_some_iff.1 hi).1,(List.getElem?_eq_some_iff.1 hj).1,hne,hs,fun k hk=>⟨(of_decide_eq_true (List.all_eq_true.1 hq k hk)).1,(of_decide_eq_true (List.all_eq_true.1 hq k hk)).2.1⟩,hcap,fun k hk=>(of_decide_eq_true (List.all_eq_true.1 hq k hk)).2.2⟩,by omega,h2⟩
   ·cases h1
  ·cases h1
 ·cases h1
theorem qdK (H:RdH h i j s bs) (hx:x.pos<=bs.length) (L:List AB):rdM (rB h i j s x++L) i=some (j,s,bs,x):=by
 unfold rdM
 simp only[List.getElem?_append_left (show i<(rB h i j s x).length by rw[Kz5];exact H.hi),rB_i H,List.getElem?_append_left (show j<(rB h i j s x).length by rw[Kz5];exact H.hj),rB_j H]
 rw[((H.rB x).app L).get,Option.bind_some,if_pos ⟨by omega,by omega,List.all_eq_true.2 fun k hk=>decide_eq_true ⟨(H.q k hk).1,(H.q k hk).2,by have:=H.lt k hk;rw[List.length_append,Kz5];omega⟩,H.cap⟩,Int.toNat_natCast]
theorem XgF (H:RdH h i j s bs) (L:List AB):rdr (rB h i j s x++L) i=some (j,s,((x.pos:Nat):Int),x.err,x.ea):=by
 unfold rdr zZU
 simp only[List.getElem?_append_left (show i<(rB h i j s x).length by rw[Kz5];exact H.hi),rB_i H,List.getElem?_append_left (show j<(rB h i j s x).length by rw[Kz5];exact H.hj),rB_j H]
theorem q3P {S ws:List Nat} {H:List AB} {k:Nat} (hk:k∈S) (hn:k∉ws):(qRB S ws 0 H)[k]?=(H[k]?).map AB.freeze:=by
 rw[z8h,Nat.zero_add]
 cases H[k]? with
 | none=>rfl
 | some B=>simp only[Option.map_some,if_neg hn,if_pos hk]
theorem Qwa {S ws:List Nat} {H:List AB} {k:Nat} (hk:k∈ws):(qRB S ws 0 H)[k]?=H[k]?:=by
 rw[z8h,Nat.zero_add]
 cases H[k]? with
 | none=>rfl
 | some B=>simp only[Option.map_some,if_pos hk]
theorem Kjc {S ws:List Nat} {H:List AB} {k:Nat} (hk:k∈S):zZU (qRB S ws 0 H) k=zZU H k:=by
 unfold zZU
 by_cases hw:k∈ws
 ·rw[Qwa hw]
 ·rw[q3P hk hw]
  cases H[k]? with
  | none=>rfl
  | some B=>cases B <;> rfl
theorem z7v {len0 anc n k:Nat} {past:List Pt} (h1:k<len0) (h2:k<n):k∈seen len0 anc past n:=List.mem_filter.2 ⟨List.mem_range.2 h2,ZX5 h1⟩
theorem Rd.mask {α:Type} {r:Row α} {H:List AB} {s:AV} {l:List α} (e:Rd r H s l) {S ws:List Nat} (hk:∀k∈idOf s,k∈S):Rd r (qRB S ws 0 H) s l:=by
 refine ⟨?_,e.2⟩
 have h1:=e.1
 cases s <;> first|exact h1|skip
 rename_i id off len cap k
 have hr:zZU (qRB S ws 0 H) id=zZU H id:=Kjc (hk id (by simp [idOf]))
 simp only[rdS,hr]at h1 ⊢
 exact h1
theorem ZAp (S:List Nat) (H:List AB):JkA [] (qRB S [] 0 H) 0 H=H:=by
 refine List.ext_getElem? fun k=>?_
 rw[Xwm,Nat.zero_add]
 split
 ·rw[if_neg (by simp)]
 ·rename_i hk
  rw[z8h,List.getElem?_eq_none (by omega)]
  rfl
variable {c:Ctx} {k:List IT} {fr:List AV} {len0 n anc:Nat} {past:List Pt} {d:Option Nat} {ops:List DOp}
theorem JW9 (S : List Nat) (vs : List AV) (v : AV) (H : List AB) : W c (.dmk [] vs (some (v, qRB S [] 0 H)) len0 n anc past d ops :: k) fr H = (okL (fun i => decide (i < H.length)) vs = true ∧ HOk H ∧ indA len0 anc past [] past = true ∧ v.ok (qOk len0 H.length H.length anc past) = true ∧
      W c (.drw len0 (n+1) (⟨n,H.length,H.length,seen len0 anc (ZLX past) H.length,[]⟩::past) ops::k) (put fr d v) H):=by
  rw[<-JbW,QPK,ZAp,ZOs]
  have e1:(qRB S [] 0 H).drop H.length=[]:=List.drop_eq_nil_of_le (by rw[ZOs];exact Nat.le_refl _)
  rw[e1]
  simp only[List.all_nil,Nat.le_refl,true_and]
theorem YG8 (H:RdH h i j s bs) (S:List Nat) (L:List AB) (e a:Int):JkA [j] (qRB S [j] 0 (rB h i j s ⟨x.pos,e,a⟩++L)) 0 (rB h i j s x++L)=rB h i j s ⟨x.pos,e,a⟩++L:=by
 refine List.ext_getElem? fun k=>?_
 have e1:∀y:RSt,k≠j->y.pos=x.pos->(rB h i j s y++L)[k]?=(rB h i j s x++L)[k]?:=fun y hk hy=>by
  rw[List.getElem?_append,List.getElem?_append,Kz5,Kz5]
  by_cases hi:k=i
  ·subst hi
   rw[rB_i H,rB_i H,hy]
  ·rw[qO8 hi hk,qO8 hi hk]
 have hlen:(rB h i j s ⟨x.pos,e,a⟩++L).length=(rB h i j s x++L).length:=by rw[List.length_append,List.length_append,Kz5,Kz5]
 rw[Xwm,Nat.zero_add]
 by_cases hk:k<(rB h i j s x++L).length
 ·rw[if_pos hk]
  by_cases hj:k=j
  ·subst hj
   rw[if_pos (List.mem_singleton.2 rfl),Qwa (List.mem_singleton.2 rfl),List.getElem?_eq_getElem (by omega)]
   rfl
  ·rw[if_neg (by simpa using hj)]
   exact (e1 ⟨x.pos,e,a⟩ hj rfl).symm
 ·rw[if_neg hk,z8h,List.getElem?_eq_none (by omega)]
  rfl
theorem qNT (H:RdH h i j s bs) (ho:s.ok (fun k=>decide (k<h.length))=true) (hh:HOk h) :
  (∀S (y:RSt) L,(qRB S [j] 0 (rB h i j s y++L)).length=h.length+L.length)/\(∀S (y:RSt) L q,((qRB S [j] 0 (rB h i j s y++L)).getD j .dead).ok q=true) /\
  (∀S (y:RSt) L n,n=L.length->(qRB S [j] 0 (rB h i j s y++L)).drop (h.length+n)=[]) /\
  (∀S (n:Nat) (e0 a0 e a:Int) L,JkA [j] (qRB S [j] 0 (rB h i j s ⟨n,e,a⟩++L)) 0 (rB h i j s ⟨n,e0,a0⟩++L)=rB h i j s ⟨n,e,a⟩++L) /\
  (∀(x:RSt) L,HOk (rB h i j s x++L)=((L.all fun B=>B.ok (fun i=>decide (i<h.length+L.length)))=true)):=by
 have l1:∀(S:List Nat) (y:RSt) (L:List AB),(qRB S [j] 0 (rB h i j s y++L)).length=h.length+L.length:=fun S y L=>by rw[ZOs,List.length_append,Kz5]
 refine ⟨l1,fun S y L q=>?_,fun S y L n hn=>List.drop_eq_nil_of_le (by rw[l1];omega),fun S n e0 a0 e a L=>YG8 (x:=⟨n,e0,a0⟩) H S L e a,fun x L=>?_⟩
 ·rw[List.getD_eq_getElem?_getD,Qwa (List.mem_singleton.2 rfl),List.getElem?_append_left (by rw[Kz5];exact H.hj),rB_j H]
  rfl
 ·have:=Kvx (qMc H ho hh x) L
  rw[this,Kz5]
theorem Y9b (H:RdH h i j s bs) (S:List Nat) (L:List AB) (e a:Int) (hx:x.err=0):qJg [.p j 0,.i .i64 e,.i .i64 a] (qRB S [j] 0 (rB h i j s x++L))=some (.tu [],qRB S [j] 0 (rB h i j s ⟨x.pos,e,a⟩++L)):=by
 have hj:(qRB S [j] 0 (rB h i j s x++L))[j]?=some (.blk true true [.i .i64 x.err,.i .i64 x.ea]):=by
  rw[Qwa (List.mem_singleton.2 rfl),List.getElem?_append_left (by rw[Kz5];exact H.hj),rB_j H]
 unfold qJg
 simp only[hj]
 rw[if_pos hx]
 congr 2
 refine List.ext_getElem? fun k=>?_
 have hlt:j<(qRB S [j] 0 (rB h i j s x++L)).length:=by rw[ZOs,List.length_append,Kz5];have:=H.hj;omega
 by_cases hk:k=j
 ·subst hk
  rw[List.getElem?_set_self hlt,Qwa (List.mem_singleton.2 rfl),List.getElem?_append_left (by rw[Kz5];exact H.hj),rB_j H]
 ·rw[List.getElem?_set_ne (Ne.symm hk),z8h,z8h]
  have e1:(rB h i j s x++L)[k]?=(rB h i j s ⟨x.pos,e,a⟩++L)[k]?:=by
   rw[List.getElem?_append,List.getElem?_append,Kz5,Kz5]
   by_cases hi:k=i
   ·subst hi
    rw[rB_i H,rB_i H]
   ·rw[qO8 hi hk,qO8 hi hk]
  rw[e1]
theorem zUz (H:RdH h i j s bs) (L:List AB) (e a:Int):qJg [.p j 0,.i .i64 e,.i .i64 a] (rB h i j s x++L)=some (.tu [],rB h i j s (x.fail e a)++L):=by
 have hj:(rB h i j s x++L)[j]?=some (.blk true true [.i .i64 x.err,.i .i64 x.ea]):=by
  rw[List.getElem?_append_left (by rw[Kz5];exact H.hj),rB_j H]
 unfold qJg
 simp only[hj]
 unfold RSt.fail
 split
 ·congr 2
  rw[List.set_append_left _ _ (by rw[Kz5];exact H.hj)]
  unfold rB
  rw[List.set_set]
 ·rfl
theorem XLI (H:RdH h i j s bs) (ho:s.ok (fun k=>decide (k<h.length))=true) :
  (∀(x:RSt) L,zZU (rB h i j s x++L) i=some [.p j 0,s,.i .i64 (x.pos:Nat)])/\(∀(x:RSt) L,zZU (rB h i j s x++L) j=some [.i .i64 x.err,.i .i64 x.ea]) /\
  (∀(x:RSt) L o,ldV (rB h i j s x++L) none (.p i o)=[AV.p j 0,s,.i .i64 (x.pos:Nat)][o]?)/\(∀(x:RSt) L o,ldV (rB h i j s x++L) none (.p j o)=[AV.i .i64 x.err,.i .i64 x.ea][o]?) /\
  (∀(x:RSt) L,ldV (rB h i j s x++L) (some 2) (.p j 0)=some (.ag [.i .i64 x.err,.i .i64 x.ea])) /\
  (∀(x:RSt) L (n:Nat),stV (rB h i j s x++L) none (.p i 2) (.i .i64 (n:Nat))=some (rB h i j s ⟨n,x.err,x.ea⟩++L)) /\
  (∀c lo hi anc past,qOk (h.length+c) lo hi anc past i=true)/\(∀c lo hi anc past,qOk (h.length+c) lo hi anc past j=true)/\(∀c,(i<h.length+c)=True)/\(∀c,(j<h.length+c)=True)/\(i<h.length)=True/\(j<h.length)=True /\
  (∀x,(rB h i j s x).length=h.length)/\(i=j)=False/\(j=i)=False/\(∀c,(h.length+c<=j)=False)/\(h.length<=j)=False:=by
 have r1:∀(x:RSt) L,zZU (rB h i j s x++L) i=some [.p j 0,s,.i .i64 (x.pos:Nat)]:=fun x L=>by
  unfold zZU
  rw[List.getElem?_append_left (by rw[Kz5];exact H.hi),rB_i H]
 have r2:∀(x:RSt) L,zZU (rB h i j s x++L) j=some [.i .i64 x.err,.i .i64 x.ea]:=fun x L=>by
  unfold zZU
  rw[List.getElem?_append_left (by rw[Kz5];exact H.hj),rB_j H]
 have hi:=H.hi
 have hj:=H.hj
 refine ⟨r1,r2,fun x L o=>?_,fun x L o=>?_,fun x L=>?_,fun x L n=>?_,fun c lo hi anc past=>ZX5 (by omega),fun c lo hi anc past=>ZX5 (by omega),fun c=>eq_true (by omega),fun c=>eq_true (by omega),eq_true hi,eq_true hj,fun x=>Kz5,eq_false H.ne,eq_false (Ne.symm H.ne),fun c=>eq_false (by omega),eq_false (by omega)⟩
 ·simp only[ldV,r1,Option.bind_some]
 ·simp only[ldV,r2,Option.bind_some]
 ·simp only[ldV,r2,Option.bind_some];rfl
 ·rw[ZBH (rB_i H) (o:=2) (Nat.le_refl 3) rfl rfl]
  congr 2
  unfold rB
  rw[List.set_comm _ _ (Ne.symm H.ne),List.set_set]
  rfl
theorem z48 (H:RdH h i j s bs) {s':AV} {l:List UInt8} (e:Rd X0d h s' l) (hq:∀k∈idOf s',k∈idOf s):(∀(x:RSt) L n,n<l.length->ldV (rB h i j s x++L) none (elP 1 s' n 0)=some (u8A (l.getD n 0)))/\(∀(x:RSt) L,getS X0d (rB h i j s x++L) s'=some l)/\(∀(x:RSt) L,srcV (rB h i j s x++L) 1 s'=some (l.length,X0d.cells l)):=by
 have e':∀x,Rd X0d (Go.Proofs.YtekeoichmdiiiaaGreat.rB h i j s x) s' l:=fun x=>(e.setB (fun k hk=>(H.q k (hq k hk)).1) _).setB (fun k hk=>(H.q k (hq k hk)).2) _
 exact ⟨fun x L n hn=>((e' x).app L).ld n 0 hn Nat.one_pos,fun x L=>((e' x).app L).get,fun x L=>(e' x).src rfl L⟩
theorem XUu (H:RdH h i j s bs) (ho:s.ok (fun k=>decide (k<h.length))=true):s.isStr=false/\s.one=true/\s.known=true/\s.cells=[s]/\lenV s=some (bs.length:Int) /\
  (∀k m,iadV 1 s (.i k m)=if 0<=m/\m<(bs.length:Int) then some (elP 1 s m.toNat 0) else none)/\(∀(x:RSt) L n,n<bs.length->ldV (rB h i j s x++L) none (elP 1 s n 0)=some (u8A (bs.getD n 0))) /\
  (∀(x:RSt) L,getS X0d (rB h i j s x++L) s=some bs)/\(∀(x:RSt) L,srcV (rB h i j s x++L) 1 s=some (bs.length,X0d.cells bs)) /\
  (∀c lo hi anc past,s.ok (qOk (h.length+c) lo hi anc past)=true)/\(∀c,s.ok (fun i=>decide (i<h.length+c))=true) /\
  (∀n j c lo hi anc past,n<bs.length->(elP 1 s n j).ok (qOk (h.length+c) lo hi anc past)=true)/\(∀n j c,n<bs.length->(elP 1 s n j).ok (fun i=>decide (i<h.length+c))=true):=by
 obtain ⟨f1,f2,f3,f4,f5,f6,f7,f8,f9,f10,f11,f12,f13,f14⟩:=H.rd.fx ho (sz:=1) rfl
 refine ⟨f1,f2,f3,f4,f5,f6,fun x L n hn=>?_,fun x L=>((H.rB x).app L).get,fun x L=>(H.rB x).src rfl L,f11,f12,f13,f14⟩
 exact ((H.rB x).app L).ld n 0 hn Nat.one_pos
end
end
end Go.Proofs.YtekeoichmdiiiaaGreat
