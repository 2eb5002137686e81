/- Part 27 of what the laws' proofs rest on. No condition. -/
import Derived.Test.YtfaccliekejngaaGreatOj26
set_option linter.all false
section
namespace Go.Proofs.YtfaccliekejngaaGreat
set_option maxRecDepth 100000
set_option maxHeartbeats 8000000
theorem KLz {l : List Hd} (h : l.Pairwise QdS) {x y : Hd} (hx : x ∈ l) (hy : y ∈ l) (e : x.1 = y.1) : x = y := by
 obtain ⟨i, hi, rfl⟩ := List.getElem_of_mem hx
 obtain ⟨j, hj, rfl⟩ := List.getElem_of_mem hy
 rcases Nat.lt_trichotomy i j with q | rfl | q
 ·have z := List.pairwise_iff_getElem.1 h i j hi hj q
  unfold QdS at z
  rw [e] at z
  exact absurd z (YJc _)
 ·rfl
 ·have z := List.pairwise_iff_getElem.1 h j i hj hi q
  unfold QdS at z
  rw [e] at z
  exact absurd z (YJc _)
theorem qKb {la lb : List Hd} (b : lb.Pairwise QdS) : J36 la lb ↔ ∀ x ∈ la, ¬ qEQ lb x := by
 constructor
 ·rintro g x hx ⟨c1, c2⟩
  have := g x hx _ (ZlP c1) rfl
  exact c2 this.symm
 ·intro h x hx y hy e
  have c1 := Z1f hy e.symm
  have c2 : (YZO lb x.1).1 = x.2 := Decidable.not_not.1 fun q => h x hx ⟨c1, q⟩
  have := KLz b (ZlP c1) hy e
  rw [← this]
  exact c2.symm
theorem Qz2 {lb : List Hd} {x : Hd} : (YZO lb x.1).2 = true ↔ ∃ y ∈ lb, y.1 = x.1 := ⟨fun h => ⟨_, ZlP h, rfl⟩, fun ⟨_, h1, h2⟩ => Z1f h1 h2⟩
def JmD (nw : List Hd) (kp : Dots) (v' : List Int) (ds' : Dots) (x : Hd) : Prop := (YZO nw x.1).2 = true ∨ x.1 ∈ kp ∨ ¬ (X74 v' ds' = 0 ∧ q2o v' ds' x.1)
noncomputable instance (nw : List Hd) (kp : Dots) (v' : List Int) (ds' : Dots) (x : Hd) : Decidable (JmD nw kp v' ds' x) := Classical.propDecidable _
noncomputable def XRG (nw : List Hd) (kp : Dots) (v' : List Int) (ds' : Dots) (l : List Hd) : List Hd := l.filter fun x => decide (JmD nw kp v' ds' x)
theorem KqJ {nw : List Hd} {kp : Dots} {v' : List Int} {ds' : Dots} {l : List Hd} {i : Nat} : (XRG nw kp v' ds' (l.take i)).length ≤ i := Nat.le_trans (List.length_filter_le _ _) (by rw [List.length_take]; omega)
theorem JmF {nw : List Hd} {kp : Dots} {v' : List Int} {ds' : Dots} {l : List Hd} {i : Nat} (h : i < l.length) (o : List Hd) :
  (XRG nw kp v' ds' (l.take (i + 1))).foldl (layG QdS) o = if JmD nw kp v' ds' (l.getD i qdS.d) then layG QdS ((XRG nw kp v' ds' (l.take i)).foldl (layG QdS) o) (l.getD i qdS.d) else (XRG nw kp v' ds' (l.take i)).foldl (layG QdS) o := by
 unfold XRG
 rw [List.take_succ_eq_append_getElem h, List.filter_append, List.getD_eq_getElem?_getD, List.getElem?_eq_getElem h]
 simp only [Option.getD_some, List.filter_cons, List.filter_nil, decide_eq_true_eq, List.foldl_append]
 split <;> rfl
theorem z8X {v : List Int} {ds : Dots} {l : List Hd} {i : Nat} (h : i < l.length) (o : List Hd) :
  (outL v ds (l.take (i + 1))).foldl (layG QdS) o = if X74 v ds = 0 ∧ q2o v ds (l.getD i qdS.d).1 then (outL v ds (l.take i)).foldl (layG QdS) o else layG QdS ((outL v ds (l.take i)).foldl (layG QdS) o) (l.getD i qdS.d) := by
 rw [zmU v ds h, List.foldl_append]
 by_cases q : X74 v ds = 0 ∧ q2o v ds (l.getD i qdS.d).1
 ·rw [if_pos q, if_neg (not_not_intro q)]; rfl
 ·rw [if_neg q, if_pos q]; rfl
theorem YXw {m o : List Hd} {x : Hd} : x ∈ m.foldl (layG QdS) o ↔ x ∈ o ∨ x ∈ m := by
 induction m generalizing o with
 | nil => simp
 | cons y m ih =>
  rw [List.foldl_cons, ih, KO7, List.mem_cons]
  constructor
  ·rintro ((q | q) | q)
   ·exact .inr (.inl q)
   ·exact .inl q
   ·exact .inr (.inr q)
  ·rintro (q | q | q)
   ·exact .inl (.inr q)
   ·exact .inl (.inl q)
   ·exact .inr q
theorem J9N {l nw : List Hd} {v v' : List Int} {ds ds' kp : Dots} (a : RG l v ds) (hn : nw.Pairwise QdS) (c : X74 v' ds' = 0) : (outL v ds nw).foldl (layG QdS) ((XRG nw kp v' ds' l).foldl (layG QdS) []) = chL l v ds nw kp v' ds' := by
 rw [← List.foldl_append, ← q52 a hn]
 congr 1
 unfold chU
 rw [QJE a.nf a.len]
 congr 1
 unfold XRG
 refine List.filter_congr fun x hx => decide_eq_decide.2 ?_
 unfold JmD
 rw [Qz2, YCI (JZA c).rg, and_iff_right c]
open Classical in
noncomputable def KBw : List AV → List AB → Option (AV × List AB)
 | [.ag [l, s, t], .ag [n, k, s', t']], h => (getS qdS h l).bind fun hs => (getS intR h s).bind fun v => (getS dotR h t).bind fun ds => (getS qdS h n).bind fun nw => (getS dotR h k).bind fun kp => (getS intR h s').bind fun v' => (getS dotR h t').bind fun ds' =>
   if (hs.length ≤ 10000 ∧ nw.length ≤ 10000) ∧ QjU hs v ds = 0 ∧ X74 v' ds' = 0 ∧ nw.Pairwise QdS then
    if ¬ J36 hs nw then some (.tu [.ag [.ns, .ns, .ns], .i .i64 9], h)
    else if (fmO (YJO v v' 16) (ds ++ ds')).2.length ≤ 4096 then some (.tu [.ag [rsl qdS h.length (chL hs v ds nw kp v' ds'), .sl (h.length + 1) 0 (topI (fmR (YJO v v' 16) (layR (ds ++ ds'))).1 16) 16 none, rsl dotR (h.length + 2) (fmR (YJO v v' 16) (layR (ds ++ ds'))).2], .i .i64 0], h ++ [resB qdS true (chL hs v ds nw kp v' ds'), .blk true true (intR.cells (fmR (YJO v v' 16) (layR (ds ++ ds'))).1), resB dotR true (fmR (YJO v v' 16) (layR (ds ++ ds'))).2])
    else none
   else none
 | _, _ => none
theorem ZJw {h : List AB} (hz : h.map AB.freeze = h) {l s t n k s' t' : AV} {hs nw : List Hd} {kp : Dots} {xs xs' : List Int} {ds ds' : Dots} (hl : Rd qdS h l hs) (hv : Rd intR h s xs) (hd : Rd dotR h t ds) (hn : Rd qdS h n nw) (hkp : Rd dotR h k kp) (hv' : Rd intR h s' xs') (hd' : Rd dotR h t' ds') (hL : hs.length ≤ 10000 ∧ nw.length ≤ 10000) (c0 : QjU hs xs ds = 0) (c1 : X74 xs' ds' = 0) (hr : nw.Pairwise QdS) (v : AV) (h' : List AB) (e : KBw [.ag [l, s, t], .ag [n, k, s', t']] h = some (v, h')) :
  FnAt Tryz.prog 59 [.ag [l, s, t], .ag [n, k, s', t']] h v h' := by
 simp only [KBw, hl.get, hv.get, hd.get, hn.get, hkp.get, hv'.get, hd'.get, Option.bind_some] at e
 rw [if_pos ⟨hL, c0, c1, hr⟩] at e
 refine FnAt.run (by kernel_rfl) (T := ⟨[⟨110, zcS, fun _ => []⟩, ⟨111, JYL, fun _ => []⟩, ⟨63, qOD, fun _ => []⟩, ⟨76, JJY, fun _ => []⟩, ⟨75, qqk, fun _ => []⟩], []⟩) ⟨⟨QLb, KvN, ZeA, zb9, zWn, trivial⟩, trivial⟩ Tryz.func59 sw59 fun ho hh => ?_
 simp only [znG, Z4M, Bool.and_eq_true] at ho
 have f1 := hl.fx ho.1.1 (sz := 34) rfl
 have f2 := hv.fx ho.1.2.1 (sz := 1) rfl
 have f3 := hd.fx ho.1.2.2.1 (sz := 2) rfl
 have f4 := hn.fx ho.2.1.1 (sz := 34) rfl
 have f5 := hkp.fx ho.2.1.2.1 (sz := 2) rfl
 have f6 := hv'.fx ho.2.1.2.2.1 (sz := 1) rfl
 have f7 := hd'.fx ho.2.1.2.2.2.1 (sz := 2) rfl
 have f8 := q6X hn
 have up : ∀ (t : AV), t.ok (fun i => decide (i < h.length)) = true → ∀ c, t.ok (fun i => decide (i < h.length + c)) = true := fun t ht c => AV.ok_mono (fun i q => by simp only [decide_eq_true_eq] at q ⊢; omega) t ht
 have rn : ∀ (t : AV), t.ok (fun i => decide (i < h.length)) = true → ∀ sel, Wk (t.ren (selN h.length sel)) t := fun t ht sel => Wk.ren (fun i hi => Xzs hi) ht
 have fo := fun c => And.intro (up l ho.1.1 c) (And.intro (up s ho.1.2.1 c) (And.intro (up t ho.1.2.2.1 c) (And.intro (up n ho.2.1.1 c) (And.intro (up k ho.2.1.2.1 c) (And.intro (up s' ho.2.1.2.2.1 c) (up t' ho.2.1.2.2.2.1 c))))))
 have fr := fun sel => And.intro (rn l ho.1.1 sel) (And.intro (rn s ho.1.2.1 sel) (And.intro (rn t ho.1.2.2.1 sel) (And.intro (rn n ho.2.1.1 sel) (And.intro (rn k ho.2.1.2.1 sel) (And.intro (rn s' ho.2.1.2.2.1 sel) (rn t' ho.2.1.2.2.2.1 sel))))))
 have kd : ∀ z : Hd, (qdS.f z).take 2 = [.i .i64 z.1.1, .i .i64 z.1.2] := fun _ => rfl
 have ra := Koi.1 c0
 have cs := ra.nf.check ra.len
 have lf : ∀ (O : List Hd) (x : Hd), O.length ≤ 100000 → (∀ z ∈ O, z.1 ≠ x.1) → ∀ L, ownR qdS O L 4 → JJY [apS qdS (h.length + 4) O, .ag (qdS.f x)] (h ++ L) = some (apS qdS (h.length + L.length) (layG QdS O x), h ++ (L ++ [resB qdS true (layG QdS O x)])) := fun O x lO hO L hw => by
  have g : getS qdS (h ++ L) (apS qdS (h.length + 4) O) = some O := by
   by_cases h0 : O.length = 0
   ·rw [List.eq_nil_of_length_eq_zero h0, qZR, XoA]
   ·rw [Y8V _ h0]
    exact ZZ4 L 4 O hw (by unfold maxLen; omega)
  simp only [JJY, g, qwM, Option.bind_some]
  rw [if_pos ⟨lO, Qxu _ _, hO⟩, List.length_append, List.append_assoc, Y8V _ (by rw [YzH]; omega)]
 have ao := fun (n : Nat) (L : List Hd) => And.intro (YE7 (r := qdS) (fun i => decide (i < n + 5)) (n + 4) L (by simp)) (YE7 (r := qdS) (fun i => decide (i < n + 8)) (n + 4) L (by simp))
 unfold w59
 simp only [YGP, Jyg, X5g, zLK, QXB, simprocAttr, CO.tmps, Opd.tmps, optT, Nat.reducePow, Nat.reduceDiv, Nat.reduceMod, f1, f2, f3, f4, f5, f6, f7]
 refine JEe (S := Nat) (fun i => hs.length - i) (fun i => tp 2 ++ [.p (h.length + 0) 0, .p (h.length + 1) 0, .p (h.length + 2) 0] ++ tp 1 ++ [.p (h.length + 3) 0, .i .i64 i] ++ tp 96) (fun i => h ++ [.blk false true [l, s, t], .blk false true [n, k, s', t'], .blk false true [.ns, .ns, .ns], .blk false true [apS qdS (h.length + 4) ((XRG nw kp xs' ds' (hs.take i)).foldl (layG QdS) []), .ns, .ns], resB qdS true ((XRG nw kp xs' ds' (hs.take i)).foldl (layG QdS) [])]) (fun i => i ≤ hs.length ∧ ∀ y ∈ hs.take i, ¬ qEQ nw y) 0 ⟨Nat.zero_le _, fun y hy => by simp at hy⟩ ?_ fun i hi => ?_
 ·show Bt _ _ _ _ _ (h ++ ([.blk false true [l, s, t], .blk false true [n, k, s', t'], .blk false true [.ns, .ns, .ns], .blk false true [.ns, .ns, .ns]] ++ List.replicate 1 .dead))
  rw [← List.append_assoc]
  exact Bt.trans (Bt.wk (by simp only [X5g, QXB, simprocAttr])) (Bt.pad _ _ 1)
 obtain ⟨hi1, hi2⟩ := hi
 by_cases gi : i < hs.length
 ·have gi' := eq_true gi
  have e1 : IntKind.i64.wrap ((i : Int) + 1) = ((i + 1 : Nat) : Int) := q6V (by unfold In64; omega)
  have hst := JmF (nw := nw) (kp := kp) (v' := xs') (ds' := ds') gi []
  have hxm := QNr gi
  have htk := Qxy gi
  have hdis : ∀ z ∈ (XRG nw kp xs' ds' (hs.take i)).foldl (layG QdS) [], z.1 ≠ (hs.getD i qdS.d).1 := fun z hz e => by
   rcases YXw.1 hz with q | q
   ·cases q
   ·have hz2 := (List.mem_filter.1 q).1
    obtain ⟨j, hj, rfl⟩ := List.getElem_of_mem hz2
    rw [List.length_take] at hj
    rw [List.getElem_take] at e
    have := (List.pairwise_iff_getElem.1 ra.rise) j i (by omega) gi (by omega)
    rw [List.getD_eq_getElem?_getD, List.getElem?_eq_getElem gi] at e
    unfold QdS at this
    rw [e] at this
    exact YJc _ this
  have lO : ((XRG nw kp xs' ds' (hs.take i)).foldl (layG QdS) []).length ≤ 100000 := by
   rw [qJC]
   have := KqJ (nw := nw) (kp := kp) (v' := xs') (ds' := ds') (l := hs) (i := i)
   simp only [List.length_nil]
   omega
  generalize hx : hs.getD i qdS.d = x at *
  generalize hO : (XRG nw kp xs' ds' (hs.take i)).foldl (layG QdS) [] = O at *
  have lf' := lf O x lO hdis
  by_cases q1 : (YZO nw x.1).2 = true
  ·by_cases q2 : (YZO nw x.1).1 = x.2
   ·have q2' := eq_true q2
    have sp : JmD nw kp xs' ds' x := .inl q1
    rw [if_pos sp] at hst
    simp only [X5g, zLK, QXB, simprocAttr, CO.tmps, Opd.tmps, optT, Nat.reducePow, Nat.reduceDiv, Nat.reduceMod, f1, f2, f3, f4, f5, f6, f7, gi', hx, e1, zcS, JYL, qOD, kd, qPx, q1, q2', QSm, ZY7, XuT, zjk, Xtr, XxF, lf', QwN, ZyM, Y0j, XIy, Q7f, List.length_cons, List.length_nil, ne_eq, not_false_eq_true, not_true_eq_false, decide_true, decide_false]
    refine ⟨i + 1, ⟨gi, fun y hy => ?_⟩, by dsimp only; omega, ?_⟩
    ·rcases (htk y).1 hy with w | w
     ·exact hi2 y w
     ·rw [w]; exact fun z => z.2 q2
    ·simp only [hst]
     exact Bt.sel [0, 1, 2, 3, 7] hh (by decide) (by simp only [Zy2, FrSel, BlkSel, AV.ren, renL, AV.ok, okL, Option.some.injEq, exists_eq_left', List.length_cons, List.length_nil, Nat.reduceAdd, Nat.reduceLT, reduceCtorEq, implies_true, exists_eq', fo, fr, ao]) (by simp only [Zy2, FrSel, BlkSel, AV.ren, renL, AV.ok, okL, Option.some.injEq, exists_eq_left', List.length_cons, List.length_nil, Nat.reduceAdd, Nat.reduceLT, reduceCtorEq, implies_true, exists_eq', fo, fr, ao, zZY])
   ·have q2' := eq_false q2
    have hna : ¬ J36 hs nw := fun g => (qKb hr).1 g x hxm ⟨q1, q2⟩
    rw [if_pos hna] at e
    cases e
    simp only [X5g, zLK, QXB, simprocAttr, CO.tmps, Opd.tmps, optT, Nat.reducePow, Nat.reduceDiv, Nat.reduceMod, f1, f2, f3, f4, f5, f6, f7, gi', hx, e1, zcS, JYL, qOD, kd, qPx, q1, q2', QSm, ZY7, XuT, zjk, Xtr, XxF, lf', QwN, ZyM, Y0j, XIy, Q7f, List.length_cons, List.length_nil, ne_eq, not_false_eq_true, not_true_eq_false, decide_true, decide_false]
    exact Bt.drop _ hh rfl (by simp only [QTF, znG, J2K, Z4M, XzQ, ok_i, Bool.and_true])
  ·have q1' : (YZO nw x.1).2 = false := by cases z : (YZO nw x.1).2 with | true => exact absurd z q1 | false => rfl
   by_cases q3 : x.1 ∈ kp
   ·have q3' := eq_true q3
    have sp : JmD nw kp xs' ds' x := .inr (.inl q3)
    rw [if_pos sp] at hst
    simp only [X5g, zLK, QXB, simprocAttr, CO.tmps, Opd.tmps, optT, Nat.reducePow, Nat.reduceDiv, Nat.reduceMod, f1, f2, f3, f4, f5, f6, f7, gi', hx, e1, zcS, JYL, qOD, kd, qPx, q1', q3', QSm, ZY7, XuT, zjk, Xtr, XxF, lf', QwN, ZyM, Y0j, XIy, Q7f, List.length_cons, List.length_nil, ne_eq, not_false_eq_true, not_true_eq_false, decide_true, decide_false]
    refine ⟨i + 1, ⟨gi, fun y hy => ?_⟩, by dsimp only; omega, ?_⟩
    ·rcases (htk y).1 hy with w | w
     ·exact hi2 y w
     ·rw [w]; exact fun z => q1 z.1
    ·simp only [hst]
     exact Bt.sel [0, 1, 2, 3, 7] hh (by decide) (by simp only [Zy2, FrSel, BlkSel, AV.ren, renL, AV.ok, okL, Option.some.injEq, exists_eq_left', List.length_cons, List.length_nil, Nat.reduceAdd, Nat.reduceLT, reduceCtorEq, implies_true, exists_eq', fo, fr, ao]) (by simp only [Zy2, FrSel, BlkSel, AV.ren, renL, AV.ok, okL, Option.some.injEq, exists_eq_left', List.length_cons, List.length_nil, Nat.reduceAdd, Nat.reduceLT, reduceCtorEq, implies_true, exists_eq', fo, fr, ao, zZY])
   ·have q3' := eq_false q3
    by_cases q4 : X74 xs' ds' = 0 ∧ q2o xs' ds' x.1
    ·have q4' := eq_true q4
     have sp : ¬ JmD nw kp xs' ds' x := fun z => z.elim q1 fun z => z.elim q3 fun z => z q4
     rw [if_neg sp] at hst
     simp only [X5g, zLK, QXB, simprocAttr, CO.tmps, Opd.tmps, optT, Nat.reducePow, Nat.reduceDiv, Nat.reduceMod, f1, f2, f3, f4, f5, f6, f7, gi', hx, e1, zcS, JYL, qOD, kd, qPx, q1', q3', q4', QSm, ZY7, XuT, zjk, Xtr, XxF, lf', QwN, ZyM, Y0j, XIy, Q7f, List.length_cons, List.length_nil, ne_eq, not_false_eq_true, not_true_eq_false, decide_true, decide_false]
     refine ⟨i + 1, ⟨gi, fun y hy => ?_⟩, by dsimp only; omega, ?_⟩
     ·rcases (htk y).1 hy with w | w
      ·exact hi2 y w
      ·rw [w]; exact fun z => q1 z.1
     ·simp only [hst]
      exact Bt.sel [0, 1, 2, 3, 4] hh (by decide) (by simp only [Zy2, FrSel, BlkSel, AV.ren, renL, AV.ok, okL, Option.some.injEq, exists_eq_left', List.length_cons, List.length_nil, Nat.reduceAdd, Nat.reduceLT, reduceCtorEq, implies_true, exists_eq', fo, fr, ao]) (by simp only [Zy2, FrSel, BlkSel, AV.ren, renL, AV.ok, okL, Option.some.injEq, exists_eq_left', List.length_cons, List.length_nil, Nat.reduceAdd, Nat.reduceLT, reduceCtorEq, implies_true, exists_eq', fo, fr, ao, zZY])
    ·have q4' := eq_false q4
     have sp : JmD nw kp xs' ds' x := .inr (.inr q4)
     rw [if_pos sp] at hst
     simp only [X5g, zLK, QXB, simprocAttr, CO.tmps, Opd.tmps, optT, Nat.reducePow, Nat.reduceDiv, Nat.reduceMod, f1, f2, f3, f4, f5, f6, f7, gi', hx, e1, zcS, JYL, qOD, kd, qPx, q1', q3', q4', QSm, ZY7, XuT, zjk, Xtr, XxF, lf', QwN, ZyM, Y0j, XIy, Q7f, List.length_cons, List.length_nil, ne_eq, not_false_eq_true, not_true_eq_false, decide_true, decide_false]
     refine ⟨i + 1, ⟨gi, fun y hy => ?_⟩, by dsimp only; omega, ?_⟩
     ·rcases (htk y).1 hy with w | w
      ·exact hi2 y w
      ·rw [w]; exact fun z => q1 z.1
     ·simp only [hst]
      exact Bt.sel [0, 1, 2, 3, 7] hh (by decide) (by simp only [Zy2, FrSel, BlkSel, AV.ren, renL, AV.ok, okL, Option.some.injEq, exists_eq_left', List.length_cons, List.length_nil, Nat.reduceAdd, Nat.reduceLT, reduceCtorEq, implies_true, exists_eq', fo, fr, ao]) (by simp only [Zy2, FrSel, BlkSel, AV.ren, renL, AV.ok, okL, Option.some.injEq, exists_eq_left', List.length_cons, List.length_nil, Nat.reduceAdd, Nat.reduceLT, reduceCtorEq, implies_true, exists_eq', fo, fr, ao, zZY])
 ·obtain rfl : i = hs.length := by omega
  have gi' := eq_false gi
  rw [List.take_length] at hi2
  have hag : J36 hs nw := (qKb hr).2 hi2
  rw [if_neg (not_not_intro hag)] at e
  have lK : ((XRG nw kp xs' ds' hs).foldl (layG QdS) []).length ≤ hs.length := by
   rw [qJC]
   have := KqJ (nw := nw) (kp := kp) (v' := xs') (ds' := ds') (l := hs) (i := hs.length)
   rw [List.take_length] at this
   simp only [List.length_nil]
   omega
  have hK : ∀ z ∈ (XRG nw kp xs' ds' hs).foldl (layG QdS) [], z ∈ hs := fun z hz => (YXw.1 hz).elim (fun q => by cases q) fun q => (List.mem_filter.1 q).1
  have hfin := J9N (nw := nw) (kp := kp) (v' := xs') (ds' := ds') ra hr c1
  simp only [List.take_length, X5g, zLK, QXB, simprocAttr, CO.tmps, Opd.tmps, optT, Nat.reducePow, Nat.reduceDiv, Nat.reduceMod, f1, f2, f3, f4, f5, f6, f7, gi']
  generalize hKe : (XRG nw kp xs' ds' hs).foldl (layG QdS) [] = K at *
  refine JEe (S := Nat) (fun j => nw.length - j) (fun j => tp 2 ++ [.p (h.length + 0) 0, .p (h.length + 1) 0, .p (h.length + 2) 0] ++ tp 1 ++ [.p (h.length + 3) 0] ++ tp 4 ++ [.i .i64 j] ++ tp 92) (fun j => h ++ [.blk false true [l, s, t], .blk false true [n, k, s', t'], .blk false true [.ns, .ns, .ns], .blk false true [apS qdS (h.length + 4) ((outL xs ds (nw.take j)).foldl (layG QdS) K), .ns, .ns], resB qdS true ((outL xs ds (nw.take j)).foldl (layG QdS) K)]) (fun j => j ≤ nw.length) 0 (Nat.zero_le _) (Bt.wk (by simp only [X5g, QXB, simprocAttr])) fun j hj => ?_
  by_cases gj : j < nw.length
  ·have gj' := eq_true gj
   have e1 : IntKind.i64.wrap ((j : Int) + 1) = ((j + 1 : Nat) : Int) := q6V (by unfold In64; omega)
   have hst := z8X (v := xs) (ds := ds) gj K
   have lO : ((outL xs ds (nw.take j)).foldl (layG QdS) K).length ≤ 100000 := by
    rw [qJC]
    have := XRv xs ds nw j
    omega
   have f9 := f8.1
   have f10 := fun (L : List AB) => f4.2.2.2.2.2.2.2.1 L j gj
   by_cases q : X74 xs ds = 0 ∧ q2o xs ds (nw.getD j qdS.d).1
   ·rw [if_pos q] at hst
    generalize hx : nw.getD j qdS.d = x at *
    have q' := eq_true q
    simp only [X5g, zLK, QXB, simprocAttr, CO.tmps, Opd.tmps, optT, Nat.reducePow, Nat.reduceDiv, Nat.reduceMod, f1, f2, f3, f4, f5, f6, f7, f8, gj', hx, e1, qOD, kd, qPx, q', QwN, ZyM, Y0j, XIy, Q7f, ne_eq, not_false_eq_true, not_true_eq_false, decide_true, decide_false, XeO hh, QU9 hz, QLc hz, zkD hz]
    refine ⟨j + 1, gj, by dsimp only; omega, ?_⟩
    simp only [hst]
    exact Bt.sel [0, 1, 2, 3, 4] hh (by decide) (by simp only [Zy2, FrSel, BlkSel, AV.ren, renL, AV.ok, okL, Option.some.injEq, exists_eq_left', List.length_cons, List.length_nil, Nat.reduceAdd, Nat.reduceLT, reduceCtorEq, implies_true, exists_eq', fo, fr, ao]) (by simp only [Zy2, FrSel, BlkSel, AV.ren, renL, AV.ok, okL, Option.some.injEq, exists_eq_left', List.length_cons, List.length_nil, Nat.reduceAdd, Nat.reduceLT, reduceCtorEq, implies_true, exists_eq', fo, fr, ao, zZY])
   ·rw [if_neg q] at hst
    have hdis : ∀ z ∈ (outL xs ds (nw.take j)).foldl (layG QdS) K, z.1 ≠ (nw.getD j qdS.d).1 := fun z hz e => by
     rcases YXw.1 hz with w | w
     ·have := ra.sn z (hK z w)
      rw [e] at this
      exact q ⟨cs, (YCI ra.nf.rg _).2 this⟩
     ·have hz2 := (List.mem_filter.1 w).1
      obtain ⟨m, hm, rfl⟩ := List.getElem_of_mem hz2
      rw [List.length_take] at hm
      rw [List.getElem_take] at e
      have := (List.pairwise_iff_getElem.1 hr) m j (by omega) gj (by omega)
      rw [List.getD_eq_getElem?_getD, List.getElem?_eq_getElem gj] at e
      unfold QdS at this
      rw [e] at this
      exact YJc _ this
    generalize hx : nw.getD j qdS.d = x at *
    generalize hO : (outL xs ds (nw.take j)).foldl (layG QdS) K = O at *
    have lf' := lf O x lO hdis
    have q' := eq_false q
    simp only [X5g, zLK, QXB, simprocAttr, CO.tmps, Opd.tmps, optT, Nat.reducePow, Nat.reduceDiv, Nat.reduceMod, f1, f2, f3, f4, f5, f6, f7, f8, gj', hx, e1, qOD, kd, qPx, q', lf', QwN, ZyM, Y0j, XIy, Q7f, ne_eq, not_false_eq_true, not_true_eq_false, decide_true, decide_false, XeO hh, QU9 hz, QLc hz, zkD hz]
    refine ⟨j + 1, gj, by dsimp only; omega, ?_⟩
    simp only [hst]
    exact Bt.sel [0, 1, 2, 3, 5] hh (by decide) (by simp only [Zy2, FrSel, BlkSel, AV.ren, renL, AV.ok, okL, Option.some.injEq, exists_eq_left', List.length_cons, List.length_nil, Nat.reduceAdd, Nat.reduceLT, reduceCtorEq, implies_true, exists_eq', fo, fr, ao]) (by simp only [Zy2, FrSel, BlkSel, AV.ren, renL, AV.ok, okL, Option.some.injEq, exists_eq_left', List.length_cons, List.length_nil, Nat.reduceAdd, Nat.reduceLT, reduceCtorEq, implies_true, exists_eq', fo, fr, ao, zZY])
  ·obtain rfl : j = nw.length := by omega
   have gj' := eq_false gj
   by_cases g : (fmO (YJO xs xs' 16) (ds ++ ds')).2.length ≤ 4096
   case neg =>
    rw [if_neg g] at e
    cases e
   rw [if_pos g] at e
   cases e
   have g' := eq_true g
   simp only [List.take_length, hfin, X5g, zLK, QXB, simprocAttr, CO.tmps, Opd.tmps, optT, Nat.reducePow, Nat.reduceDiv, Nat.reduceMod, f1, f2, f3, f4, f5, f6, f7, gj', qqk, cs, c1, g', ne_eq, not_false_eq_true, not_true_eq_false, decide_true, decide_false]
   refine Bt.trans JuC ?_
   exact Bt.sel [4, 5, 6] hh (by decide) (by simp only [Zy2, FrSel, BlkSel, AV.ren, renL, AV.ok, okL, Option.some.injEq, exists_eq_left', List.length_cons, List.length_nil, Nat.reduceAdd, Nat.reduceLT, reduceCtorEq, implies_true, exists_eq']) (by simp only [Zy2, FrSel, BlkSel, AV.ren, renL, AV.ok, okL, Option.some.injEq, exists_eq_left', List.length_cons, List.length_nil, Nat.reduceAdd, Nat.reduceLT, reduceCtorEq, implies_true, exists_eq'])
theorem XtS : Spec Tryz.prog 59 KBw := by
 intro args h v h' e
 unfold KBw at e
 split at e
 ·rename_i l s t n k s' t'
  obtain ⟨hs, hl, e⟩ := KsT e
  obtain ⟨xs, hv, e⟩ := KsT e
  obtain ⟨ds, hd, e⟩ := KsT e
  obtain ⟨nw, hn, e⟩ := KsT e
  obtain ⟨kp, hk, e⟩ := KsT e
  obtain ⟨xs', hv', e⟩ := KsT e
  obtain ⟨ds', hd', e⟩ := KsT e
  split at e
  ·rename_i hL
   split at e
   ·rename_i c
    cases e
    refine FnAt.c (FnAt.frz0 fun hz => ZJw hz hl.frz hv.frz hd.frz hn.frz hk.frz hv'.frz hd'.frz hL.1 hL.2.1 hL.2.2.1 hL.2.2.2 _ _ ?_)
    simp only [KBw, hl.frz.get, hv.frz.get, hd.frz.get, hn.frz.get, hk.frz.get, hv'.frz.get, hd'.frz.get, Option.bind_some]
    rw [if_pos hL, if_pos c]
   ·rename_i c
    split at e
    ·rename_i c1
     cases e
     refine FnAt.c (FnAt.frz fun hz => ZJw hz hl.frz hv.frz hd.frz hn.frz hk.frz hv'.frz hd'.frz hL.1 hL.2.1 hL.2.2.1 hL.2.2.2 _ _ ?_)
     simp only [KBw, hl.frz.get, hv.frz.get, hd.frz.get, hn.frz.get, hk.frz.get, hv'.frz.get, hd'.frz.get, Option.bind_some, List.length_map]
     rw [if_pos hL, if_neg c, if_pos c1]
    ·cases e
  ·cases e
 ·cases e
end Go.Proofs.YtfaccliekejngaaGreat
end
section
namespace Go.Proofs.YtfaccliekejngaaGreat
set_option maxRecDepth 100000
set_option maxHeartbeats 8000000
def rCl (p q : Nat) (v v' : List Int) (ds ds' : Dots) : List AV := [.sl p 0 (topI (fmR (YJO v v' 16) (layR (ds ++ ds'))).1 16) 16 none, rsl dotR q (fmR (YJO v v' 16) (layR (ds ++ ds'))).2]
def rClB (v v' : List Int) (ds ds' : Dots) : List AB := [.blk true true (intR.cells (fmR (YJO v v' 16) (layR (ds ++ ds'))).1), resB dotR true (fmR (YJO v v' 16) (layR (ds ++ ds'))).2]
open Classical in
noncomputable def YnD : List AV → List AB → Option (AV × List AB)
 | [.ag [l, s, t], .ag [l', s', t']], h => (getS qdS h l).bind fun hs => (getS intR h s).bind fun v => (getS dotR h t).bind fun ds => (getS qdS h l').bind fun hs' => (getS intR h s').bind fun v' => (getS dotR h t').bind fun ds' =>
   if hs.length ≤ 10000 ∧ hs'.length ≤ 10000 then
    if QjU hs v ds ≠ 0 then some (.tu [.ag [.ns, .ns, .ns], .i .i64 (QjU hs v ds)], h)
    else if QjU hs' v' ds' ≠ 0 then some (.tu [.ag [.ns, .ns, .ns], .i .i64 (QjU hs' v' ds')], h)
    else if ¬ J36 hs hs' then some (.tu [.ag [.ns, .ns, .ns], .i .i64 9], h)
    else if (fmO (YJO v v' 16) (ds ++ ds')).2.length ≤ 4096 then some (.tu [.ag (rsl qdS h.length (jnL hs hs' v v' ds ds') :: rCl (h.length + 1) (h.length + 2) v v' ds ds'), .i .i64 0], h ++ (resB qdS true (jnL hs hs' v v' ds ds') :: rClB v v' ds ds'))
    else none
   else none
 | _, _ => none
theorem KZY : Spec Tryz.prog 16 YnD := by
 intro args h v h' e
 unfold YnD at e
 split at e
 ·rename_i l s t l' s' t'
  obtain ⟨hs, hl, e⟩ := KsT e
  obtain ⟨xs, hv, e⟩ := KsT e
  obtain ⟨ds, hd, e⟩ := KsT e
  obtain ⟨hs', hl', e⟩ := KsT e
  obtain ⟨xs', hv', e⟩ := KsT e
  obtain ⟨ds', hd', e⟩ := KsT e
  split at e
  ·rename_i hL
   have hR := (⟨⟨XGe, XtS, trivial⟩, trivial⟩ : Env.Ok Tryz.prog ⟨[⟨32, Z2z, fun _ => []⟩, ⟨59, KBw, fun _ => []⟩], []⟩)
   refine FnAt.c (FnAt.run (by kernel_rfl) hR Tryz.func16 sw16 fun ho hh => ?_)
   simp only [znG, Z4M, Bool.and_eq_true] at ho
   have f1 := hl.fx ho.1.1 (sz := 34) rfl
   have f2 := hv.fx ho.1.2.1 (sz := 1) rfl
   have f3 := hd.fx ho.1.2.2.1 (sz := 2) rfl
   have f4 := hl'.fx ho.2.1.1 (sz := 34) rfl
   have f5 := hv'.fx ho.2.1.2.1 (sz := 1) rfl
   have f6 := hd'.fx ho.2.1.2.2.1 (sz := 2) rfl
   have l1 := eq_true hL.1
   have l2 := eq_true hL.2
   unfold w16
   by_cases c0 : QjU hs xs ds = 0
   case neg =>
    have c0' := eq_false c0
    rw [if_pos c0] at e
    cases e
    simp only [YGP, Jyg, X5g, zLK, QXB, simprocAttr, CO.tmps, Opd.tmps, optT, Nat.reducePow, Nat.reduceDiv, Nat.reduceMod, f1, f2, f3, f4, f5, f6, Z2z, c0', ne_eq, not_false_eq_true, not_true_eq_false, decide_true, decide_false]
    exact Bt.drop _ hh rfl (by simp only [QTF, znG, J2K, Z4M, XzQ, ok_i, Bool.and_true])
   rw [if_neg (not_not_intro c0)] at e
   by_cases c1 : QjU hs' xs' ds' = 0
   case neg =>
    have c1' := eq_false c1
    rw [if_pos c1] at e
    cases e
    simp only [YGP, Jyg, X5g, zLK, QXB, simprocAttr, CO.tmps, Opd.tmps, optT, Nat.reducePow, Nat.reduceDiv, Nat.reduceMod, f1, f2, f3, f4, f5, f6, Z2z, c0, c1', ne_eq, not_false_eq_true, not_true_eq_false, decide_true, decide_false]
    exact Bt.drop _ hh rfl (by simp only [QTF, znG, J2K, Z4M, XzQ, ok_i, Bool.and_true])
   rw [if_neg (not_not_intro c1)] at e
   have ra := Koi.1 c0
   have rb := Koi.1 c1
   have cs := rb.nf.check rb.len
   have rr := eq_true rb.rise
   have hj := qDF ra rb
   by_cases c2 : J36 hs hs'
   case neg =>
    have c2' := eq_false c2
    rw [if_pos c2] at e
    cases e
    simp only [YGP, Jyg, X5g, zLK, QXB, simprocAttr, CO.tmps, Opd.tmps, optT, Nat.reducePow, Nat.reduceDiv, Nat.reduceMod, f1, f2, f3, f4, f5, f6, Z2z, KBw, XoA, l1, l2, cs, rr, c0, c1, c2', and_self, ne_eq, not_false_eq_true, not_true_eq_false, decide_true, decide_false]
    exact Bt.drop _ hh rfl (by simp only [QTF, znG, J2K, Z4M, XzQ, ok_i, Bool.and_true])
   have c2' := eq_true c2
   rw [if_neg (not_not_intro c2)] at e
   by_cases c3 : (fmO (YJO xs xs' 16) (ds ++ ds')).2.length ≤ 4096
   case neg =>
    rw [if_neg c3] at e
    cases e
   have c3' := eq_true c3
   rw [if_pos c3] at e
   cases e
   simp only [YGP, Jyg, X5g, zLK, QXB, simprocAttr, CO.tmps, Opd.tmps, optT, Nat.reducePow, Nat.reduceDiv, Nat.reduceMod, f1, f2, f3, f4, f5, f6, Z2z, KBw, XoA, l1, l2, cs, rr, c0, c1, c2', c3', hj, and_self, ne_eq, not_false_eq_true, not_true_eq_false, decide_true, decide_false]
   simp only [rCl, rClB]
   exact Bt.sel [3, 4, 5] hh (by decide) (by simp only [Zy2, FrSel, BlkSel, AV.ren, renL, AV.ok, okL, Option.some.injEq, exists_eq_left', List.length_cons, List.length_nil, Nat.reduceAdd, Nat.reduceLT, reduceCtorEq, implies_true, exists_eq']) (by simp only [Zy2, FrSel, BlkSel, AV.ren, renL, AV.ok, okL, Option.some.injEq, exists_eq_left', List.length_cons, List.length_nil, Nat.reduceAdd, Nat.reduceLT, reduceCtorEq, implies_true, exists_eq'])
  ·cases e
 ·cases e
end Go.Proofs.YtfaccliekejngaaGreat
end
section
namespace Go.Proofs.YtfaccliekejngaaGreat
set_option maxRecDepth 100000
set_option maxHeartbeats 8000000
open Classical in
noncomputable def ZS3 (v : List Int) (ds : Dots) (l : List Hd) : Dots := (l.filter fun x => decide (X74 v ds = 0 ∧ q2o v ds x.1)).map (·.1)
theorem Z2i (v : List Int) (ds : Dots) {l : List Hd} {i : Nat} (h : i < l.length) : ZS3 v ds (l.take (i + 1)) = ZS3 v ds (l.take i) ++ (if X74 v ds = 0 ∧ q2o v ds (l.getD i qdS.d).1 then [(l.getD i qdS.d).1] else []) := by
 unfold ZS3
 rw [List.take_succ_eq_append_getElem h, List.filter_append, List.map_append, List.getD_eq_getElem?_getD, List.getElem?_eq_getElem h]
 simp only [Option.getD_some, List.filter_cons, List.filter_nil, decide_eq_true_eq]
 split <;> rfl
theorem JA4 (v : List Int) (ds : Dots) (l : List Hd) (i : Nat) : (ZS3 v ds (l.take i)).length ≤ i := by
 unfold ZS3
 rw [List.length_map]
 exact Nat.le_trans (List.length_filter_le _ _) (by rw [List.length_take]; omega)
noncomputable def Zzb : List AV → List AB → Option (AV × List AB)
 | [.ag [l, s, t], .ag [s', t']], h => (getS qdS h l).bind fun hs => (getS intR h s).bind fun v => (getS dotR h t).bind fun ds => (getS intR h s').bind fun v' => (getS dotR h t').bind fun ds' =>
   if hs.length ≤ 10000 ∧ v.length ≤ 1000000 ∧ ds.length ≤ 1000000 then
    if QjU hs v ds ≠ 0 then some (.tu [.ag [.ns, .ns, .ns, .ns], .i .i64 (QjU hs v ds)], h)
    else if X74 v' ds' ≠ 0 then some (.tu [.ag [.ns, .ns, .ns, .ns], .i .i64 (X74 v' ds')], h)
    else some (.tu [.ag [rsl qdS h.length (outL v' ds' hs), rsl dotR (h.length + 1) (ZS3 v' ds' hs), rsl intR (h.length + 2) v, rsl dotR (h.length + 3) ds], .i .i64 0], h ++ [resB qdS true (outL v' ds' hs), resB dotR true (ZS3 v' ds' hs), resB intR true v, resB dotR true ds])
   else none
 | _, _ => none
theorem KFB {h H : List AB} {id id' : Nat} {L : List Hd} {M : Dots} {a b e : AV} : Bt Tryz.prog h.length [.tu [.ag [apS qdS id L, apS dotR id' M, a, b], e]] H [.tu [.ag [rsl qdS id L, rsl dotR id' M, a, b], e]] H := Bt.wk ⟨KRF ⟨Xee ⟨Krb _ _, Krb _ _, Wk.refl _, Wk.refl _, trivial⟩, Wk.refl _, trivial⟩, trivial⟩
theorem ZCF {h : List AB} (hz : h.map AB.freeze = h) {l s t s' t' : AV} {hs : List Hd} {xs xs' : List Int} {ds ds' : Dots} (hl : Rd qdS h l hs) (hv : Rd intR h s xs) (hd : Rd dotR h t ds) (hv' : Rd intR h s' xs') (hd' : Rd dotR h t' ds') (hL : hs.length ≤ 10000 ∧ xs.length ≤ 1000000 ∧ ds.length ≤ 1000000) (v : AV) (h' : List AB) (e : Zzb [.ag [l, s, t], .ag [s', t']] h = some (v, h')) :
  FnAt Tryz.prog 17 [.ag [l, s, t], .ag [s', t']] h v h' := by
 simp only [Zzb, hl.get, hv.get, hd.get, hv'.get, hd'.get, Option.bind_some] at e
 rw [if_pos hL] at e
 refine FnAt.run (by kernel_rfl) (T := ⟨[⟨31, QJG, fun _ => []⟩, ⟨47, qfB X74, fun _ => []⟩, ⟨60, qsF, fun _ => []⟩, ⟨55, T_un, fun _ => []⟩, ⟨105, ZWy, fun _ => []⟩], []⟩) ⟨⟨JLs, Zjf, qP9, Q0s, KBW, trivial⟩, trivial⟩ Tryz.func17 sw17 fun ho hh => ?_
 simp only [znG, Z4M, Bool.and_eq_true] at ho
 have f1 := hl.fx ho.1.1 (sz := 34) rfl
 have f2 := hv.fx ho.1.2.1 (sz := 1) rfl
 have f3 := hd.fx ho.1.2.2.1 (sz := 2) rfl
 have f4 := hv'.fx ho.2.1.1 (sz := 1) rfl
 have f5 := hd'.fx ho.2.1.2.1 (sz := 2) rfl
 have hL1 : (hs.length ≤ 1000000) = True := eq_true (by omega)
 have hL2 := eq_true hL.2.1
 have hL3 := eq_true hL.2.2
 have up : ∀ (t : AV), t.ok (fun i => decide (i < h.length)) = true → ∀ c, t.ok (fun i => decide (i < h.length + c)) = true := fun t ht c => AV.ok_mono (fun i q => by simp only [decide_eq_true_eq] at q ⊢; omega) t ht
 have rn : ∀ (t : AV), t.ok (fun i => decide (i < h.length)) = true → ∀ sel, Wk (t.ren (selN h.length sel)) t := fun t ht sel => Wk.ren (fun i hi => Xzs hi) ht
 have fo := fun c => And.intro (up l ho.1.1 c) (And.intro (up s ho.1.2.1 c) (And.intro (up t ho.1.2.2.1 c) (And.intro (up s' ho.2.1.1 c) (up t' ho.2.1.2.1 c))))
 have fr := fun sel => And.intro (rn l ho.1.1 sel) (And.intro (rn s ho.1.2.1 sel) (And.intro (rn t ho.1.2.2.1 sel) (And.intro (rn s' ho.2.1.1 sel) (rn t' ho.2.1.2.1 sel))))
 unfold w17
 by_cases c0 : QjU hs xs ds = 0
 case neg =>
  have c0' := eq_false c0
  rw [if_pos c0] at e
  cases e
  simp only [YGP, Jyg, X5g, zLK, QXB, simprocAttr, CO.tmps, Opd.tmps, optT, Nat.reducePow, Nat.reduceDiv, Nat.reduceMod, f1, f2, f3, f4, f5, QJG, c0', hL1, ne_eq, not_false_eq_true, not_true_eq_false, decide_true, decide_false]
  exact Bt.drop _ hh rfl (by simp only [QTF, znG, J2K, Z4M, XzQ, ok_i, Bool.and_true])
 by_cases c1 : X74 xs' ds' = 0
 case neg =>
  have c1' := eq_false c1
  rw [if_neg (not_not_intro c0), if_pos c1] at e
  cases e
  simp only [YGP, Jyg, X5g, zLK, QXB, simprocAttr, CO.tmps, Opd.tmps, optT, Nat.reducePow, Nat.reduceDiv, Nat.reduceMod, f1, f2, f3, f4, f5, QJG, qfB, c0, c1', hL1, ne_eq, not_false_eq_true, not_true_eq_false, decide_true, decide_false]
  exact Bt.drop _ hh rfl (by simp only [QTF, znG, J2K, Z4M, XzQ, ok_i, Bool.and_true])
 rw [if_neg (not_not_intro c0), if_neg (not_not_intro c1)] at e
 cases e
 simp only [YGP, Jyg, X5g, zLK, QXB, simprocAttr, CO.tmps, Opd.tmps, optT, Nat.reducePow, Nat.reduceDiv, Nat.reduceMod, f1, f2, f3, f4, f5, QJG, qfB, qsF, T_un, c0, c1, hL1, hL2, hL3, hv'.isSl, hd'.isSl, ne_eq, not_false_eq_true, not_true_eq_false, decide_true, decide_false]
 have ak := fun (n : Nat) (L : List Hd) => And.intro (YE7 (r := qdS) (fun i => decide (i < n + 9)) (n + 7) L (by simp)) (YE7 (r := qdS) (fun i => decide (i < n + 12)) (n + 7) L (by simp))
 have am := fun (n : Nat) (L : Dots) => And.intro (YE7 (r := dotR) (fun i => decide (i < n + 9)) (n + 8) L (by simp)) (YE7 (r := dotR) (fun i => decide (i < n + 12)) (n + 8) L (by simp))
 refine JEe (S := Nat) (fun j => hs.length - j) (fun j => tp 4 ++ [.p (h.length + 2) 0] ++ tp 3 ++ [.p (h.length + 5) 0, .f (.func 105) [] [.p (h.length + 6) 0]] ++ tp 21 ++ [l, .i .i64 hs.length, .i .i64 j] ++ tp 21) (fun j => h ++ [.blk false true [l, s, t], .blk false true [s', t'], .blk false true [.ns, .ns, .ns, .ns], resB intR true xs, resB dotR true ds, .blk false true [apS qdS (h.length + 7) (outL xs' ds' (hs.take j)), apS dotR (h.length + 8) (ZS3 xs' ds' (hs.take j)), rsl intR (h.length + 3) xs, rsl dotR (h.length + 4) ds], .blk false true [s', t'], resB qdS true (outL xs' ds' (hs.take j)), resB dotR true (ZS3 xs' ds' (hs.take j))]) (fun j => j ≤ hs.length) 0 (Nat.zero_le _) ?_ fun j hj => ?_
 ·show Bt _ _ _ _ _ (h ++ ([.blk false true [l, s, t], .blk false true [s', t'], .blk false true [.ns, .ns, .ns, .ns], resB intR true xs, resB dotR true ds, .blk false true [.ns, .ns, rsl intR (h.length + 3) xs, rsl dotR (h.length + 4) ds], .blk false true [s', t']] ++ List.replicate 2 .dead))
  rw [← List.append_assoc]
  exact Bt.trans (Bt.wk (by simp only [X5g, QXB, simprocAttr])) (Bt.pad _ _ 2)
 by_cases gj : j < hs.length
 ·have gj' := eq_true gj
  have e1 : IntKind.i64.wrap ((j : Int) + 1) = ((j + 1 : Nat) : Int) := q6V (by unfold In64; omega)
  have h1 := zmU xs' ds' gj
  have h2 := Z2i xs' ds' gj
  have l1 := XRv xs' ds' hs j
  have l2 := JA4 xs' ds' hs j
  have kd : ∀ z : Hd, (qdS.f z).take 2 = [.i .i64 z.1.1, .i .i64 z.1.2] := fun _ => rfl
  generalize hx : hs.getD j qdS.d = x at *
  generalize ho1 : outL xs' ds' (hs.take j) = O at *
  generalize ho2 : ZS3 xs' ds' (hs.take j) = K at *
  have fa := fun L k ys hb => qo2 (h := h) (p := h.length) rfl (r := qdS) (sz := 34) rfl L k O 48 1 ys hb (by decide) (by omega) (by unfold maxLen; omega)
  have fb := fun L k ys hb => qo2 (h := h) (p := h.length) rfl (r := dotR) (sz := 2) rfl L k K 16 1 ys hb (by decide) (by omega) (by unfold maxLen; omega)
  by_cases q : X74 xs' ds' = 0 ∧ q2o xs' ds' x.1
  ·have q' := eq_true q
   rw [if_neg (not_not_intro q), List.append_nil] at h1
   rw [if_pos q] at h2
   simp only [X5g, zLK, QXB, simprocAttr, CO.tmps, Opd.tmps, optT, Nat.reducePow, Nat.reduceDiv, Nat.reduceMod, f1, f2, f3, f4, f5, gj', hx, e1, ZWy, qwM, q', fb, kd, X9f, QwN, ZyM, Y0j, XIy, Q7f, List.length_cons, List.length_nil, ne_eq, not_false_eq_true, not_true_eq_false, decide_true, decide_false]
   refine ⟨j + 1, gj, by dsimp only; omega, ?_⟩
   simp only [h1, h2, K5K, Z4W]
   exact Bt.sel [0, 1, 2, 3, 4, 5, 6, 7, 11] hh (by decide) (by simp only [Zy2, FrSel, BlkSel, AV.ren, renL, AV.ok, okL, Option.some.injEq, exists_eq_left', List.length_cons, List.length_nil, Nat.reduceAdd, Nat.reduceLT, reduceCtorEq, implies_true, exists_eq', fo, fr, ak, am, YKr, zZY, zeu]) (by simp only [Zy2, FrSel, BlkSel, AV.ren, renL, AV.ok, okL, Option.some.injEq, exists_eq_left', List.length_cons, List.length_nil, Nat.reduceAdd, Nat.reduceLT, reduceCtorEq, implies_true, exists_eq', fo, fr, ak, am, zZY, zeu])
  ·have q' := eq_false q
   rw [if_pos q] at h1
   rw [if_neg q, List.append_nil] at h2
   simp only [X5g, zLK, QXB, simprocAttr, CO.tmps, Opd.tmps, optT, Nat.reducePow, Nat.reduceDiv, Nat.reduceMod, f1, f2, f3, f4, f5, gj', hx, e1, ZWy, qwM, q', fa, kd, X9f, QwN, ZyM, Y0j, XIy, Q7f, List.length_cons, List.length_nil, ne_eq, not_false_eq_true, not_true_eq_false, decide_true, decide_false]
   refine ⟨j + 1, gj, by dsimp only; omega, ?_⟩
   simp only [h1, h2, K5K, Z4W]
   exact Bt.sel [0, 1, 2, 3, 4, 5, 6, 11, 8] hh (by decide) (by simp only [Zy2, FrSel, BlkSel, AV.ren, renL, AV.ok, okL, Option.some.injEq, exists_eq_left', List.length_cons, List.length_nil, Nat.reduceAdd, Nat.reduceLT, reduceCtorEq, implies_true, exists_eq', fo, fr, ak, am, zZY, zeu]) (by simp only [Zy2, FrSel, BlkSel, AV.ren, renL, AV.ok, okL, Option.some.injEq, exists_eq_left', List.length_cons, List.length_nil, Nat.reduceAdd, Nat.reduceLT, reduceCtorEq, implies_true, exists_eq', fo, fr, ak, am, zZY, zeu])
 ·obtain rfl : j = hs.length := by omega
  have gj' := eq_false gj
  simp only [List.take_length, X5g, zLK, QXB, simprocAttr, CO.tmps, Opd.tmps, optT, Nat.reducePow, Nat.reduceDiv, Nat.reduceMod, f1, f2, f3, f4, f5, gj']
  refine Bt.trans KFB ?_
  exact Bt.sel [7, 8, 3, 4] hh (by decide) (by simp only [Zy2, FrSel, BlkSel, AV.ren, renL, AV.ok, okL, Option.some.injEq, exists_eq_left', List.length_cons, List.length_nil, Nat.reduceAdd, Nat.reduceLT, reduceCtorEq, implies_true, exists_eq']) (by simp only [Zy2, FrSel, BlkSel, AV.ren, renL, AV.ok, okL, Option.some.injEq, exists_eq_left', List.length_cons, List.length_nil, Nat.reduceAdd, Nat.reduceLT, reduceCtorEq, implies_true, exists_eq'])
theorem YdW : Spec Tryz.prog 17 Zzb := by
 intro args h v h' e
 unfold Zzb at e
 split at e
 ·rename_i l s t s' t'
  obtain ⟨hs, hl, e⟩ := KsT e
  obtain ⟨xs, hv, e⟩ := KsT e
  obtain ⟨ds, hd, e⟩ := KsT e
  obtain ⟨xs', hv', e⟩ := KsT e
  obtain ⟨ds', hd', e⟩ := KsT e
  split at e
  ·rename_i hL
   split at e
   ·rename_i c
    cases e
    refine FnAt.c (FnAt.frz0 fun hz => ZCF hz hl.frz hv.frz hd.frz hv'.frz hd'.frz hL _ _ ?_)
    simp only [Zzb, hl.frz.get, hv.frz.get, hd.frz.get, hv'.frz.get, hd'.frz.get, Option.bind_some]
    rw [if_pos hL, if_pos c]
   ·rename_i c
    split at e
    ·rename_i c1
     cases e
     refine FnAt.c (FnAt.frz0 fun hz => ZCF hz hl.frz hv.frz hd.frz hv'.frz hd'.frz hL _ _ ?_)
     simp only [Zzb, hl.frz.get, hv.frz.get, hd.frz.get, hv'.frz.get, hd'.frz.get, Option.bind_some]
     rw [if_pos hL, if_neg c, if_pos c1]
    ·rename_i c1
     cases e
     refine FnAt.c (FnAt.frz fun hz => ZCF hz hl.frz hv.frz hd.frz hv'.frz hd'.frz hL _ _ ?_)
     simp only [Zzb, hl.frz.get, hv.frz.get, hd.frz.get, hv'.frz.get, hd'.frz.get, Option.bind_some, List.length_map]
     rw [if_pos hL, if_neg c, if_neg c1]
  ·cases e
 ·cases e
end Go.Proofs.YtfaccliekejngaaGreat
end
section
namespace Go.Proofs.YtfaccliekejngaaGreat
set_option maxRecDepth 100000
set_option maxHeartbeats 8000000
theorem Y1W : Spec Tryz.prog 62 qsF := by
 intro args h v h' e
 unfold qsF at e
 split at e
 ·rename_i v d
  obtain ⟨xs, hv, e⟩ := KsT e
  obtain ⟨ds, hd, e⟩ := KsT e
  split at e
  ·rename_i hl
   cases e
   refine FnAt.c (FnAt.frz fun hz => ?_)
   rw [show h.length = (h.map AB.freeze).length from (List.length_map _).symm]
   replace hv := hv.frz
   replace hd := hd.frz
   generalize h.map AB.freeze = h at *
   refine FnAt.run (by kernel_rfl) (T := ⟨[], []⟩) ⟨trivial, trivial⟩ Tryz.func62 sw62 fun ho hh => ?_
   simp only [znG, Z4M, Bool.and_eq_true] at ho
   have f1 := hv.fx ho.1.1 (sz := 1) rfl
   have f2 := hd.fx ho.1.2.1 (sz := 2) rfl
   have u1 := hv.src (sz := 1) rfl
   have u2 := hd.src (sz := 2) rfl
   have mI : (xs.length * 8 ≤ 140737488355328 ∧ xs.length ≤ maxLen) = True := eq_true ⟨by omega, by unfold maxLen; omega⟩
   have mD : (ds.length * 16 ≤ 140737488355328 ∧ ds.length ≤ maxLen) = True := eq_true ⟨by omega, by unfold maxLen; omega⟩
   unfold w62
   by_cases h1 : xs.length = 0 <;> by_cases h2 : ds.length = 0
   ·have e1 : xs = [] := List.eq_nil_of_length_eq_zero h1
    have e2 : ds = [] := List.eq_nil_of_length_eq_zero h2
    subst e1 e2
    simp only [YGP, Jyg, X5g, zLK, QXB, simprocAttr, CO.tmps, Opd.tmps, optT, Nat.reducePow, Nat.reduceDiv, Nat.reduceMod, f1, f2, u1, u2, zxc, List.length_nil, qIx, XeO hh, QU9 hz, QLc hz, zkD hz]
    refine Bt.trans (Bt.wk1 (Xee (l' := [.sl (h.length + 2) 0 0 0 (some 0), .sl (h.length + 3) 0 0 0 (some 0)]) ⟨Wk.empty (h.length + 2) 0 _ _ _ _, Wk.empty (h.length + 3) 0 _ _ _ _, trivial⟩)) ?_
    exact Bt.sel [2, 3] hh (by decide) (by simp only [Zy2, FrSel, BlkSel, AV.ren, renL, AV.ok, okL, Option.some.injEq, exists_eq_left', List.length_cons, List.length_nil, Nat.reduceAdd, Nat.reduceLT, reduceCtorEq, implies_true, exists_eq', zvk]) (by simp only [Zy2, FrSel, BlkSel, AV.ren, renL, AV.ok, okL, Option.some.injEq, exists_eq_left', List.length_cons, List.length_nil, Nat.reduceAdd, Nat.reduceLT, reduceCtorEq, implies_true, exists_eq', JTg])
   ·have e1 : xs = [] := List.eq_nil_of_length_eq_zero h1
    have h2' := eq_false h2
    subst e1
    simp only [YGP, Jyg, X5g, zLK, QXB, simprocAttr, CO.tmps, Opd.tmps, optT, Nat.reducePow, Nat.reduceDiv, Nat.reduceMod, f1, f2, u1, u2, zxc, h2', mD, List.length_nil, qIx, XeO hh, QU9 hz, QLc hz, zkD hz]
    refine Bt.trans (Bt.wk1 (Xee (l' := [.sl (h.length + 2) 0 0 0 (some 0), .sl (h.length + 4) 0 ds.length ds.length (some 2)]) ⟨Wk.empty (h.length + 2) 0 _ _ _ _, Wk.refl _, trivial⟩)) ?_
    rw [K50 _ h2, ZVr _ h2]
    exact Bt.sel [2, 4] hh (by decide) (by simp only [Zy2, FrSel, BlkSel, AV.ren, renL, AV.ok, okL, Option.some.injEq, exists_eq_left', List.length_cons, List.length_nil, Nat.reduceAdd, Nat.reduceLT, reduceCtorEq, implies_true, exists_eq', zvk]) (by simp only [Zy2, FrSel, BlkSel, AV.ren, renL, AV.ok, okL, Option.some.injEq, exists_eq_left', List.length_cons, List.length_nil, Nat.reduceAdd, Nat.reduceLT, reduceCtorEq, implies_true, exists_eq', JTg, zeu])
   ·have e2 : ds = [] := List.eq_nil_of_length_eq_zero h2
    have h1' := eq_false h1
    subst e2
    simp only [YGP, Jyg, X5g, zLK, QXB, simprocAttr, CO.tmps, Opd.tmps, optT, Nat.reducePow, Nat.reduceDiv, Nat.reduceMod, f1, f2, u1, u2, zxc, h1', mI, List.length_nil, qIx, XeO hh, QU9 hz, QLc hz, zkD hz]
    refine Bt.trans (Bt.wk1 (Xee (l' := [.sl (h.length + 3) 0 xs.length xs.length (some 1), .sl (h.length + 4) 0 0 0 (some 0)]) ⟨Wk.refl _, Wk.empty (h.length + 4) 0 _ _ _ _, trivial⟩)) ?_
    rw [K50 _ h1, ZVr _ h1]
    exact Bt.sel [3, 4] hh (by decide) (by simp only [Zy2, FrSel, BlkSel, AV.ren, renL, AV.ok, okL, Option.some.injEq, exists_eq_left', List.length_cons, List.length_nil, Nat.reduceAdd, Nat.reduceLT, reduceCtorEq, implies_true, exists_eq', zvk]) (by simp only [Zy2, FrSel, BlkSel, AV.ren, renL, AV.ok, okL, Option.some.injEq, exists_eq_left', List.length_cons, List.length_nil, Nat.reduceAdd, Nat.reduceLT, reduceCtorEq, implies_true, exists_eq', JTg, Qmu])
   ·have h1' := eq_false h1
    have h2' := eq_false h2
    simp only [YGP, Jyg, X5g, zLK, QXB, simprocAttr, CO.tmps, Opd.tmps, optT, Nat.reducePow, Nat.reduceDiv, Nat.reduceMod, f1, f2, u1, u2, zxc, h1', h2', mI, mD, XeO hh, QU9 hz, QLc hz, zkD hz]
    rw [K50 _ h1, ZVr _ h1, K50 _ h2, ZVr _ h2]
    exact Bt.sel [3, 5] hh (by decide) (by simp only [Zy2, FrSel, BlkSel, AV.ren, renL, AV.ok, okL, Option.some.injEq, exists_eq_left', List.length_cons, List.length_nil, Nat.reduceAdd, Nat.reduceLT, reduceCtorEq, implies_true, exists_eq']) (by simp only [Zy2, FrSel, BlkSel, AV.ren, renL, AV.ok, okL, Option.some.injEq, exists_eq_left', List.length_cons, List.length_nil, Nat.reduceAdd, Nat.reduceLT, reduceCtorEq, implies_true, exists_eq', Qmu, zeu])
  ·cases e
 ·cases e
theorem QKO {h : List AB} (hz : h.map AB.freeze = h) {l s t s' t' : AV} {hs : List Hd} {xs xs' : List Int} {ds ds' : Dots} (hl : Rd qdS h l hs) (hv : Rd intR h s xs) (hd : Rd dotR h t ds) (hv' : Rd intR h s' xs') (hd' : Rd dotR h t' ds') (hL : hs.length ≤ 10000 ∧ xs.length ≤ 1000000 ∧ ds.length ≤ 1000000) (v : AV) (h' : List AB) (e : Zzb [.ag [l, s, t], .ag [s', t']] h = some (v, h')) :
  FnAt Tryz.prog 18 [.ag [l, s, t], .ag [s', t']] h v h' := by
 simp only [Zzb, hl.get, hv.get, hd.get, hv'.get, hd'.get, Option.bind_some] at e
 rw [if_pos hL] at e
 refine FnAt.run (by kernel_rfl) (T := ⟨[⟨32, Z2z, fun _ => []⟩, ⟨61, z6T, fun _ => []⟩, ⟨62, qsF, fun _ => []⟩, ⟨63, qOD, fun _ => []⟩], []⟩) ⟨⟨XGe, YbC, Y1W, ZeA, trivial⟩, trivial⟩ Tryz.func18 sw18 fun ho hh => ?_
 simp only [znG, Z4M, Bool.and_eq_true] at ho
 have f1 := hl.fx ho.1.1 (sz := 34) rfl
 have f2 := hv.fx ho.1.2.1 (sz := 1) rfl
 have f3 := hd.fx ho.1.2.2.1 (sz := 2) rfl
 have f4 := hv'.fx ho.2.1.1 (sz := 1) rfl
 have f5 := hd'.fx ho.2.1.2.1 (sz := 2) rfl
 have f8 := q6X hl
 have hL2 := eq_true hL.2.1
 have hL3 := eq_true hL.2.2
 have up : ∀ (t : AV), t.ok (fun i => decide (i < h.length)) = true → ∀ c, t.ok (fun i => decide (i < h.length + c)) = true := fun t ht c => AV.ok_mono (fun i q => by simp only [decide_eq_true_eq] at q ⊢; omega) t ht
 have rn : ∀ (t : AV), t.ok (fun i => decide (i < h.length)) = true → ∀ sel, Wk (t.ren (selN h.length sel)) t := fun t ht sel => Wk.ren (fun i hi => Xzs hi) ht
 have fo := fun c => And.intro (up l ho.1.1 c) (And.intro (up s ho.1.2.1 c) (And.intro (up t ho.1.2.2.1 c) (And.intro (up s' ho.2.1.1 c) (up t' ho.2.1.2.1 c))))
 have fr := fun sel => And.intro (rn l ho.1.1 sel) (And.intro (rn s ho.1.2.1 sel) (And.intro (rn t ho.1.2.2.1 sel) (And.intro (rn s' ho.2.1.1 sel) (rn t' ho.2.1.2.1 sel))))
 unfold w18
 by_cases c0 : QjU hs xs ds = 0
 case neg =>
  have c0' := eq_false c0
  rw [if_pos c0] at e
  cases e
  simp only [YGP, Jyg, X5g, zLK, QXB, simprocAttr, CO.tmps, Opd.tmps, optT, Nat.reducePow, Nat.reduceDiv, Nat.reduceMod, f1, f2, f3, f4, f5, Z2z, c0', ne_eq, not_false_eq_true, not_true_eq_false, decide_true, decide_false]
  exact Bt.drop _ hh rfl (by simp only [QTF, znG, J2K, Z4M, XzQ, ok_i, Bool.and_true])
 by_cases c1 : X74 xs' ds' = 0
 case neg =>
  have c1' := eq_false c1
  rw [if_neg (not_not_intro c0), if_pos c1] at e
  cases e
  simp only [YGP, Jyg, X5g, zLK, QXB, simprocAttr, CO.tmps, Opd.tmps, optT, Nat.reducePow, Nat.reduceDiv, Nat.reduceMod, f1, f2, f3, f4, f5, Z2z, z6T, c0, c1', ne_eq, not_false_eq_true, not_true_eq_false, decide_true, decide_false]
  exact Bt.drop _ hh rfl (by simp only [QTF, znG, J2K, Z4M, XzQ, ok_i, Bool.and_true])
 rw [if_neg (not_not_intro c0), if_neg (not_not_intro c1)] at e
 cases e
 simp only [YGP, Jyg, X5g, zLK, QXB, simprocAttr, CO.tmps, Opd.tmps, optT, Nat.reducePow, Nat.reduceDiv, Nat.reduceMod, f1, f2, f3, f4, f5, Z2z, z6T, qsF, c0, c1, hL2, hL3, ne_eq, not_false_eq_true, not_true_eq_false, decide_true, decide_false]
 have ak := fun (n : Nat) (L : List Hd) => And.intro (YE7 (r := qdS) (fun i => decide (i < n + 8)) (n + 6) L (by simp)) (YE7 (r := qdS) (fun i => decide (i < n + 9)) (n + 6) L (by simp))
 have am := fun (n : Nat) (L : Dots) => And.intro (YE7 (r := dotR) (fun i => decide (i < n + 8)) (n + 7) L (by simp)) (YE7 (r := dotR) (fun i => decide (i < n + 9)) (n + 7) L (by simp))
 have mm1 : (1 * 48 ≤ 140737488355328 ∧ 1 ≤ maxLen) = True := eq_true ⟨by decide, by unfold maxLen; omega⟩
 have mm2 : (1 * 16 ≤ 140737488355328 ∧ 1 ≤ maxLen) = True := eq_true ⟨by decide, by unfold maxLen; omega⟩
 refine JEe (S := Nat) (fun j => hs.length - j) (fun j => tp 2 ++ [.p (h.length + 0) 0, .p (h.length + 1) 0, .p (h.length + 2) 0] ++ tp 2 ++ [.p (h.length + 5) 0, .i .i64 j] ++ tp 51) (fun j => h ++ [.blk false true [l, s, t], .blk false true [s', t'], .blk false true [.ns, .ns, .ns, .ns], resB intR true xs, resB dotR true ds, .blk false true [apS qdS (h.length + 6) (outL xs' ds' (hs.take j)), apS dotR (h.length + 7) (ZS3 xs' ds' (hs.take j)), rsl intR (h.length + 3) xs, rsl dotR (h.length + 4) ds], resB qdS true (outL xs' ds' (hs.take j)), resB dotR true (ZS3 xs' ds' (hs.take j))]) (fun j => j ≤ hs.length) 0 (Nat.zero_le _) ?_ fun j hj => ?_
 ·show Bt _ _ _ _ _ (h ++ ([.blk false true [l, s, t], .blk false true [s', t'], .blk false true [.ns, .ns, .ns, .ns], resB intR true xs, resB dotR true ds, .blk false true [.ns, .ns, rsl intR (h.length + 3) xs, rsl dotR (h.length + 4) ds]] ++ List.replicate 2 .dead))
  rw [← List.append_assoc]
  exact Bt.trans (Bt.wk (by simp only [X5g, QXB, simprocAttr])) (Bt.pad _ _ 2)
 by_cases gj : j < hs.length
 ·have gj' := eq_true gj
  have e1 : IntKind.i64.wrap ((j : Int) + 1) = ((j + 1 : Nat) : Int) := q6V (by unfold In64; omega)
  have h1 := zmU xs' ds' gj
  have h2 := Z2i xs' ds' gj
  have l1 := XRv xs' ds' hs j
  have l2 := JA4 xs' ds' hs j
  have kd : ∀ z : Hd, (qdS.f z).take 2 = [.i .i64 z.1.1, .i .i64 z.1.2] := fun _ => rfl
  generalize hx : hs.getD j qdS.d = x at *
  generalize ho1 : outL xs' ds' (hs.take j) = O at *
  generalize ho2 : ZS3 xs' ds' (hs.take j) = K at *
  by_cases q : X74 xs' ds' = 0 ∧ q2o xs' ds' x.1
  ·have q' := eq_true q
   rw [if_neg (not_not_intro q), List.append_nil] at h1
   rw [if_pos q] at h2
   by_cases hB : K = []
   ·simp only [hB, qZR, X5g, zLK, QXB, simprocAttr, CO.tmps, Opd.tmps, optT, Nat.reducePow, Nat.reduceDiv, Nat.reduceMod, f1, f2, f3, f4, f5, f8, gj', hx, e1, qOD, q', kd, qPx, mm2, QwN, ZyM, Y0j, XIy, Q7f, ne_eq, not_false_eq_true, not_true_eq_false, decide_true, decide_false, XeO hh, QU9 hz, QLc hz, zkD hz]
    refine ⟨j + 1, gj, by dsimp only; omega, ?_⟩
    simp only [h1, h2, hB, List.nil_append, XSn, K0n, YKr]
    exact Bt.sel [0, 1, 2, 3, 4, 5, 6, 9] hh (by decide) (by simp only [Zy2, FrSel, BlkSel, AV.ren, renL, AV.ok, okL, Option.some.injEq, exists_eq_left', List.length_cons, List.length_nil, Nat.reduceAdd, Nat.reduceLT, reduceCtorEq, implies_true, exists_eq', fo, fr, ak, am, zZY, zeu]) (by simp only [Zy2, FrSel, BlkSel, AV.ren, renL, AV.ok, okL, Option.some.injEq, exists_eq_left', List.length_cons, List.length_nil, Nat.reduceAdd, Nat.reduceLT, reduceCtorEq, implies_true, exists_eq', fo, fr, ak, am, zZY, zeu])
   ·have hlB : K.length ≠ 0 := fun z => hB (List.eq_nil_of_length_eq_zero z)
    have gr : ∀ id, apS dotR id K = rsl dotR id K := fun id => Y8V _ hlB
    have fb := fun L k ys hb => Jw1 (h := h) (p := h.length) rfl (r := dotR) (sz := 2) rfl L k K 16 1 ys hlB hb (by decide) (by omega) (by unfold maxLen; omega)
    simp only [gr, X5g, zLK, QXB, simprocAttr, CO.tmps, Opd.tmps, optT, Nat.reducePow, Nat.reduceDiv, Nat.reduceMod, f1, f2, f3, f4, f5, f8, gj', hx, e1, qOD, q', kd, qPx, fb, QwN, ZyM, Y0j, XIy, Q7f, ne_eq, not_false_eq_true, not_true_eq_false, decide_true, decide_false, XeO hh, QU9 hz, QLc hz, zkD hz]
    refine ⟨j + 1, gj, by dsimp only; omega, ?_⟩
    simp only [h1, h2, K5K, Z4W, YKr]
    exact Bt.sel [0, 1, 2, 3, 4, 5, 6, 9] hh (by decide) (by simp only [Zy2, FrSel, BlkSel, AV.ren, renL, AV.ok, okL, Option.some.injEq, exists_eq_left', List.length_cons, List.length_nil, Nat.reduceAdd, Nat.reduceLT, reduceCtorEq, implies_true, exists_eq', fo, fr, ak, am, zZY, zeu]) (by simp only [Zy2, FrSel, BlkSel, AV.ren, renL, AV.ok, okL, Option.some.injEq, exists_eq_left', List.length_cons, List.length_nil, Nat.reduceAdd, Nat.reduceLT, reduceCtorEq, implies_true, exists_eq', fo, fr, ak, am, zZY, zeu])
  ·have q' := eq_false q
   rw [if_pos q] at h1
   rw [if_neg q, List.append_nil] at h2
   by_cases hB : O = []
   ·simp only [hB, qZR, X5g, zLK, QXB, simprocAttr, CO.tmps, Opd.tmps, optT, Nat.reducePow, Nat.reduceDiv, Nat.reduceMod, f1, f2, f3, f4, f5, f8, gj', hx, e1, qOD, q', kd, qPx, mm1, QwN, ZyM, Y0j, XIy, Q7f, ne_eq, not_false_eq_true, not_true_eq_false, decide_true, decide_false, XeO hh, QU9 hz, QLc hz, zkD hz]
    refine ⟨j + 1, gj, by dsimp only; omega, ?_⟩
    simp only [h1, h2, hB, List.nil_append, XSn, K0n]
    exact Bt.sel [0, 1, 2, 3, 4, 5, 9, 7] hh (by decide) (by simp only [Zy2, FrSel, BlkSel, AV.ren, renL, AV.ok, okL, Option.some.injEq, exists_eq_left', List.length_cons, List.length_nil, Nat.reduceAdd, Nat.reduceLT, reduceCtorEq, implies_true, exists_eq', fo, fr, ak, am, zZY, zeu]) (by simp only [Zy2, FrSel, BlkSel, AV.ren, renL, AV.ok, okL, Option.some.injEq, exists_eq_left', List.length_cons, List.length_nil, Nat.reduceAdd, Nat.reduceLT, reduceCtorEq, implies_true, exists_eq', fo, fr, ak, am, zZY, zeu])
   ·have hlB : O.length ≠ 0 := fun z => hB (List.eq_nil_of_length_eq_zero z)
    have gr : ∀ id, apS qdS id O = rsl qdS id O := fun id => Y8V _ hlB
    have fb := fun L k ys hb => Jw1 (h := h) (p := h.length) rfl (r := qdS) (sz := 34) rfl L k O 48 1 ys hlB hb (by decide) (by omega) (by unfold maxLen; omega)
    simp only [gr, X5g, zLK, QXB, simprocAttr, CO.tmps, Opd.tmps, optT, Nat.reducePow, Nat.reduceDiv, Nat.reduceMod, f1, f2, f3, f4, f5, f8, gj', hx, e1, qOD, q', kd, qPx, fb, QwN, ZyM, Y0j, XIy, Q7f, ne_eq, not_false_eq_true, not_true_eq_false, decide_true, decide_false, XeO hh, QU9 hz, QLc hz, zkD hz]
    refine ⟨j + 1, gj, by dsimp only; omega, ?_⟩
    simp only [h1, h2, K5K, Z4W]
    exact Bt.sel [0, 1, 2, 3, 4, 5, 9, 7] hh (by decide) (by simp only [Zy2, FrSel, BlkSel, AV.ren, renL, AV.ok, okL, Option.some.injEq, exists_eq_left', List.length_cons, List.length_nil, Nat.reduceAdd, Nat.reduceLT, reduceCtorEq, implies_true, exists_eq', fo, fr, ak, am, zZY, zeu]) (by simp only [Zy2, FrSel, BlkSel, AV.ren, renL, AV.ok, okL, Option.some.injEq, exists_eq_left', List.length_cons, List.length_nil, Nat.reduceAdd, Nat.reduceLT, reduceCtorEq, implies_true, exists_eq', fo, fr, ak, am, zZY, zeu])
 ·obtain rfl : j = hs.length := by omega
  have gj' := eq_false gj
  simp only [List.take_length, X5g, zLK, QXB, simprocAttr, CO.tmps, Opd.tmps, optT, Nat.reducePow, Nat.reduceDiv, Nat.reduceMod, f1, f2, f3, f4, f5, gj']
  refine Bt.trans KFB ?_
  exact Bt.sel [6, 7, 3, 4] hh (by decide) (by simp only [Zy2, FrSel, BlkSel, AV.ren, renL, AV.ok, okL, Option.some.injEq, exists_eq_left', List.length_cons, List.length_nil, Nat.reduceAdd, Nat.reduceLT, reduceCtorEq, implies_true, exists_eq']) (by simp only [Zy2, FrSel, BlkSel, AV.ren, renL, AV.ok, okL, Option.some.injEq, exists_eq_left', List.length_cons, List.length_nil, Nat.reduceAdd, Nat.reduceLT, reduceCtorEq, implies_true, exists_eq'])
theorem YGO : Spec Tryz.prog 18 Zzb := by
 intro args h v h' e
 unfold Zzb at e
 split at e
 ·rename_i l s t s' t'
  obtain ⟨hs, hl, e⟩ := KsT e
  obtain ⟨xs, hv, e⟩ := KsT e
  obtain ⟨ds, hd, e⟩ := KsT e
  obtain ⟨xs', hv', e⟩ := KsT e
  obtain ⟨ds', hd', e⟩ := KsT e
  split at e
  ·rename_i hL
   split at e
   ·rename_i c
    cases e
    refine FnAt.c (FnAt.frz0 fun hz => QKO hz hl.frz hv.frz hd.frz hv'.frz hd'.frz hL _ _ ?_)
    simp only [Zzb, hl.frz.get, hv.frz.get, hd.frz.get, hv'.frz.get, hd'.frz.get, Option.bind_some]
    rw [if_pos hL, if_pos c]
   ·rename_i c
    split at e
    ·rename_i c1
     cases e
     refine FnAt.c (FnAt.frz0 fun hz => QKO hz hl.frz hv.frz hd.frz hv'.frz hd'.frz hL _ _ ?_)
     simp only [Zzb, hl.frz.get, hv.frz.get, hd.frz.get, hv'.frz.get, hd'.frz.get, Option.bind_some]
     rw [if_pos hL, if_neg c, if_pos c1]
    ·rename_i c1
     cases e
     refine FnAt.c (FnAt.frz fun hz => QKO hz hl.frz hv.frz hd.frz hv'.frz hd'.frz hL _ _ ?_)
     simp only [Zzb, hl.frz.get, hv.frz.get, hd.frz.get, hv'.frz.get, hd'.frz.get, Option.bind_some, List.length_map]
     rw [if_pos hL, if_neg c, if_neg c1]
  ·cases e
 ·cases e
end Go.Proofs.YtfaccliekejngaaGreat
end
