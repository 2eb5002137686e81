/- Part 28 of what the laws' proofs rest on. No condition. -/
import Derived.Test.YtfaccliekejngaaGreatOa27
set_option linter.all false
section
namespace Go.Proofs.YtfaccliekejngaaGreat
set_option maxRecDepth 100000
set_option maxHeartbeats 8000000
theorem KLz {l : List Hd} (h : l.Pairwise QdS) {x y : Hd} (hx : x ∈ l) (hy : y ∈ l) (e : x.1 = y.1) : x = y := by
 obtain ⟨i, hi, rfl⟩ := List.getElem_of_mem hx
 obtain ⟨j, hj, rfl⟩ := List.getElem_of_mem hy
 rcases Nat.lt_trichotomy i j with q | rfl | q
 ·have z := List.pairwise_iff_getElem.1 h i j hi hj q
  unfold QdS at z
  rw [e] at z
  exact absurd z (YJc _)
 ·rfl
 ·have z := List.pairwise_iff_getElem.1 h j i hj hi q
  unfold QdS at z
  rw [e] at z
  exact absurd z (YJc _)
theorem qKb {la lb : List Hd} (b : lb.Pairwise QdS) : J36 la lb ↔ ∀ x ∈ la, ¬ qEQ lb x := by
 constructor
 ·rintro g x hx ⟨c1, c2⟩
  have := g x hx _ (ZlP c1) rfl
  exact c2 this.symm
 ·intro h x hx y hy e
  have c1 := Z1f hy e.symm
  have c2 : (YZO lb x.1).1 = x.2 := Decidable.not_not.1 fun q => h x hx ⟨c1, q⟩
  have := KLz b (ZlP c1) hy e
  rw [← this]
  exact c2.symm
theorem Qz2 {lb : List Hd} {x : Hd} : (YZO lb x.1).2 = true ↔ ∃ y ∈ lb, y.1 = x.1 := ⟨fun h => ⟨_, ZlP h, rfl⟩, fun ⟨_, h1, h2⟩ => Z1f h1 h2⟩
def JmD (nw : List Hd) (kp : Dots) (v' : List Int) (ds' : Dots) (x : Hd) : Prop := (YZO nw x.1).2 = true ∨ x.1 ∈ kp ∨ ¬ (X74 v' ds' = 0 ∧ q2o v' ds' x.1)
noncomputable instance (nw : List Hd) (kp : Dots) (v' : List Int) (ds' : Dots) (x : Hd) : Decidable (JmD nw kp v' ds' x) := Classical.propDecidable _
noncomputable def XRG (nw : List Hd) (kp : Dots) (v' : List Int) (ds' : Dots) (l : List Hd) : List Hd := l.filter fun x => decide (JmD nw kp v' ds' x)
theorem KqJ {nw : List Hd} {kp : Dots} {v' : List Int} {ds' : Dots} {l : List Hd} {i : Nat} : (XRG nw kp v' ds' (l.take i)).length ≤ i := Nat.le_trans (List.length_filter_le _ _) (by rw [List.length_take]; omega)
theorem JmF {nw : List Hd} {kp : Dots} {v' : List Int} {ds' : Dots} {l : List Hd} {i : Nat} (h : i < l.length) (o : List Hd) :
  (XRG nw kp v' ds' (l.take (i + 1))).foldl (layG QdS) o = if JmD nw kp v' ds' (l.getD i qdS.d) then layG QdS ((XRG nw kp v' ds' (l.take i)).foldl (layG QdS) o) (l.getD i qdS.d) else (XRG nw kp v' ds' (l.take i)).foldl (layG QdS) o := by
 unfold XRG
 rw [List.take_succ_eq_append_getElem h, List.filter_append, List.getD_eq_getElem?_getD, List.getElem?_eq_getElem h]
 simp only [Option.getD_some, List.filter_cons, List.filter_nil, decide_eq_true_eq, List.foldl_append]
 split <;> rfl
theorem z8X {v : List Int} {ds : Dots} {l : List Hd} {i : Nat} (h : i < l.length) (o : List Hd) :
  (outL v ds (l.take (i + 1))).foldl (layG QdS) o = if X74 v ds = 0 ∧ q2o v ds (l.getD i qdS.d).1 then (outL v ds (l.take i)).foldl (layG QdS) o else layG QdS ((outL v ds (l.take i)).foldl (layG QdS) o) (l.getD i qdS.d) := by
 rw [zmU v ds h, List.foldl_append]
 by_cases q : X74 v ds = 0 ∧ q2o v ds (l.getD i qdS.d).1
 ·rw [if_pos q, if_neg (not_not_intro q)]; rfl
 ·rw [if_neg q, if_pos q]; rfl
theorem YXw {m o : List Hd} {x : Hd} : x ∈ m.foldl (layG QdS) o ↔ x ∈ o ∨ x ∈ m := by
 induction m generalizing o with
 | nil => simp
 | cons y m ih =>
  rw [List.foldl_cons, ih, KO7, List.mem_cons]
  constructor
  ·rintro ((q | q) | q)
   ·exact .inr (.inl q)
   ·exact .inl q
   ·exact .inr (.inr q)
  ·rintro (q | q | q)
   ·exact .inl (.inr q)
   ·exact .inl (.inl q)
   ·exact .inr q
theorem J9N {l nw : List Hd} {v v' : List Int} {ds ds' kp : Dots} (a : RG l v ds) (hn : nw.Pairwise QdS) (c : X74 v' ds' = 0) : (outL v ds nw).foldl (layG QdS) ((XRG nw kp v' ds' l).foldl (layG QdS) []) = chL l v ds nw kp v' ds' := by
 rw [← List.foldl_append, ← q52 a hn]
 congr 1
 unfold chU
 rw [QJE a.nf a.len]
 congr 1
 unfold XRG
 refine List.filter_congr fun x hx => decide_eq_decide.2 ?_
 unfold JmD
 rw [Qz2, YCI (JZA c).rg, and_iff_right c]
open Classical in
noncomputable def KBw : List AV → List AB → Option (AV × List AB)
 | [.ag [l, s, t], .ag [n, k, s', t']], h => (getS qdS h l).bind fun hs => (getS intR h s).bind fun v => (getS dotR h t).bind fun ds => (getS qdS h n).bind fun nw => (getS dotR h k).bind fun kp => (getS intR h s').bind fun v' => (getS dotR h t').bind fun ds' =>
   if (hs.length ≤ 10000 ∧ nw.length ≤ 10000) ∧ QjU hs v ds = 0 ∧ X74 v' ds' = 0 ∧ nw.Pairwise QdS then
    if ¬ J36 hs nw then some (.tu [.ag [.ns, .ns, .ns], .i .i64 9], h)
    else if (fmO (YJO v v' 16) (ds ++ ds')).2.length ≤ 4096 then some (.tu [.ag [rsl qdS h.length (chL hs v ds nw kp v' ds'), .sl (h.length + 1) 0 (topI (fmR (YJO v v' 16) (layR (ds ++ ds'))).1 16) 16 none, rsl dotR (h.length + 2) (fmR (YJO v v' 16) (layR (ds ++ ds'))).2], .i .i64 0], h ++ [resB qdS true (chL hs v ds nw kp v' ds'), .blk true true (intR.cells (fmR (YJO v v' 16) (layR (ds ++ ds'))).1), resB dotR true (fmR (YJO v v' 16) (layR (ds ++ ds'))).2])
    else none
   else none
 | _, _ => none
theorem ZJw {h : List AB} (hz : h.map AB.freeze = h) {l s t n k s' t' : AV} {hs nw : List Hd} {kp : Dots} {xs xs' : List Int} {ds ds' : Dots} (hl : Rd qdS h l hs) (hv : Rd intR h s xs) (hd : Rd dotR h t ds) (hn : Rd qdS h n nw) (hkp : Rd dotR h k kp) (hv' : Rd intR h s' xs') (hd' : Rd dotR h t' ds') (hL : hs.length ≤ 10000 ∧ nw.length ≤ 10000) (c0 : QjU hs xs ds = 0) (c1 : X74 xs' ds' = 0) (hr : nw.Pairwise QdS) (v : AV) (h' : List AB) (e : KBw [.ag [l, s, t], .ag [n, k, s', t']] h = some (v, h')) :
  FnAt Tryz.prog 59 [.ag [l, s, t], .ag [n, k, s', t']] h v h' := by
 simp only [KBw, hl.get, hv.get, hd.get, hn.get, hkp.get, hv'.get, hd'.get, Option.bind_some] at e
 rw [if_pos ⟨hL, c0, c1, hr⟩] at e
 refine FnAt.run (by kernel_rfl) (T := ⟨[⟨110, zcS, fun _ => []⟩, ⟨111, JYL, fun _ => []⟩, ⟨63, qOD, fun _ => []⟩, ⟨76, JJY, fun _ => []⟩, ⟨75, qqk, fun _ => []⟩], []⟩) ⟨⟨QLb, KvN, ZeA, zb9, zWn, trivial⟩, trivial⟩ Tryz.func59 sw59 fun ho hh => ?_
 simp only [znG, Z4M, Bool.and_eq_true] at ho
 have f1 := hl.fx ho.1.1 (sz := 34) rfl
 have f2 := hv.fx ho.1.2.1 (sz := 1) rfl
 have f3 := hd.fx ho.1.2.2.1 (sz := 2) rfl
 have f4 := hn.fx ho.2.1.1 (sz := 34) rfl
 have f5 := hkp.fx ho.2.1.2.1 (sz := 2) rfl
 have f6 := hv'.fx ho.2.1.2.2.1 (sz := 1) rfl
 have f7 := hd'.fx ho.2.1.2.2.2.1 (sz := 2) rfl
 have f8 := q6X hn
 have up : ∀ (t : AV), t.ok (fun i => decide (i < h.length)) = true → ∀ c, t.ok (fun i => decide (i < h.length + c)) = true := fun t ht c => AV.ok_mono (fun i q => by simp only [decide_eq_true_eq] at q ⊢; omega) t ht
 have rn : ∀ (t : AV), t.ok (fun i => decide (i < h.length)) = true → ∀ sel, Wk (t.ren (selN h.length sel)) t := fun t ht sel => Wk.ren (fun i hi => Xzs hi) ht
 have fo := fun c => And.intro (up l ho.1.1 c) (And.intro (up s ho.1.2.1 c) (And.intro (up t ho.1.2.2.1 c) (And.intro (up n ho.2.1.1 c) (And.intro (up k ho.2.1.2.1 c) (And.intro (up s' ho.2.1.2.2.1 c) (up t' ho.2.1.2.2.2.1 c))))))
 have fr := fun sel => And.intro (rn l ho.1.1 sel) (And.intro (rn s ho.1.2.1 sel) (And.intro (rn t ho.1.2.2.1 sel) (And.intro (rn n ho.2.1.1 sel) (And.intro (rn k ho.2.1.2.1 sel) (And.intro (rn s' ho.2.1.2.2.1 sel) (rn t' ho.2.1.2.2.2.1 sel))))))
 have kd : ∀ z : Hd, (qdS.f z).take 2 = [.i .i64 z.1.1, .i .i64 z.1.2] := fun _ => rfl
 have ra := Koi.1 c0
 have cs := ra.nf.check ra.len
 have lf : ∀ (O : List Hd) (x : Hd), O.length ≤ 100000 → (∀ z ∈ O, z.1 ≠ x.1) → ∀ L, ownR qdS O L 4 → JJY [apS qdS (h.length + 4) O, .ag (qdS.f x)] (h ++ L) = some (apS qdS (h.length + L.length) (layG QdS O x), h ++ (L ++ [resB qdS true (layG QdS O x)])) := fun O x lO hO L hw => by
  have g : getS qdS (h ++ L) (apS qdS (h.length + 4) O) = some O := by
   by_cases h0 : O.length = 0
   ·rw [List.eq_nil_of_length_eq_zero h0, qZR, XoA]
   ·rw [Y8V _ h0]
    exact ZZ4 L 4 O hw (by unfold maxLen; omega)
  simp only [JJY, g, qwM, Option.bind_some]
  rw [if_pos ⟨lO, Qxu _ _, hO⟩, List.length_append, List.append_assoc, Y8V _ (by rw [YzH]; omega)]
 have ao := fun (n : Nat) (L : List Hd) => And.intro (YE7 (r := qdS) (fun i => decide (i < n + 5)) (n + 4) L (by simp)) (YE7 (r := qdS) (fun i => decide (i < n + 8)) (n + 4) L (by simp))
 unfold w59
 simp only [YGO, Jyg, X5g, zLK, QXB, simprocAttr, CO.tmps, Opd.tmps, optT, Nat.reducePow, Nat.reduceDiv, Nat.reduceMod, f1, f2, f3, f4, f5, f6, f7]
 refine JEe (S := Nat) (fun i => hs.length - i) (fun i => tp 2 ++ [.p (h.length + 0) 0, .p (h.length + 1) 0, .p (h.length + 2) 0] ++ tp 1 ++ [.p (h.length + 3) 0, .i .i64 i] ++ tp 96) (fun i => h ++ [.blk false true [l, s, t], .blk false true [n, k, s', t'], .blk false true [.ns, .ns, .ns], .blk false true [apS qdS (h.length + 4) ((XRG nw kp xs' ds' (hs.take i)).foldl (layG QdS) []), .ns, .ns], resB qdS true ((XRG nw kp xs' ds' (hs.take i)).foldl (layG QdS) [])]) (fun i => i ≤ hs.length ∧ ∀ y ∈ hs.take i, ¬ qEQ nw y) 0 ⟨Nat.zero_le _, fun y hy => by simp at hy⟩ ?_ fun i hi => ?_
 ·show Bt _ _ _ _ _ (h ++ ([.blk false true [l, s, t], .blk false true [n, k, s', t'], .blk false true [.ns, .ns, .ns], .blk false true [.ns, .ns, .ns]] ++ List.replicate 1 .dead))
  rw [← List.append_assoc]
  exact Bt.trans (Bt.wk (by simp only [X5g, QXB, simprocAttr])) (Bt.pad _ _ 1)
 obtain ⟨hi1, hi2⟩ := hi
 by_cases gi : i < hs.length
 ·have gi' := eq_true gi
  have e1 : IntKind.i64.wrap ((i : Int) + 1) = ((i + 1 : Nat) : Int) := q6V (by unfold In64; omega)
  have hst := JmF (nw := nw) (kp := kp) (v' := xs') (ds' := ds') gi []
  have hxm := QNr gi
  have htk := Qxy gi
  have hdis : ∀ z ∈ (XRG nw kp xs' ds' (hs.take i)).foldl (layG QdS) [], z.1 ≠ (hs.getD i qdS.d).1 := fun z hz e => by
   rcases YXw.1 hz with q | q
   ·cases q
   ·have hz2 := (List.mem_filter.1 q).1
    obtain ⟨j, hj, rfl⟩ := List.getElem_of_mem hz2
    rw [List.length_take] at hj
    rw [List.getElem_take] at e
    have := (List.pairwise_iff_getElem.1 ra.rise) j i (by omega) gi (by omega)
    rw [List.getD_eq_getElem?_getD, List.getElem?_eq_getElem gi] at e
    unfold QdS at this
    rw [e] at this
    exact YJc _ this
  have lO : ((XRG nw kp xs' ds' (hs.take i)).foldl (layG QdS) []).length ≤ 100000 := by
   rw [qJC]
   have := KqJ (nw := nw) (kp := kp) (v' := xs') (ds' := ds') (l := hs) (i := i)
   simp only [List.length_nil]
   omega
  generalize hx : hs.getD i qdS.d = x at *
  generalize hO : (XRG nw kp xs' ds' (hs.take i)).foldl (layG QdS) [] = O at *
  have lf' := lf O x lO hdis
  by_cases q1 : (YZO nw x.1).2 = true
  ·by_cases q2 : (YZO nw x.1).1 = x.2
   ·have q2' := eq_true q2
    have sp : JmD nw kp xs' ds' x := .inl q1
    rw [if_pos sp] at hst
    simp only [X5g, zLK, QXB, simprocAttr, CO.tmps, Opd.tmps, optT, Nat.reducePow, Nat.reduceDiv, Nat.reduceMod, f1, f2, f3, f4, f5, f6, f7, gi', hx, e1, zcS, JYL, qOD, kd, qPx, q1, q2', QSm, ZY7, XuT, zjk, Xtr, XxF, lf', QwN, ZyM, Y0j, XIy, Q7f, List.length_cons, List.length_nil, ne_eq, not_false_eq_true, not_true_eq_false, decide_true, decide_false]
    refine ⟨i + 1, ⟨gi, fun y hy => ?_⟩, by dsimp only; omega, ?_⟩
    ·rcases (htk y).1 hy with w | w
     ·exact hi2 y w
     ·rw [w]; exact fun z => z.2 q2
    ·simp only [hst]
     exact Bt.sel [0, 1, 2, 3, 7] hh (by decide) (by simp only [Zy2, FrSel, BlkSel, AV.ren, renL, AV.ok, okL, Option.some.injEq, exists_eq_left', List.length_cons, List.length_nil, Nat.reduceAdd, Nat.reduceLT, reduceCtorEq, implies_true, exists_eq', fo, fr, ao]) (by simp only [Zy2, FrSel, BlkSel, AV.ren, renL, AV.ok, okL, Option.some.injEq, exists_eq_left', List.length_cons, List.length_nil, Nat.reduceAdd, Nat.reduceLT, reduceCtorEq, implies_true, exists_eq', fo, fr, ao, zZY])
   ·have q2' := eq_false q2
    have hna : ¬ J36 hs nw := fun g => (qKb hr).1 g x hxm ⟨q1, q2⟩
    rw [if_pos hna] at e
    cases e
    simp only [X5g, zLK, QXB, simprocAttr, CO.tmps, Opd.tmps, optT, Nat.reducePow, Nat.reduceDiv, Nat.reduceMod, f1, f2, f3, f4, f5, f6, f7, gi', hx, e1, zcS, JYL, qOD, kd, qPx, q1, q2', QSm, ZY7, XuT, zjk, Xtr, XxF, lf', QwN, ZyM, Y0j, XIy, Q7f, List.length_cons, List.length_nil, ne_eq, not_false_eq_true, not_true_eq_false, decide_true, decide_false]
    exact Bt.drop _ hh rfl (by simp only [QTF, znG, J2K, Z4M, XzQ, ok_i, Bool.and_true])
  ·have q1' : (YZO nw x.1).2 = false := by cases z : (YZO nw x.1).2 with | true => exact absurd z q1 | false => rfl
   by_cases q3 : x.1 ∈ kp
   ·have q3' := eq_true q3
    have sp : JmD nw kp xs' ds' x := .inr (.inl q3)
    rw [if_pos sp] at hst
    simp only [X5g, zLK, QXB, simprocAttr, CO.tmps, Opd.tmps, optT, Nat.reducePow, Nat.reduceDiv, Nat.reduceMod, f1, f2, f3, f4, f5, f6, f7, gi', hx, e1, zcS, JYL, qOD, kd, qPx, q1', q3', QSm, ZY7, XuT, zjk, Xtr, XxF, lf', QwN, ZyM, Y0j, XIy, Q7f, List.length_cons, List.length_nil, ne_eq, not_false_eq_true, not_true_eq_false, decide_true, decide_false]
    refine ⟨i + 1, ⟨gi, fun y hy => ?_⟩, by dsimp only; omega, ?_⟩
    ·rcases (htk y).1 hy with w | w
     ·exact hi2 y w
     ·rw [w]; exact fun z => q1 z.1
    ·simp only [hst]
     exact Bt.sel [0, 1, 2, 3, 7] hh (by decide) (by simp only [Zy2, FrSel, BlkSel, AV.ren, renL, AV.ok, okL, Option.some.injEq, exists_eq_left', List.length_cons, List.length_nil, Nat.reduceAdd, Nat.reduceLT, reduceCtorEq, implies_true, exists_eq', fo, fr, ao]) (by simp only [Zy2, FrSel, BlkSel, AV.ren, renL, AV.ok, okL, Option.some.injEq, exists_eq_left', List.length_cons, List.length_nil, Nat.reduceAdd, Nat.reduceLT, reduceCtorEq, implies_true, exists_eq', fo, fr, ao, zZY])
   ·have q3' := eq_false q3
    by_cases q4 : X74 xs' ds' = 0 ∧ q2o xs' ds' x.1
    ·have q4' := eq_true q4
     have sp : ¬ JmD nw kp xs' ds' x := fun z => z.elim q1 fun z => z.elim q3 fun z => z q4
     rw [if_neg sp] at hst
     simp only [X5g, zLK, QXB, simprocAttr, CO.tmps, Opd.tmps, optT, Nat.reducePow, Nat.reduceDiv, Nat.reduceMod, f1, f2, f3, f4, f5, f6, f7, gi', hx, e1, zcS, JYL, qOD, kd, qPx, q1', q3', q4', QSm, ZY7, XuT, zjk, Xtr, XxF, lf', QwN, ZyM, Y0j, XIy, Q7f, List.length_cons, List.length_nil, ne_eq, not_false_eq_true, not_true_eq_false, decide_true, decide_false]
     refine ⟨i + 1, ⟨gi, fun y hy => ?_⟩, by dsimp only; omega, ?_⟩
     ·rcases (htk y).1 hy with w | w
      ·exact hi2 y w
      ·rw [w]; exact fun z => q1 z.1
     ·simp only [hst]
      exact Bt.sel [0, 1, 2, 3, 4] hh (by decide) (by simp only [Zy2, FrSel, BlkSel, AV.ren, renL, AV.ok, okL, Option.some.injEq, exists_eq_left', List.length_cons, List.length_nil, Nat.reduceAdd, Nat.reduceLT, reduceCtorEq, implies_true, exists_eq', fo, fr, ao]) (by simp only [Zy2, FrSel, BlkSel, AV.ren, renL, AV.ok, okL, Option.some.injEq, exists_eq_left', List.length_cons, List.length_nil, Nat.reduceAdd, Nat.reduceLT, reduceCtorEq, implies_true, exists_eq', fo, fr, ao, zZY])
    ·have q4' := eq_false q4
     have sp : JmD nw kp xs' ds' x := .inr (.inr q4)
     rw [if_pos sp] at hst
     simp only [X5g, zLK, QXB, simprocAttr, CO.tmps, Opd.tmps, optT, Nat.reducePow, Nat.reduceDiv, Nat.reduceMod, f1, f2, f3, f4, f5, f6, f7, gi', hx, e1, zcS, JYL, qOD, kd, qPx, q1', q3', q4', QSm, ZY7, XuT, zjk, Xtr, XxF, lf', QwN, ZyM, Y0j, XIy, Q7f, List.length_cons, List.length_nil, ne_eq, not_false_eq_true, not_true_eq_false, decide_true, decide_false]
     refine ⟨i + 1, ⟨gi, fun y hy => ?_⟩, by dsimp only; omega, ?_⟩
     ·rcases (htk y).1 hy with w | w
      ·exact hi2 y w
      ·rw [w]; exact fun z => q1 z.1
     ·simp only [hst]
      exact Bt.sel [0, 1, 2, 3, 7] hh (by decide) (by simp only [Zy2, FrSel, BlkSel, AV.ren, renL, AV.ok, okL, Option.some.injEq, exists_eq_left', List.length_cons, List.length_nil, Nat.reduceAdd, Nat.reduceLT, reduceCtorEq, implies_true, exists_eq', fo, fr, ao]) (by simp only [Zy2, FrSel, BlkSel, AV.ren, renL, AV.ok, okL, Option.some.injEq, exists_eq_left', List.length_cons, List.length_nil, Nat.reduceAdd, Nat.reduceLT, reduceCtorEq, implies_true, exists_eq', fo, fr, ao, zZY])
 ·obtain rfl : i = hs.length := by omega
  have gi' := eq_false gi
  rw [List.take_length] at hi2
  have hag : J36 hs nw := (qKb hr).2 hi2
  rw [if_neg (not_not_intro hag)] at e
  have lK : ((XRG nw kp xs' ds' hs).foldl (layG QdS) []).length ≤ hs.length := by
   rw [qJC]
   have := KqJ (nw := nw) (kp := kp) (v' := xs') (ds' := ds') (l := hs) (i := hs.length)
   rw [List.take_length] at this
   simp only [List.length_nil]
   omega
  have hK : ∀ z ∈ (XRG nw kp xs' ds' hs).foldl (layG QdS) [], z ∈ hs := fun z hz => (YXw.1 hz).elim (fun q => by cases q) fun q => (List.mem_filter.1 q).1
  have hfin := J9N (nw := nw) (kp := kp) (v' := xs') (ds' := ds') ra hr c1
  simp only [List.take_length, X5g, zLK, QXB, simprocAttr, CO.tmps, Opd.tmps, optT, Nat.reducePow, Nat.reduceDiv, Nat.reduceMod, f1, f2, f3, f4, f5, f6, f7, gi']
  generalize hKe : (XRG nw kp xs' ds' hs).foldl (layG QdS) [] = K at *
  refine JEe (S := Nat) (fun j => nw.length - j) (fun j => tp 2 ++ [.p (h.length + 0) 0, .p (h.length + 1) 0, .p (h.length + 2) 0] ++ tp 1 ++ [.p (h.length + 3) 0] ++ tp 4 ++ [.i .i64 j] ++ tp 92) (fun j => h ++ [.blk false true [l, s, t], .blk false true [n, k, s', t'], .blk false true [.ns, .ns, .ns], .blk false true [apS qdS (h.length + 4) ((outL xs ds (nw.take j)).foldl (layG QdS) K), .ns, .ns], resB qdS true ((outL xs ds (nw.take j)).foldl (layG QdS) K)]) (fun j => j ≤ nw.length) 0 (Nat.zero_le _) (Bt.wk (by simp only [X5g, QXB, simprocAttr])) fun j hj => ?_
  by_cases gj : j < nw.length
  ·have gj' := eq_true gj
   have e1 : IntKind.i64.wrap ((j : Int) + 1) = ((j + 1 : Nat) : Int) := q6V (by unfold In64; omega)
   have hst := z8X (v := xs) (ds := ds) gj K
   have lO : ((outL xs ds (nw.take j)).foldl (layG QdS) K).length ≤ 100000 := by
    rw [qJC]
    have := XRv xs ds nw j
    omega
   have f9 := f8.1
   have f10 := fun (L : List AB) => f4.2.2.2.2.2.2.2.1 L j gj
   by_cases q : X74 xs ds = 0 ∧ q2o xs ds (nw.getD j qdS.d).1
   ·rw [if_pos q] at hst
    generalize hx : nw.getD j qdS.d = x at *
    have q' := eq_true q
    simp only [X5g, zLK, QXB, simprocAttr, CO.tmps, Opd.tmps, optT, Nat.reducePow, Nat.reduceDiv, Nat.reduceMod, f1, f2, f3, f4, f5, f6, f7, f8, gj', hx, e1, qOD, kd, qPx, q', QwN, ZyM, Y0j, XIy, Q7f, ne_eq, not_false_eq_true, not_true_eq_false, decide_true, decide_false, XeO hh, QU9 hz, QLc hz, zkD hz]
    refine ⟨j + 1, gj, by dsimp only; omega, ?_⟩
    simp only [hst]
    exact Bt.sel [0, 1, 2, 3, 4] hh (by decide) (by simp only [Zy2, FrSel, BlkSel, AV.ren, renL, AV.ok, okL, Option.some.injEq, exists_eq_left', List.length_cons, List.length_nil, Nat.reduceAdd, Nat.reduceLT, reduceCtorEq, implies_true, exists_eq', fo, fr, ao]) (by simp only [Zy2, FrSel, BlkSel, AV.ren, renL, AV.ok, okL, Option.some.injEq, exists_eq_left', List.length_cons, List.length_nil, Nat.reduceAdd, Nat.reduceLT, reduceCtorEq, implies_true, exists_eq', fo, fr, ao, zZY])
   ·rw [if_neg q] at hst
    have hdis : ∀ z ∈ (outL xs ds (nw.take j)).foldl (layG QdS) K, z.1 ≠ (nw.getD j qdS.d).1 := fun z hz e => by
     rcases YXw.1 hz with w | w
     ·have := ra.sn z (hK z w)
      rw [e] at this
      exact q ⟨cs, (YCI ra.nf.rg _).2 this⟩
     ·have hz2 := (List.mem_filter.1 w).1
      obtain ⟨m, hm, rfl⟩ := List.getElem_of_mem hz2
      rw [List.length_take] at hm
      rw [List.getElem_take] at e
      have := (List.pairwise_iff_getElem.1 hr) m j (by omega) gj (by omega)
      rw [List.getD_eq_getElem?_getD, List.getElem?_eq_getElem gj] at e
      unfold QdS at this
      rw [e] at this
      exact YJc _ this
    generalize hx : nw.getD j qdS.d = x at *
    generalize hO : (outL xs ds (nw.take j)).foldl (layG QdS) K = O at *
    have lf' := lf O x lO hdis
    have q' := eq_false q
    simp only [X5g, zLK, QXB, simprocAttr, CO.tmps, Opd.tmps, optT, Nat.reducePow, Nat.reduceDiv, Nat.reduceMod, f1, f2, f3, f4, f5, f6, f7, f8, gj', hx, e1, qOD, kd, qPx, q', lf', QwN, ZyM, Y0j, XIy, Q7f, ne_eq, not_false_eq_true, not_true_eq_false, decide_true, decide_false, XeO hh, QU9 hz, QLc hz, zkD hz]
    refine ⟨j + 1, gj, by dsimp only; omega, ?_⟩
    simp only [hst]
    exact Bt.sel [0, 1, 2, 3, 5] hh (by decide) (by simp only [Zy2, FrSel, BlkSel, AV.ren, renL, AV.ok, okL, Option.some.injEq, exists_eq_left', List.length_cons, List.length_nil, Nat.reduceAdd, Nat.reduceLT, reduceCtorEq, implies_true, exists_eq', fo, fr, ao]) (by simp only [Zy2, FrSel, BlkSel, AV.ren, renL, AV.ok, okL, Option.some.injEq, exists_eq_left', List.length_cons, List.length_nil, Nat.reduceAdd, Nat.reduceLT, reduceCtorEq, implies_true, exists_eq', fo, fr, ao, zZY])
  ·obtain rfl : j = nw.length := by omega
   have gj' := eq_false gj
   by_cases g : (fmO (YJO xs xs' 16) (ds ++ ds')).2.length ≤ 4096
   case neg =>
    rw [if_neg g] at e
    cases e
   rw [if_pos g] at e
   cases e
   have g' := eq_true g
   simp only [List.take_length, hfin, X5g, zLK, QXB, simprocAttr, CO.tmps, Opd.tmps, optT, Nat.reducePow, Nat.reduceDiv, Nat.reduceMod, f1, f2, f3, f4, f5, f6, f7, gj', qqk, cs, c1, g', ne_eq, not_false_eq_true, not_true_eq_false, decide_true, decide_false]
   refine Bt.trans JuC ?_
   exact Bt.sel [4, 5, 6] hh (by decide) (by simp only [Zy2, FrSel, BlkSel, AV.ren, renL, AV.ok, okL, Option.some.injEq, exists_eq_left', List.length_cons, List.length_nil, Nat.reduceAdd, Nat.reduceLT, reduceCtorEq, implies_true, exists_eq']) (by simp only [Zy2, FrSel, BlkSel, AV.ren, renL, AV.ok, okL, Option.some.injEq, exists_eq_left', List.length_cons, List.length_nil, Nat.reduceAdd, Nat.reduceLT, reduceCtorEq, implies_true, exists_eq'])
theorem XtS : Spec Tryz.prog 59 KBw := by
 intro args h v h' e
 unfold KBw at e
 split at e
 ·rename_i l s t n k s' t'
  obtain ⟨hs, hl, e⟩ := KsT e
  obtain ⟨xs, hv, e⟩ := KsT e
  obtain ⟨ds, hd, e⟩ := KsT e
  obtain ⟨nw, hn, e⟩ := KsT e
  obtain ⟨kp, hk, e⟩ := KsT e
  obtain ⟨xs', hv', e⟩ := KsT e
  obtain ⟨ds', hd', e⟩ := KsT e
  split at e
  ·rename_i hL
   split at e
   ·rename_i c
    cases e
    refine FnAt.c (FnAt.frz0 fun hz => ZJw hz hl.frz hv.frz hd.frz hn.frz hk.frz hv'.frz hd'.frz hL.1 hL.2.1 hL.2.2.1 hL.2.2.2 _ _ ?_)
    simp only [KBw, hl.frz.get, hv.frz.get, hd.frz.get, hn.frz.get, hk.frz.get, hv'.frz.get, hd'.frz.get, Option.bind_some]
    rw [if_pos hL, if_pos c]
   ·rename_i c
    split at e
    ·rename_i c1
     cases e
     refine FnAt.c (FnAt.frz fun hz => ZJw hz hl.frz hv.frz hd.frz hn.frz hk.frz hv'.frz hd'.frz hL.1 hL.2.1 hL.2.2.1 hL.2.2.2 _ _ ?_)
     simp only [KBw, hl.frz.get, hv.frz.get, hd.frz.get, hn.frz.get, hk.frz.get, hv'.frz.get, hd'.frz.get, Option.bind_some, List.length_map]
     rw [if_pos hL, if_neg c, if_pos c1]
    ·cases e
  ·cases e
 ·cases e
end Go.Proofs.YtfaccliekejngaaGreat
end
section
namespace Go.Proofs.YtfaccliekejngaaGreat
set_option maxRecDepth 100000
set_option maxHeartbeats 8000000
def rCl (p q : Nat) (v v' : List Int) (ds ds' : Dots) : List AV := [.sl p 0 (topI (fmR (YJO v v' 16) (layR (ds ++ ds'))).1 16) 16 none, rsl dotR q (fmR (YJO v v' 16) (layR (ds ++ ds'))).2]
def rClB (v v' : List Int) (ds ds' : Dots) : List AB := [.blk true true (intR.cells (fmR (YJO v v' 16) (layR (ds ++ ds'))).1), resB dotR true (fmR (YJO v v' 16) (layR (ds ++ ds'))).2]
open Classical in
noncomputable def YnD : List AV → List AB → Option (AV × List AB)
 | [.ag [l, s, t], .ag [l', s', t']], h => (getS qdS h l).bind fun hs => (getS intR h s).bind fun v => (getS dotR h t).bind fun ds => (getS qdS h l').bind fun hs' => (getS intR h s').bind fun v' => (getS dotR h t').bind fun ds' =>
   if hs.length ≤ 10000 ∧ hs'.length ≤ 10000 then
    if QjU hs v ds ≠ 0 then some (.tu [.ag [.ns, .ns, .ns], .i .i64 (QjU hs v ds)], h)
    else if QjU hs' v' ds' ≠ 0 then some (.tu [.ag [.ns, .ns, .ns], .i .i64 (QjU hs' v' ds')], h)
    else if ¬ J36 hs hs' then some (.tu [.ag [.ns, .ns, .ns], .i .i64 9], h)
    else if (fmO (YJO v v' 16) (ds ++ ds')).2.length ≤ 4096 then some (.tu [.ag (rsl qdS h.length (jnL hs hs' v v' ds ds') :: rCl (h.length + 1) (h.length + 2) v v' ds ds'), .i .i64 0], h ++ (resB qdS true (jnL hs hs' v v' ds ds') :: rClB v v' ds ds'))
    else none
   else none
 | _, _ => none
theorem KZY : Spec Tryz.prog 16 YnD := by
 intro args h v h' e
 unfold YnD at e
 split at e
 ·rename_i l s t l' s' t'
  obtain ⟨hs, hl, e⟩ := KsT e
  obtain ⟨xs, hv, e⟩ := KsT e
  obtain ⟨ds, hd, e⟩ := KsT e
  obtain ⟨hs', hl', e⟩ := KsT e
  obtain ⟨xs', hv', e⟩ := KsT e
  obtain ⟨ds', hd', e⟩ := KsT e
  split at e
  ·rename_i hL
   have hR := (⟨⟨XGe, XtS, trivial⟩, trivial⟩ : Env.Ok Tryz.prog ⟨[⟨32, Z2z, fun _ => []⟩, ⟨59, KBw, fun _ => []⟩], []⟩)
   refine FnAt.c (FnAt.run (by kernel_rfl) hR Tryz.func16 sw16 fun ho hh => ?_)
   simp only [znG, Z4M, Bool.and_eq_true] at ho
   have f1 := hl.fx ho.1.1 (sz := 34) rfl
   have f2 := hv.fx ho.1.2.1 (sz := 1) rfl
   have f3 := hd.fx ho.1.2.2.1 (sz := 2) rfl
   have f4 := hl'.fx ho.2.1.1 (sz := 34) rfl
   have f5 := hv'.fx ho.2.1.2.1 (sz := 1) rfl
   have f6 := hd'.fx ho.2.1.2.2.1 (sz := 2) rfl
   have l1 := eq_true hL.1
   have l2 := eq_true hL.2
   unfold w16
   by_cases c0 : QjU hs xs ds = 0
   case neg =>
    have c0' := eq_false c0
    rw [if_pos c0] at e
    cases e
    simp only [YGO, Jyg, X5g, zLK, QXB, simprocAttr, CO.tmps, Opd.tmps, optT, Nat.reducePow, Nat.reduceDiv, Nat.reduceMod, f1, f2, f3, f4, f5, f6, Z2z, c0', ne_eq, not_false_eq_true, not_true_eq_false, decide_true, decide_false]
    exact Bt.drop _ hh rfl (by simp only [QTF, znG, J2K, Z4M, XzQ, ok_i, Bool.and_true])
   rw [if_neg (not_not_intro c0)] at e
   by_cases c1 : QjU hs' xs' ds' = 0
   case neg =>
    have c1' := eq_false c1
    rw [if_pos c1] at e
    cases e
    simp only [YGO, Jyg, X5g, zLK, QXB, simprocAttr, CO.tmps, Opd.tmps, optT, Nat.reducePow, Nat.reduceDiv, Nat.reduceMod, f1, f2, f3, f4, f5, f6, Z2z, c0, c1', ne_eq, not_false_eq_true, not_true_eq_false, decide_true, decide_false]
    exact Bt.drop _ hh rfl (by simp only [QTF, znG, J2K, Z4M, XzQ, ok_i, Bool.and_true])
   rw [if_neg (not_not_intro c1)] at e
   have ra := Koi.1 c0
   have rb := Koi.1 c1
   have cs := rb.nf.check rb.len
   have rr := eq_true rb.rise
   have hj := qDF ra rb
   by_cases c2 : J36 hs hs'
   case neg =>
    have c2' := eq_false c2
    rw [if_pos c2] at e
    cases e
    simp only [YGO, Jyg, X5g, zLK, QXB, simprocAttr, CO.tmps, Opd.tmps, optT, Nat.reducePow, Nat.reduceDiv, Nat.reduceMod, f1, f2, f3, f4, f5, f6, Z2z, KBw, XoA, l1, l2, cs, rr, c0, c1, c2', and_self, ne_eq, not_false_eq_true, not_true_eq_false, decide_true, decide_false]
    exact Bt.drop _ hh rfl (by simp only [QTF, znG, J2K, Z4M, XzQ, ok_i, Bool.and_true])
   have c2' := eq_true c2
   rw [if_neg (not_not_intro c2)] at e
   by_cases c3 : (fmO (YJO xs xs' 16) (ds ++ ds')).2.length ≤ 4096
   case neg =>
    rw [if_neg c3] at e
    cases e
   have c3' := eq_true c3
   rw [if_pos c3] at e
   cases e
   simp only [YGO, Jyg, X5g, zLK, QXB, simprocAttr, CO.tmps, Opd.tmps, optT, Nat.reducePow, Nat.reduceDiv, Nat.reduceMod, f1, f2, f3, f4, f5, f6, Z2z, KBw, XoA, l1, l2, cs, rr, c0, c1, c2', c3', hj, and_self, ne_eq, not_false_eq_true, not_true_eq_false, decide_true, decide_false]
   simp only [rCl, rClB]
   exact Bt.sel [3, 4, 5] hh (by decide) (by simp only [Zy2, FrSel, BlkSel, AV.ren, renL, AV.ok, okL, Option.some.injEq, exists_eq_left', List.length_cons, List.length_nil, Nat.reduceAdd, Nat.reduceLT, reduceCtorEq, implies_true, exists_eq']) (by simp only [Zy2, FrSel, BlkSel, AV.ren, renL, AV.ok, okL, Option.some.injEq, exists_eq_left', List.length_cons, List.length_nil, Nat.reduceAdd, Nat.reduceLT, reduceCtorEq, implies_true, exists_eq'])
  ·cases e
 ·cases e
noncomputable def ZV3 : List AV → List AB → Option (AV × List AB)
 | [.ag [n, k, s, t]], h => (getS qdS h n).bind fun nw => (getS dotR h k).bind fun kp => (getS intR h s).bind fun v => (getS dotR h t).bind fun ds => some (.b (decide (mayP nw kp v ds)), h)
 | _, _ => none
theorem zMI {l : List Hd} {d : Int × Int} : (YZO l d).2 = true ↔ d ∈ l.map (·.1) := by
 rw [show (YZO l d).2 = (YZO l ((d, zBD) : Hd).1).2 from rfl, Qz2, List.mem_map]
theorem JvN {h : List AB} (hz : h.map AB.freeze = h) {n k s t : AV} {nw : List Hd} {kp : Dots} {xs : List Int} {ds : Dots} (hn : Rd qdS h n nw) (hk : Rd dotR h k kp) (hv : Rd intR h s xs) (hd : Rd dotR h t ds) :
  FnAt Tryz.prog 91 [.ag [n, k, s, t]] h (.b (decide (mayP nw kp xs ds))) h := by
 refine FnAt.run (by kernel_rfl) (T := ⟨[⟨110, zcS, fun _ => []⟩, ⟨122, Jwd, fun _ => []⟩, ⟨63, qOD, fun _ => []⟩, ⟨86, Kov, fun _ => []⟩], []⟩) ⟨⟨QLb, zSv, ZeA, JC8, trivial⟩, trivial⟩ Tryz.func91 sw91 fun ho hh => ?_
 simp only [znG, Z4M, Bool.and_eq_true] at ho
 have f1 := hn.fx ho.1.1 (sz := 34) rfl
 have f2 := hk.fx ho.1.2.1 (sz := 2) rfl
 have f3 := hv.fx ho.1.2.2.1 (sz := 1) rfl
 have f4 := hd.fx ho.1.2.2.2.1 (sz := 2) rfl
 have up : ∀ (t : AV), t.ok (fun i => decide (i < h.length)) = true → ∀ c, t.ok (fun i => decide (i < h.length + c)) = true := fun t ht c => AV.ok_mono (fun i q => by simp only [decide_eq_true_eq] at q ⊢; omega) t ht
 have rn : ∀ (t : AV), t.ok (fun i => decide (i < h.length)) = true → ∀ sel, Wk (t.ren (selN h.length sel)) t := fun t ht sel => Wk.ren (fun i hi => Xzs hi) ht
 have fo := fun c => And.intro (up n ho.1.1 c) (And.intro (up k ho.1.2.1 c) (And.intro (up s ho.1.2.2.1 c) (up t ho.1.2.2.2.1 c)))
 have fr := fun sel => And.intro (rn n ho.1.1 sel) (And.intro (rn k ho.1.2.1 sel) (And.intro (rn s ho.1.2.2.1 sel) (rn t ho.1.2.2.2.1 sel)))
 unfold w91
 simp only [YGO, Jyg, X5g, zLK, QXB, simprocAttr, CO.tmps, Opd.tmps, optT, Nat.reducePow, Nat.reduceDiv, Nat.reduceMod, f1, f2, f3, f4]
 refine JEe (S := Nat) (fun i => kp.length - i) (fun i => tp 1 ++ [.p (h.length + 0) 0] ++ tp 1 ++ [.i .i64 i] ++ tp 56) (fun _ => h ++ [.blk false true [n, k, s, t]]) (fun i => i ≤ kp.length ∧ Jhw xs ds kp i ∧ ∀ d ∈ kp.take i, d ∉ nw.map (·.1)) 0 ⟨Nat.zero_le _, fun k hk => absurd hk (Nat.not_lt_zero _), fun d hd => by simp at hd⟩ (Bt.wk (by simp only [X5g, QXB, simprocAttr])) fun i hi => ?_
 obtain ⟨hi1, hi2, hi3⟩ := hi
 by_cases g1 : i < kp.length
 ·have g1' := eq_true g1
  have e1 : IntKind.i64.wrap ((i : Int) + 1) = ((i + 1 : Nat) : Int) := q6V (by have := hk.2; unfold maxLen at this; unfold In64; omega)
  have hstep : Jhw xs ds kp (i + 1) ↔ (0 < i → zpz (kp.getD (i - 1) dotR.d) (kp.getD i dotR.d)) ∧ (X74 xs ds = 0 ∧ q2o xs ds (kp.getD i dotR.d)) := by
   constructor
   ·intro q
    exact q i (Nat.lt_succ_self i)
   ·rintro q k hk
    rcases Nat.lt_succ_iff_lt_or_eq.1 hk with z | rfl
    ·exact hi2 k z
    ·exact q
  have hbad : ¬ Jhw xs ds kp (i + 1) → decide (mayP nw kp xs ds) = false := fun q => decide_eq_false fun z => q fun k hk' => z.2.1 k (by omega)
  have hm : kp.getD i dotR.d ∈ kp := by rw [List.getD_eq_getElem?_getD, List.getElem?_eq_getElem g1]; exact List.getElem_mem g1
  have ht : ∀ z, z ∈ kp.take (i + 1) ↔ z ∈ kp.take i ∨ z = kp.getD i dotR.d := fun z => by
   rw [List.take_succ_eq_append_getElem g1, List.mem_append, List.mem_singleton, List.getD_eq_getElem?_getD, List.getElem?_eq_getElem g1]
   rfl
  have back : ∀ {fr : List AV} {L : List AB}, Jhw xs ds kp (i + 1) → kp.getD i dotR.d ∉ nw.map (·.1) → (i + 1 ≤ kp.length ∧ Jhw xs ds kp (i + 1) ∧ ∀ d ∈ kp.take (i + 1), d ∉ nw.map (·.1)) := fun h1 h2 => ⟨g1, h1, fun d hd => ((ht d).1 hd).elim (hi3 d) fun q => by rw [q]; exact h2⟩
  by_cases q1 : (YZO nw (kp.getD i dotR.d)).2 = true
  ·have hf : decide (mayP nw kp xs ds) = false := decide_eq_false fun z => z.2.2 ⟨_, hm, zMI.1 q1⟩
   simp only [X5g, zLK, QXB, simprocAttr, CO.tmps, Opd.tmps, optT, Nat.reducePow, Nat.reduceDiv, Nat.reduceMod, f1, f2, f3, f4, g1', zcS, Jwd, qOD, YKr, qPx, q1, XuT, zjk, Xtr, XxF, Q7f, true_and, XeO hh, QU9 hz, QLc hz, zkD hz]
   exact Bt.dropB _ hh hf.symm
  ·have q1' : (YZO nw (kp.getD i dotR.d)).2 = false := by cases z : (YZO nw (kp.getD i dotR.d)).2 with | true => exact absurd z q1 | false => rfl
   have q2 : kp.getD i dotR.d ∉ nw.map (·.1) := fun z => q1 (zMI.2 z)
   by_cases g0 : i = 0
   ·have gz : ((0 : Int) < (i : Int)) = False := eq_false (by omega)
    simp only [X5g, zLK, QXB, simprocAttr, CO.tmps, Opd.tmps, optT, Nat.reducePow, Nat.reduceDiv, Nat.reduceMod, f1, f2, f3, f4, g1', gz, e1, zcS, Jwd, qOD, YKr, qPx, q1', XuT, zjk, Xtr, XxF, Q7f, true_and, XeO hh, QU9 hz, QLc hz, zkD hz]
    refine ⟨fun q => Bt.dropB _ hh (hbad fun z => q (hstep.1 z).2).symm, fun q => ?_⟩
    exact ⟨i + 1, back (fr := []) (L := []) (hstep.2 ⟨fun z => absurd z (by omega), Decidable.not_not.1 q⟩) q2, by dsimp only; omega, Bt.sel [0] hh (by decide) (by simp only [Zy2, FrSel, BlkSel, AV.ren, renL, AV.ok, okL, Option.some.injEq, exists_eq_left', List.length_cons, List.length_nil, Nat.reduceAdd, Nat.reduceLT, reduceCtorEq, implies_true, exists_eq', fo, fr]) (by simp only [Zy2, FrSel, BlkSel, AV.ren, renL, AV.ok, okL, Option.some.injEq, exists_eq_left', List.length_cons, List.length_nil, Nat.reduceAdd, Nat.reduceLT, reduceCtorEq, implies_true, exists_eq', fo, fr])⟩
   ·have gz : ((0 : Int) < (i : Int)) = True := eq_true (by omega)
    have e2 : IntKind.i64.wrap ((i : Int) - 1) = ((i - 1 : Nat) : Int) := by
     have : (i : Int) - 1 = ((i - 1 : Nat) : Int) := by omega
     rw [this]
     exact q6V (by have := hk.2; unfold maxLen at this; unfold In64; omega)
    have g2' : (i - 1 < kp.length) = True := eq_true (by omega)
    simp only [X5g, zLK, QXB, simprocAttr, CO.tmps, Opd.tmps, optT, Nat.reducePow, Nat.reduceDiv, Nat.reduceMod, f1, f2, f3, f4, g1', g2', gz, e1, e2, zcS, Jwd, qOD, YKr, qPx, q1', XuT, zjk, Xtr, XxF, Q7f, true_and, XeO hh, QU9 hz, QLc hz, zkD hz]
    refine ⟨fun q => Bt.dropB _ hh (hbad fun z => q ((hstep.1 z).1 (by omega))).symm, fun p => ⟨fun q => Bt.dropB _ hh (hbad fun z => q (hstep.1 z).2).symm, fun q => ?_⟩⟩
    exact ⟨i + 1, back (fr := []) (L := []) (hstep.2 ⟨fun _ => Decidable.not_not.1 p, Decidable.not_not.1 q⟩) q2, by dsimp only; omega, Bt.sel [0] hh (by decide) (by simp only [Zy2, FrSel, BlkSel, AV.ren, renL, AV.ok, okL, Option.some.injEq, exists_eq_left', List.length_cons, List.length_nil, Nat.reduceAdd, Nat.reduceLT, reduceCtorEq, implies_true, exists_eq', fo, fr]) (by simp only [Zy2, FrSel, BlkSel, AV.ren, renL, AV.ok, okL, Option.some.injEq, exists_eq_left', List.length_cons, List.length_nil, Nat.reduceAdd, Nat.reduceLT, reduceCtorEq, implies_true, exists_eq', fo, fr])⟩
 ·obtain rfl : i = kp.length := by omega
  have g1' := eq_false g1
  rw [List.take_length] at hi3
  have hF := JYT xs ds nw nw.length
  simp only [X5g, zLK, QXB, simprocAttr, CO.tmps, Opd.tmps, optT, Nat.reducePow, Nat.reduceDiv, Nat.reduceMod, f1, f2, f3, f4, g1', Kov]
  exact Bt.dropB _ hh (decide_eq_decide.2 ⟨fun z => ⟨hF.2 z, hi2, fun ⟨d, h1, h2⟩ => hi3 d h1 h2⟩, fun z => hF.1 z.1⟩)
theorem ZDi : Spec Tryz.prog 91 ZV3 := by
 intro args h v h' e
 unfold ZV3 at e
 split at e
 ·rename_i n k s t
  obtain ⟨nw, hn, e⟩ := KsT e
  obtain ⟨kp, hk, e⟩ := KsT e
  obtain ⟨xs, hv, e⟩ := KsT e
  obtain ⟨ds, hd, e⟩ := KsT e
  cases e
  exact FnAt.c (FnAt.frz0 fun hz => JvN hz hn.frz hk.frz hv.frz hd.frz)
 ·cases e
theorem XFr {nw : List Hd} {kp : Dots} {v : List Int} {ds : Dots} (c : X74 v ds = 0) (h : mayP nw kp v ds) : nw.Pairwise QdS := ((KPf c).1 ((JYT v ds nw nw.length).1 h.1)).1
noncomputable def ZuH : List AV → List AB → Option (AV × List AB)
 | [.ag [l, s, t], .ag [n, k, s', t']], h => (getS qdS h l).bind fun hs => (getS intR h s).bind fun v => (getS dotR h t).bind fun ds => (getS qdS h n).bind fun nw => (getS dotR h k).bind fun kp => (getS intR h s').bind fun v' => (getS dotR h t').bind fun ds' =>
   if hs.length ≤ 10000 ∧ nw.length ≤ 10000 then
    if QjU hs v ds ≠ 0 then some (.tu [.ag [.ns, .ns, .ns], .i .i64 (QjU hs v ds)], h)
    else if X74 v' ds' ≠ 0 then some (.tu [.ag [.ns, .ns, .ns], .i .i64 (X74 v' ds')], h)
    else if ¬ mayP nw kp v' ds' then some (.tu [.ag [.ns, .ns, .ns], .i .i64 2], h)
    else if ¬ J36 hs nw then some (.tu [.ag [.ns, .ns, .ns], .i .i64 9], h)
    else if (fmO (YJO v v' 16) (ds ++ ds')).2.length ≤ 4096 then some (.tu [.ag (rsl qdS h.length (chL hs v ds nw kp v' ds') :: rCl (h.length + 1) (h.length + 2) v v' ds ds'), .i .i64 0], h ++ (resB qdS true (chL hs v ds nw kp v' ds') :: rClB v v' ds ds'))
    else none
   else none
 | _, _ => none
theorem XTk : Spec Tryz.prog 39 ZuH := by
 intro args h v h' e
 unfold ZuH at e
 split at e
 ·rename_i l s t n k s' t'
  obtain ⟨hs, hl, e⟩ := KsT e
  obtain ⟨xs, hv, e⟩ := KsT e
  obtain ⟨ds, hd, e⟩ := KsT e
  obtain ⟨nw, hn, e⟩ := KsT e
  obtain ⟨kp, hk, e⟩ := KsT e
  obtain ⟨xs', hv', e⟩ := KsT e
  obtain ⟨ds', hd', e⟩ := KsT e
  split at e
  ·rename_i hL
   have hR := (⟨⟨XGe, YbC, ZDi, XtS, trivial⟩, trivial⟩ : Env.Ok Tryz.prog ⟨[⟨32, Z2z, fun _ => []⟩, ⟨61, z6T, fun _ => []⟩, ⟨91, ZV3, fun _ => []⟩, ⟨59, KBw, fun _ => []⟩], []⟩)
   refine FnAt.c (FnAt.run (by kernel_rfl) hR Tryz.func39 sw39 fun ho hh => ?_)
   simp only [znG, Z4M, Bool.and_eq_true] at ho
   have f1 := hl.fx ho.1.1 (sz := 34) rfl
   have f2 := hv.fx ho.1.2.1 (sz := 1) rfl
   have f3 := hd.fx ho.1.2.2.1 (sz := 2) rfl
   have f4 := hn.fx ho.2.1.1 (sz := 34) rfl
   have f5 := hk.fx ho.2.1.2.1 (sz := 2) rfl
   have f6 := hv'.fx ho.2.1.2.2.1 (sz := 1) rfl
   have f7 := hd'.fx ho.2.1.2.2.2.1 (sz := 2) rfl
   have l1 := eq_true hL.1
   have l2 := eq_true hL.2
   unfold w39
   by_cases c0 : QjU hs xs ds = 0
   case neg =>
    have c0' := eq_false c0
    rw [if_pos c0] at e
    cases e
    simp only [YGO, Jyg, X5g, zLK, QXB, simprocAttr, CO.tmps, Opd.tmps, optT, Nat.reducePow, Nat.reduceDiv, Nat.reduceMod, f1, f2, f3, f4, f5, f6, f7, Z2z, c0', ne_eq, not_false_eq_true, not_true_eq_false, decide_true, decide_false]
    exact Bt.drop _ hh rfl (by simp only [QTF, znG, J2K, Z4M, XzQ, ok_i, Bool.and_true])
   rw [if_neg (not_not_intro c0)] at e
   by_cases c1 : X74 xs' ds' = 0
   case neg =>
    have c1' := eq_false c1
    rw [if_pos c1] at e
    cases e
    simp only [YGO, Jyg, X5g, zLK, QXB, simprocAttr, CO.tmps, Opd.tmps, optT, Nat.reducePow, Nat.reduceDiv, Nat.reduceMod, f1, f2, f3, f4, f5, f6, f7, Z2z, z6T, c0, c1', ne_eq, not_false_eq_true, not_true_eq_false, decide_true, decide_false]
    exact Bt.drop _ hh rfl (by simp only [QTF, znG, J2K, Z4M, XzQ, ok_i, Bool.and_true])
   rw [if_neg (not_not_intro c1)] at e
   by_cases c4 : mayP nw kp xs' ds'
   case neg =>
    have c4' := eq_false c4
    rw [if_pos c4] at e
    cases e
    simp only [YGO, Jyg, X5g, zLK, QXB, simprocAttr, CO.tmps, Opd.tmps, optT, Nat.reducePow, Nat.reduceDiv, Nat.reduceMod, f1, f2, f3, f4, f5, f6, f7, Z2z, z6T, ZV3, c0, c1, c4', ne_eq, not_false_eq_true, not_true_eq_false, decide_true, decide_false]
    exact Bt.drop _ hh rfl (by simp only [QTF, znG, J2K, Z4M, XzQ, ok_i, Bool.and_true])
   have c4' := eq_true c4
   rw [if_neg (not_not_intro c4)] at e
   have rr := eq_true (XFr c1 c4)
   by_cases c2 : J36 hs nw
   case neg =>
    have c2' := eq_false c2
    rw [if_pos c2] at e
    cases e
    simp only [YGO, Jyg, X5g, zLK, QXB, simprocAttr, CO.tmps, Opd.tmps, optT, Nat.reducePow, Nat.reduceDiv, Nat.reduceMod, f1, f2, f3, f4, f5, f6, f7, Z2z, z6T, ZV3, KBw, l1, l2, rr, c0, c1, c4', c2', and_self, ne_eq, not_false_eq_true, not_true_eq_false, decide_true, decide_false]
    exact Bt.drop _ hh rfl (by simp only [QTF, znG, J2K, Z4M, XzQ, ok_i, Bool.and_true])
   have c2' := eq_true c2
   rw [if_neg (not_not_intro c2)] at e
   by_cases c3 : (fmO (YJO xs xs' 16) (ds ++ ds')).2.length ≤ 4096
   case neg =>
    rw [if_neg c3] at e
    cases e
   have c3' := eq_true c3
   rw [if_pos c3] at e
   cases e
   simp only [YGO, Jyg, X5g, zLK, QXB, simprocAttr, CO.tmps, Opd.tmps, optT, Nat.reducePow, Nat.reduceDiv, Nat.reduceMod, f1, f2, f3, f4, f5, f6, f7, Z2z, z6T, ZV3, KBw, l1, l2, rr, c0, c1, c4', c2', c3', and_self, ne_eq, not_false_eq_true, not_true_eq_false, decide_true, decide_false]
   simp only [rCl, rClB]
   exact Bt.sel [3, 4, 5] hh (by decide) (by simp only [Zy2, FrSel, BlkSel, AV.ren, renL, AV.ok, okL, Option.some.injEq, exists_eq_left', List.length_cons, List.length_nil, Nat.reduceAdd, Nat.reduceLT, reduceCtorEq, implies_true, exists_eq']) (by simp only [Zy2, FrSel, BlkSel, AV.ren, renL, AV.ok, okL, Option.some.injEq, exists_eq_left', List.length_cons, List.length_nil, Nat.reduceAdd, Nat.reduceLT, reduceCtorEq, implies_true, exists_eq'])
  ·cases e
 ·cases e
end Go.Proofs.YtfaccliekejngaaGreat
end
section
namespace Go.Proofs.YtfaccliekejngaaGreat
set_option maxRecDepth 100000
set_option maxHeartbeats 8000000
theorem Qzv (h : List AB) : YJN [.ag [.ns, .ns, .ns]] h = some (.tu [], h) := rfl
theorem JwT {h L : List AB} {l : List Hd} {v : List Int} {m : Dots} {i j k : Nat} (hi : ownM qdS l L i) (hj : ownM intR v L j) (hk : ownM dotR m L k) (hl : l.length ≤ 1000000) (hv : v.length ≤ 1000000) (hm : m.length ≤ 1000000) (n1 : (i = j) = False) (n2 : (i = k) = False) (n3 : (j = k) = False) :
  YJN [.ag [rsl qdS (h.length + i) l, rsl intR (h.length + j) v, rsl dotR (h.length + k) m]] (h ++ L) = some (.tu [], h ++ Ko9 (Ko9 (Ko9 L i) j) k) := by
 have h1 : (h ++ L)[h.length + i]? = some (resB qdS true l) := by rw [z0m]; exact JOK l L i hi
 have h2 : (h ++ L)[h.length + j]? = some (resB intR true v) := by rw [z0m]; exact JOK v L j hj
 have h3 : (h ++ L)[h.length + k]? = some (resB dotR true m) := by rw [z0m]; exact JOK m L k hk
 have g1 : getS qdS (h ++ L) (rsl qdS (h.length + i) l) = some l := (quw h1 (by unfold maxLen; omega)).get
 have g2 : getS intR (h ++ L) (rsl intR (h.length + j) v) = some v := (quw h2 (by unfold maxLen; omega)).get
 have g3 : getS dotR (h ++ L) (rsl dotR (h.length + k) m) = some m := (quw h3 (by unfold maxLen; omega)).get
 have m1 : ¬ i = j := fun q => by rw [q] at n1; simp at n1
 have m2 : ¬ i = k := fun q => by rw [q] at n2; simp at n2
 have m3 : ¬ j = k := fun q => by rw [q] at n3; simp at n3
 unfold YJN
 split
 ·rename_i q
  simp only [List.cons.injEq, AV.ag.injEq] at q
  exact absurd q.1.1 (Zq0 _ _ _)
 ·rename_i q
  simp only [List.cons.injEq, AV.ag.injEq, and_true] at q
  obtain ⟨rfl, rfl, rfl⟩ := q
  rw [g1, g2, g3]
  simp only [Option.bind_some, JNv]
  rw [if_pos ⟨rfl, h1, rfl, h2, rfl, h3, by omega, by omega, by omega, hl, hv, hm⟩, ZbS, ZbS, ZbS]
  rw [Zbq, Zbq, Zbq]
 ·rename_i q1 q2
  first | exact (q2 _ _ _ rfl).elim | exact (q2 _ _ _ rfl rfl).elim | exact (q1 _ _ _ rfl rfl).elim
theorem XtT {h : List AB} {v : List Int} {ds : Dots} (hr : ZHB v ds) (L : List AB) (k : Nat) (hL : ownC L k = some (intR.cells (fmR v (layR ds)).1)) : getS intR (h ++ L) (.sl (h.length + k) 0 (topI (fmR v (layR ds)).1 16) 16 none) = some (fmO v ds).1 := by
 have inv := KjD v hr.1 hr.2.1 (fun d hd => hr.2.2 d (XH4 ds d hd)) (Nat.le_refl (layR ds).length)
 rw [List.take_length] at inv
 have t1 := X40 (fmR v (layR ds)).1 16
 exact (XKv hL (by unfold maxLen; omega) (by omega)).get
end Go.Proofs.YtfaccliekejngaaGreat
end
section
namespace Go.Proofs.YtfaccliekejngaaGreat
set_option maxRecDepth 100000
set_option maxHeartbeats 8000000
theorem QJP {h : List AB} (hz : h.map AB.freeze = h) {l1 s1 t1 l2 k2 s2 t2 : AV} {la nw : List Hd} {va vb : List Int} {da kp db : Dots} (hl1 : Rd qdS h l1 la) (hs1 : Rd intR h s1 va) (ht1 : Rd dotR h t1 da) (hl2 : Rd qdS h l2 nw) (hk2 : Rd dotR h k2 kp) (hs2 : Rd intR h s2 vb) (ht2 : Rd dotR h t2 db) :
  FnAt Tryz.prog 5 [.ag [l1, s1, t1], .ag [l2, k2, s2, t2]] h (.b true) h := by
 refine FnAt.run (by kernel_rfl) (T := ⟨[⟨12, qfh, fun _ => []⟩, ⟨10, QOg, fun _ => []⟩, ⟨36, Jzf, fun _ => []⟩, ⟨13, Z2L, fun _ => []⟩, ⟨37, zmJ, fun _ => []⟩, ⟨38, QhY, fun _ => []⟩, ⟨39, ZuH, fun _ => []⟩, ⟨19, KNf, fun _ => []⟩, ⟨20, Yb9, fun _ => []⟩, ⟨21, YJN, fun _ => []⟩], []⟩) ⟨⟨zP8, JDW, QYJ, zCz, ZYg, QKL, XTk, Q3m, KNc, qY9, trivial⟩, trivial⟩ Tryz.func5 sw5 fun ho hh => ?_
 simp only [znG, Z4M, Bool.and_eq_true] at ho
 have f1 := hl1.fx ho.1.1 (sz := 34) rfl
 have f2 := hs1.fx ho.1.2.1 (sz := 1) rfl
 have f3 := ht1.fx ho.1.2.2.1 (sz := 2) rfl
 have f4 := hl2.fx ho.2.1.1 (sz := 34) rfl
 have f5 := hk2.fx ho.2.1.2.1 (sz := 2) rfl
 have f6 := hs2.fx ho.2.1.2.2.1 (sz := 1) rfl
 have f7 := ht2.fx ho.2.1.2.2.2.1 (sz := 2) rfl
 unfold w5
 by_cases La : 20 < la.length ∨ 20 < va.length ∨ 30 < da.length
 ·have g := eq_true La
  simp only [YGO, Jyg, X5g, zLK, QXB, simprocAttr, CO.tmps, Opd.tmps, optT, Nat.reducePow, Nat.reduceDiv, Nat.reduceMod, f1, f2, f3, f4, f5, f6, f7, QOg, Jzf, qfh, Z2L, zmJ, QhY, ZuH, rCl, rClB, KNf, Yb9, Qzv, JwT, XeO hh, QU9 hz, QLc hz, zkD hz, ne_eq, not_false_eq_true, not_true_eq_false, decide_true, decide_false, zwU, beq_self_eq_true, and_self, eq_self, XoA, g]
  exact Bt.dropB _ hh rfl
 have ga := eq_false La
 by_cases Lb : 20 < nw.length ∨ 20 < kp.length ∨ 20 < vb.length ∨ 30 < db.length
 ·have g := eq_true Lb
  simp only [YGO, Jyg, X5g, zLK, QXB, simprocAttr, CO.tmps, Opd.tmps, optT, Nat.reducePow, Nat.reduceDiv, Nat.reduceMod, f1, f2, f3, f4, f5, f6, f7, QOg, Jzf, qfh, Z2L, zmJ, QhY, ZuH, rCl, rClB, KNf, Yb9, Qzv, JwT, XeO hh, QU9 hz, QLc hz, zkD hz, ne_eq, not_false_eq_true, not_true_eq_false, decide_true, decide_false, zwU, beq_self_eq_true, and_self, eq_self, XoA, ga, g]
  exact Bt.dropB _ hh rfl
 have gb := eq_false Lb
 have m1 : (la.length ≤ 1000000) = True := eq_true (by omega)
 have m2 : (va.length ≤ 1000000) = True := eq_true (by omega)
 have m3 : (da.length ≤ 1000000) = True := eq_true (by omega)
 have m4 : (nw.length ≤ 1000000) = True := eq_true (by omega)
 have m5 : (kp.length ≤ 1000000) = True := eq_true (by omega)
 have m6 : (vb.length ≤ 1000000) = True := eq_true (by omega)
 have m7 : (db.length ≤ 1000000) = True := eq_true (by omega)
 have n1 : (la.length ≤ 10000) = True := eq_true (by omega)
 have n2 : (nw.length ≤ 10000) = True := eq_true (by omega)
 have n3 : (kp.length ≤ 10000) = True := eq_true (by omega)
 by_cases ca : QjU la va da = 0
 case neg =>
  have g := eq_false ca
  have hE : apE la va da nw kp vb db = QjU la va da := by unfold apE; rw [if_pos ca]
  simp only [YGO, Jyg, X5g, zLK, QXB, simprocAttr, CO.tmps, Opd.tmps, optT, Nat.reducePow, Nat.reduceDiv, Nat.reduceMod, f1, f2, f3, f4, f5, f6, f7, QOg, Jzf, qfh, Z2L, zmJ, QhY, ZuH, rCl, rClB, KNf, Yb9, Qzv, JwT, XeO hh, QU9 hz, QLc hz, zkD hz, ne_eq, not_false_eq_true, not_true_eq_false, decide_true, decide_false, zwU, beq_self_eq_true, and_self, eq_self, XoA, ga, gb, m1, m2, m3, m4, m5, m6, m7, n1, n2, n3, ZnW, hE, g]
  exact Bt.dropB _ hh rfl
 by_cases cb : X74 vb db = 0
 case neg =>
  have g := eq_false cb
  have hE : apE la va da nw kp vb db = X74 vb db := by unfold apE; rw [if_neg (not_not_intro ca), if_pos cb]
  simp only [YGO, Jyg, X5g, zLK, QXB, simprocAttr, CO.tmps, Opd.tmps, optT, Nat.reducePow, Nat.reduceDiv, Nat.reduceMod, f1, f2, f3, f4, f5, f6, f7, QOg, Jzf, qfh, Z2L, zmJ, QhY, ZuH, rCl, rClB, KNf, Yb9, Qzv, JwT, XeO hh, QU9 hz, QLc hz, zkD hz, ne_eq, not_false_eq_true, not_true_eq_false, decide_true, decide_false, zwU, beq_self_eq_true, and_self, eq_self, XoA, ga, gb, m1, m2, m3, m4, m5, m6, m7, n1, n2, n3, ZnW, hE, ca, g]
  exact Bt.dropB _ hh rfl
 by_cases cm : mayP nw kp vb db
 case neg =>
  have g := eq_false cm
  have hE : apE la va da nw kp vb db = 2 := by unfold apE; rw [if_neg (not_not_intro ca), if_neg (not_not_intro cb), if_pos cm]
  simp only [YGO, Jyg, X5g, zLK, QXB, simprocAttr, CO.tmps, Opd.tmps, optT, Nat.reducePow, Nat.reduceDiv, Nat.reduceMod, f1, f2, f3, f4, f5, f6, f7, QOg, Jzf, qfh, Z2L, zmJ, QhY, ZuH, rCl, rClB, KNf, Yb9, Qzv, JwT, XeO hh, QU9 hz, QLc hz, zkD hz, ne_eq, not_false_eq_true, not_true_eq_false, decide_true, decide_false, zwU, beq_self_eq_true, and_self, eq_self, XoA, ga, gb, m1, m2, m3, m4, m5, m6, m7, n1, n2, n3, ZnW, hE, ca, cb, g]
  exact Bt.dropB _ hh rfl
 have cm' := eq_true cm
 by_cases gab : J36 la nw
 case neg =>
  have g := eq_false gab
  have hE : apE la va da nw kp vb db = 9 := by unfold apE; rw [if_neg (not_not_intro ca), if_neg (not_not_intro cb), if_neg (not_not_intro cm), if_pos gab]
  simp only [YGO, Jyg, X5g, zLK, QXB, simprocAttr, CO.tmps, Opd.tmps, optT, Nat.reducePow, Nat.reduceDiv, Nat.reduceMod, f1, f2, f3, f4, f5, f6, f7, QOg, Jzf, qfh, Z2L, zmJ, QhY, ZuH, rCl, rClB, KNf, Yb9, Qzv, JwT, XeO hh, QU9 hz, QLc hz, zkD hz, ne_eq, not_false_eq_true, not_true_eq_false, decide_true, decide_false, zwU, beq_self_eq_true, and_self, eq_self, XoA, ga, gb, m1, m2, m3, m4, m5, m6, m7, n1, n2, n3, ZnW, hE, ca, cb, cm', g]
  exact Bt.dropB _ hh rfl
 have g := eq_true gab
 have ra := Koi.1 ca
 have nb := JZA cb
 have kr := qcK ra.nf.rg nb.rg
 have kl := ZWS ra.nf nb
 have kv := (Qld ra.nf nb).rg.1
 have u1 := Qt2 (l := la) (v := va) (ds := da) (nw := nw) (kp := kp) (v' := vb) (ds' := db)
 have e3 : fmO (YJO va vb 16) (da ++ db) = QRp va vb da db := rfl
 have e2 : (fmR (YJO va vb 16) (layR (da ++ db))).2 = (QRp va vb da db).2 := rfl
 have e1 := fun (L : List AB) (k : Nat) (hL : ownC L k = some (intR.cells (fmR (YJO va vb 16) (layR (da ++ db))).1)) => XtT (h := h) kr L k hL
 rw [e3] at e1
 have o0 : (QRp va vb da db).2.length ≤ 4096 := by omega
 have o1 := eq_true o0
 have o2 : ((QRp va vb da db).1.length ≤ 1000000) = True := eq_true (by omega)
 have o3 : ((QRp va vb da db).2.length ≤ 1000000) = True := eq_true (by omega)
 have o4 : ((chL la va da nw kp vb db).length ≤ 1000000) = True := eq_true (by omega)
 have hE : apE la va da nw kp vb db = 0 := by unfold apE; rw [if_neg (not_not_intro ca), if_neg (not_not_intro cb), if_neg (not_not_intro cm), if_neg (not_not_intro gab), if_neg (not_not_intro o0)]
 simp only [YGO, Jyg, X5g, zLK, QXB, simprocAttr, CO.tmps, Opd.tmps, optT, Nat.reducePow, Nat.reduceDiv, Nat.reduceMod, f1, f2, f3, f4, f5, f6, f7, QOg, Jzf, qfh, Z2L, zmJ, QhY, ZuH, rCl, rClB, KNf, Yb9, Qzv, JwT, XeO hh, QU9 hz, QLc hz, zkD hz, ne_eq, not_false_eq_true, not_true_eq_false, decide_true, decide_false, zwU, beq_self_eq_true, and_self, eq_self, XoA, ga, gb, m1, m2, m3, m4, m5, m6, m7, n1, n2, n3, ZnW, hE, ca, cb, cm', g, e1, e2, e3, o1, o2, o3, o4]
 exact Bt.dropB _ hh rfl
end Go.Proofs.YtfaccliekejngaaGreat
end
