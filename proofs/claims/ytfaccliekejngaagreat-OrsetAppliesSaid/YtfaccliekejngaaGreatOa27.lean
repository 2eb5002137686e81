/- Part 27 of what the laws' proofs rest on. No condition. -/
import Derived.Test.YtfaccliekejngaaGreatOa26
set_option linter.all false
section
namespace Go.Proofs.YtfaccliekejngaaGreat
set_option maxRecDepth 100000
set_option maxHeartbeats 8000000
noncomputable def Ksr : List AV → List AB → Option (AV × List AB)
 | [y, .p i 0, .p b 0], h => match QnD h i with
  | some [.f (.func 105) [] [.p j 0]] => match QnD h j with
   | some [s, t] => match QnD h b with
    | some [l] => (getH y).bind fun x => (getS intR h s).bind fun v => (getS dotR h t).bind fun ds => (getS dotR h l).bind fun ks => some (.b (decide (¬ (X74 v ds = 0 ∧ q2o v ds x.1) ∨ x.1 ∈ ks)), h)
    | _ => none
   | _ => none
  | _ => none
 | _, _ => none
theorem X23 : Spec Tryz.prog 89 Ksr := by
 intro args h v h' e
 unfold Ksr at e
 split at e
 ·rename_i y i b
  split at e
  ·rename_i j b1
   split at e
   ·rename_i s t b2
    split at e
    ·rename_i l b3
     obtain ⟨x, hx, e2⟩ := XpI e
     clear e
     subst hx
     obtain ⟨vs, hs, e3⟩ := KsT e2
     obtain ⟨ds, ht, e4⟩ := KsT e3
     obtain ⟨ks, hl, e5⟩ := KsT e4
     cases e5
     refine FnAt.c (FnAt.run (by kernel_rfl) (T := ⟨[⟨105, ZWy, fun _ => []⟩, ⟨90, ZEd, fun _ => []⟩], []⟩) ⟨⟨KBW, YkF, trivial⟩, trivial⟩ Tryz.func89 sw89 fun ho hh => ?_)
     have g1 := zcl b1
     have g2 := zcl b2
     have g3 := zcl b3
     have k1 : ∀ x, getS intR (h ++ x) s = some vs := fun x => (hs.app x).get
     have k2 : ∀ x, getS dotR (h ++ x) t = some ds := fun x => (ht.app x).get
     have k3 : ∀ x, getS dotR (h ++ x) l = some ks := fun x => (hl.app x).get
     have kd : ∀ z : Hd, (qdS.f z).take 2 = [.i .i64 z.1.1, .i .i64 z.1.2] := fun _ => rfl
     unfold w89
     by_cases q : X74 vs ds = 0 ∧ q2o vs ds x.1
     ·have q1 := eq_true q
      simp only [YGO, Jyg, X5g, zLK, QXB, if_true, if_false, ↓reduceIte, Nat.reduceAdd, Nat.reduceSub, Nat.reduceLeDiff, Nat.reduceEqDiff, Nat.reduceMul, Nat.reduceLT, Int.reduceLT, Int.reduceLE, Int.reduceEq, CO.tmps, Opd.tmps, optT, Nat.reducePow, Nat.reduceDiv, Nat.reduceMod, g1, g2, g3, k1, k2, k3, kd, ZWy, ZEd, qwM, q1, qPx, QwN, ZyM, Y0j, XIy, Q7f]
      exact Bt.dropB _ hh rfl
     ·have q1 := eq_false q
      simp only [YGO, Jyg, X5g, zLK, QXB, if_true, if_false, ↓reduceIte, Nat.reduceAdd, Nat.reduceSub, Nat.reduceLeDiff, Nat.reduceEqDiff, Nat.reduceMul, Nat.reduceLT, Int.reduceLT, Int.reduceLE, Int.reduceEq, CO.tmps, Opd.tmps, optT, Nat.reducePow, Nat.reduceDiv, Nat.reduceMod, g1, g2, g3, k1, k2, k3, kd, ZWy, ZEd, qwM, q1, qPx, QwN, ZyM, Y0j, XIy, Q7f]
      exact Bt.dropB _ hh rfl
    ·cases e
   ·cases e
  ·cases e
 ·cases e
open Classical in
noncomputable def zEf (ks : Dots) (v' : List Int) (ds' : Dots) (l : List Hd) : List Hd := l.filter fun x => decide (¬ (X74 v' ds' = 0 ∧ q2o v' ds' x.1) ∨ x.1 ∈ ks)
theorem JX3 (ks : Dots) (v' : List Int) (ds' : Dots) {l : List Hd} {i : Nat} (h : i < l.length) : zEf ks v' ds' (l.take (i + 1)) = zEf ks v' ds' (l.take i) ++ (if ¬ (X74 v' ds' = 0 ∧ q2o v' ds' (l.getD i qdS.d).1) ∨ (l.getD i qdS.d).1 ∈ ks then [l.getD i qdS.d] else []) := by
 unfold zEf
 rw [List.take_succ_eq_append_getElem h, List.filter_append, List.getD_eq_getElem?_getD, List.getElem?_eq_getElem h]
 simp only [Option.getD_some, List.filter_cons, List.filter_nil, decide_eq_true_eq]
theorem JJc (ks : Dots) (v' : List Int) (ds' : Dots) (l : List Hd) (i : Nat) : (zEf ks v' ds' (l.take i)).length ≤ i := by
 unfold zEf
 exact Nat.le_trans (List.length_filter_le _ _) (by rw [List.length_take]; omega)
theorem ZGr {l nw : List Hd} {v v' : List Int} {ds ds' kp : Dots} (a : RG l v ds) (c : X74 v' ds' = 0) : QBb cfH (zEf (nw.map (·.1) ++ kp) v' ds' l ++ outL v ds nw) = chL l v ds nw kp v' ds' := by
 have e : zEf (nw.map (·.1) ++ kp) v' ds' l ++ outL v ds nw = chU l v ds nw kp v' ds' := by
  unfold chU
  rw [QJE a.nf a.len]
  congr 1
  unfold zEf
  refine List.filter_congr fun x hx => decide_eq_decide.2 ?_
  rw [YCI (JZA c).rg, and_iff_right c, List.mem_append, List.mem_map]
  constructor
  ·rintro (q | q | q)
   ·exact .inr (.inr q)
   ·exact .inl q
   ·exact .inr (.inl q)
  ·rintro (q | q | q)
   ·exact .inr (.inl q)
   ·exact .inr (.inr q)
   ·exact .inl q
 rw [e]
 rfl
noncomputable def apE (hs : List Hd) (v : List Int) (ds : Dots) (nw : List Hd) (kp : Dots) (v' : List Int) (ds' : Dots) : Int :=
 if QjU hs v ds ≠ 0 then QjU hs v ds else if X74 v' ds' ≠ 0 then X74 v' ds' else if ¬ mayP nw kp v' ds' then 2 else if ¬ J36 hs nw then 9 else if ¬ (QRp v v' ds ds').2.length ≤ 4096 then 10 else 0
noncomputable def QhY : List AV → List AB → Option (AV × List AB)
 | [.ag [l, s, t], .ag [n, k, s', t']], h => (getS qdS h l).bind fun hs => (getS intR h s).bind fun v => (getS dotR h t).bind fun ds => (getS qdS h n).bind fun nw => (getS dotR h k).bind fun kp => (getS intR h s').bind fun v' => (getS dotR h t').bind fun ds' =>
   if (hs.length ≤ 10000 ∧ nw.length ≤ 10000 ∧ kp.length ≤ 10000) ∧ t.capOk = true ∧ t'.capOk = true then
    if apE hs v ds nw kp v' ds' ≠ 0 then some (.tu [.ag [.ns, .ns, .ns], .i .i64 (apE hs v ds nw kp v' ds')], h)
    else some (.tu [.ag [rsl qdS h.length (chL hs v ds nw kp v' ds'), rsl intR (h.length + 1) (QRp v v' ds ds').1, rsl dotR (h.length + 2) (QRp v v' ds ds').2], .i .i64 0], h ++ [resB qdS true (chL hs v ds nw kp v' ds'), resB intR true (QRp v v' ds ds').1, resB dotR true (QRp v v' ds ds').2])
   else none
 | _, _ => none
theorem qmG {h : List AB} (hz : h.map AB.freeze = h) {l s t n k s' t' : AV} {hs nw : List Hd} {kp : Dots} {xs xs' : List Int} {ds ds' : Dots} (hl : Rd qdS h l hs) (hv : Rd intR h s xs) (hd : Rd dotR h t ds) (hn : Rd qdS h n nw) (hkp : Rd dotR h k kp) (hv' : Rd intR h s' xs') (hd' : Rd dotR h t' ds') (hL : hs.length ≤ 10000 ∧ nw.length ≤ 10000 ∧ kp.length ≤ 10000) (k1 : t.capOk = true) (k2 : t'.capOk = true) (v : AV) (h' : List AB) (e : QhY [.ag [l, s, t], .ag [n, k, s', t']] h = some (v, h')) :
  FnAt Tryz.prog 38 [.ag [l, s, t], .ag [n, k, s', t']] h v h' := by
 simp only [QhY, hl.get, hv.get, hd.get, hn.get, hkp.get, hv'.get, hd'.get, Option.bind_some] at e
 rw [if_pos ⟨hL, k1, k2⟩] at e
 refine FnAt.run (by kernel_rfl) (T := ⟨[⟨31, QJG, fun _ => []⟩, ⟨47, qfB X74, fun _ => []⟩, ⟨88, KfS, fun _ => []⟩, ⟨85, XJg, fun _ => []⟩, ⟨53, JJM, fun _ => []⟩, ⟨54, qLk, fun _ => []⟩, ⟨55, T_un, fun _ => []⟩, ⟨89, Ksr, fun _ => []⟩, ⟨105, ZWy, fun _ => []⟩, ⟨58, Ktn, wsS⟩], []⟩) ⟨⟨JLs, Zjf, JpO, KKO, zID, Z5v, Q0s, X23, KBW, XaA, trivial⟩, trivial⟩ Tryz.func38 sw38 fun ho hh => ?_
 simp only [znG, Z4M, Bool.and_eq_true] at ho
 have f1 := hl.fx ho.1.1 (sz := 34) rfl
 have f2 := hv.fx ho.1.2.1 (sz := 1) rfl
 have f3 := hd.fx ho.1.2.2.1 (sz := 2) rfl
 have f4 := hn.fx ho.2.1.1 (sz := 34) rfl
 have f5 := hkp.fx ho.2.1.2.1 (sz := 2) rfl
 have f6 := hv'.fx ho.2.1.2.2.1 (sz := 1) rfl
 have f7 := hd'.fx ho.2.1.2.2.2.1 (sz := 2) rfl
 have u2 := hkp.src (sz := 2) rfl
 have hL1 : (hs.length ≤ 1000000) = True := eq_true (by omega)
 have hL2 : (nw.length ≤ 1000000) = True := eq_true (by omega)
 have up : ∀ (t : AV), t.ok (fun i => decide (i < h.length)) = true → ∀ c, t.ok (fun i => decide (i < h.length + c)) = true := fun t ht c => AV.ok_mono (fun i q => by simp only [decide_eq_true_eq] at q ⊢; omega) t ht
 have rn : ∀ (t : AV), t.ok (fun i => decide (i < h.length)) = true → ∀ sel, Wk (t.ren (selN h.length sel)) t := fun t ht sel => Wk.ren (fun i hi => Xzs hi) ht
 have fo := fun c => And.intro (up l ho.1.1 c) (And.intro (up s ho.1.2.1 c) (And.intro (up t ho.1.2.2.1 c) (And.intro (up n ho.2.1.1 c) (And.intro (up k ho.2.1.2.1 c) (And.intro (up s' ho.2.1.2.2.1 c) (up t' ho.2.1.2.2.2.1 c))))))
 have fr := fun sel => And.intro (rn l ho.1.1 sel) (And.intro (rn s ho.1.2.1 sel) (And.intro (rn t ho.1.2.2.1 sel) (And.intro (rn n ho.2.1.1 sel) (And.intro (rn k ho.2.1.2.1 sel) (And.intro (rn s' ho.2.1.2.2.1 sel) (rn t' ho.2.1.2.2.2.1 sel))))))
 have zw01 : IntKind.i64.wrap ((0 : Int) + 1) = 1 := by decide
 have zw12 : IntKind.i64.wrap ((1 : Int) + 1) = 2 := by decide
 have nfo : AV.nf.one = true := rfl
 unfold w38
 by_cases c0 : QjU hs xs ds = 0
 case neg =>
  have c0' := eq_false c0
  have hE : apE hs xs ds nw kp xs' ds' = QjU hs xs ds := by unfold apE; rw [if_pos c0]
  rw [hE, if_pos c0] at e
  cases e
  simp only [YGO, Jyg, X5g, zLK, QXB, if_true, if_false, ↓reduceIte, Nat.reduceAdd, Nat.reduceSub, Nat.reduceLeDiff, Nat.reduceEqDiff, Nat.reduceMul, Nat.reduceLT, Int.reduceLT, Int.reduceLE, Int.reduceEq, CO.tmps, Opd.tmps, optT, Nat.reducePow, Nat.reduceDiv, Nat.reduceMod, f1, f2, f3, f4, f5, f6, f7, QJG, c0', hL1, k1, k2, ne_eq, not_false_eq_true, not_true_eq_false, decide_true, decide_false]
  exact Bt.drop _ hh rfl (by simp only [QTF, znG, J2K, Z4M, XzQ, ok_i, Bool.and_true])
 by_cases c1 : X74 xs' ds' = 0
 case neg =>
  have c1' := eq_false c1
  have hE : apE hs xs ds nw kp xs' ds' = X74 xs' ds' := by unfold apE; rw [if_neg (not_not_intro c0), if_pos c1]
  rw [hE, if_pos c1] at e
  cases e
  simp only [YGO, Jyg, X5g, zLK, QXB, if_true, if_false, ↓reduceIte, Nat.reduceAdd, Nat.reduceSub, Nat.reduceLeDiff, Nat.reduceEqDiff, Nat.reduceMul, Nat.reduceLT, Int.reduceLT, Int.reduceLE, Int.reduceEq, CO.tmps, Opd.tmps, optT, Nat.reducePow, Nat.reduceDiv, Nat.reduceMod, f1, f2, f3, f4, f5, f6, f7, QJG, qfB, c0, c1', hL1, k1, k2, ne_eq, not_false_eq_true, not_true_eq_false, decide_true, decide_false]
  exact Bt.drop _ hh rfl (by simp only [QTF, znG, J2K, Z4M, XzQ, ok_i, Bool.and_true])
 by_cases c2 : mayP nw kp xs' ds'
 case neg =>
  have c2' := eq_false c2
  have hE : apE hs xs ds nw kp xs' ds' = 2 := by unfold apE; rw [if_neg (not_not_intro c0), if_neg (not_not_intro c1), if_pos c2]
  rw [hE, if_pos (by decide)] at e
  cases e
  simp only [YGO, Jyg, X5g, zLK, QXB, if_true, if_false, ↓reduceIte, Nat.reduceAdd, Nat.reduceSub, Nat.reduceLeDiff, Nat.reduceEqDiff, Nat.reduceMul, Nat.reduceLT, Int.reduceLT, Int.reduceLE, Int.reduceEq, CO.tmps, Opd.tmps, optT, Nat.reducePow, Nat.reduceDiv, Nat.reduceMod, f1, f2, f3, f4, f5, f6, f7, QJG, qfB, KfS, hL2, c0, c1, c2', hL1, k1, k2, ne_eq, not_false_eq_true, not_true_eq_false, decide_true, decide_false]
  exact Bt.drop _ hh rfl (by simp only [QTF, znG, J2K, Z4M, XzQ, ok_i, Bool.and_true])
 have c2' := eq_true c2
 by_cases c3 : J36 hs nw
 case neg =>
  have c3' := eq_false c3
  have hE : apE hs xs ds nw kp xs' ds' = 9 := by unfold apE; rw [if_neg (not_not_intro c0), if_neg (not_not_intro c1), if_neg (not_not_intro c2), if_pos c3]
  rw [hE, if_pos (by decide)] at e
  cases e
  simp only [YGO, Jyg, X5g, zLK, QXB, if_true, if_false, ↓reduceIte, Nat.reduceAdd, Nat.reduceSub, Nat.reduceLeDiff, Nat.reduceEqDiff, Nat.reduceMul, Nat.reduceLT, Int.reduceLT, Int.reduceLE, Int.reduceEq, CO.tmps, Opd.tmps, optT, Nat.reducePow, Nat.reduceDiv, Nat.reduceMod, f1, f2, f3, f4, f5, f6, f7, QJG, qfB, KfS, JJM, hL2, c0, c1, c2', c3', hL1, k1, k2, ne_eq, not_false_eq_true, not_true_eq_false, decide_true, decide_false]
  exact Bt.drop _ hh rfl (by simp only [QTF, znG, J2K, Z4M, XzQ, ok_i, Bool.and_true])
 have c3' := eq_true c3
 have ra := Koi.1 c0
 have cs := ra.nf.check ra.len
 by_cases c4 : (QRp xs xs' ds ds').2.length ≤ 4096
 case neg =>
  have c4' := eq_false c4
  have hE : apE hs xs ds nw kp xs' ds' = 10 := by unfold apE; rw [if_neg (not_not_intro c0), if_neg (not_not_intro c1), if_neg (not_not_intro c2), if_neg (not_not_intro c3), if_pos c4]
  rw [hE, if_pos (by decide)] at e
  cases e
  simp only [YGO, Jyg, X5g, zLK, QXB, if_true, if_false, ↓reduceIte, Nat.reduceAdd, Nat.reduceSub, Nat.reduceLeDiff, Nat.reduceEqDiff, Nat.reduceMul, Nat.reduceLT, Int.reduceLT, Int.reduceLE, Int.reduceEq, CO.tmps, Opd.tmps, optT, Nat.reducePow, Nat.reduceDiv, Nat.reduceMod, f1, f2, f3, f4, f5, f6, f7, QJG, qfB, KfS, JJM, qLk, hL2, c0, c1, cs, c2', c3', c4', hL1, k1, k2, ne_eq, not_false_eq_true, not_true_eq_false, decide_true, decide_false]
  exact Bt.drop _ hh rfl (by simp only [QTF, znG, J2K, Z4M, XzQ, ok_i, Bool.and_true])
 have c4' := eq_true c4
 have hE : apE hs xs ds nw kp xs' ds' = 0 := by unfold apE; rw [if_neg (not_not_intro c0), if_neg (not_not_intro c1), if_neg (not_not_intro c2), if_neg (not_not_intro c3), if_neg (not_not_intro c4)]
 rw [hE, if_neg (not_not_intro rfl)] at e
 cases e
 simp only [YGO, Jyg, X5g, zLK, QXB, if_true, if_false, ↓reduceIte, Nat.reduceAdd, Nat.reduceSub, Nat.reduceLeDiff, Nat.reduceEqDiff, Nat.reduceMul, Nat.reduceLT, Int.reduceLT, Int.reduceLE, Int.reduceEq, CO.tmps, Opd.tmps, optT, Nat.reducePow, Nat.reduceDiv, Nat.reduceMod, f1, f2, f3, f4, f5, f6, f7, QJG, qfB, KfS, JJM, qLk, T_un, nfo, true_and, hL1, hL2, c0, c1, cs, c2', c3', c4', k1, k2, hv'.isSl, hd'.isSl, ne_eq, not_false_eq_true, not_true_eq_false, decide_true, decide_false]
 generalize hJ : QRp xs xs' ds ds' = J at *
 obtain ⟨jv, jd⟩ := J
 dsimp only at *
 have hch := ZGr (nw := nw) (kp := kp) ra c1
 obtain ⟨A, hA⟩ : ∃ A, A = nw.map (·.1) := ⟨_, rfl⟩
 have lA : A.length = nw.length := by rw [hA, List.length_map]
 rw [← hA] at hch
 obtain ⟨KL, hKL⟩ : ∃ KL, KL = A ++ kp := ⟨_, rfl⟩
 rw [← hKL] at hch
 have lKL : KL.length ≤ 100000 := by rw [hKL, List.length_append, lA]; omega
 have of1 : ∀ L, XJg [n] (h ++ L) = some (apS dotR (h.length + L.length) A, h ++ (L ++ [resB dotR true A])) := fun L => by
  simp only [XJg, (hn.app L).get, Option.bind_some, ← hA]
  rw [if_pos (by omega), List.length_append, List.append_assoc]
 have gk : ∀ L, ownM dotR KL L 8 → getS dotR (h ++ L) (apS dotR (h.length + 8) KL) = some KL := fun L hb => Ztw KL L 8 (by rw [z0m]; exact JOK KL L 8 hb) (by unfold maxLen; omega)
 have ak := fun (n : Nat) => And.intro (YE7 (r := dotR) (fun i => decide (i < n + 13)) (n + 8) KL (by simp)) (And.intro (YE7 (r := dotR) (fun i => decide (i < n + 12)) (n + 8) KL (by simp)) (YE7 (r := dotR) (fun i => decide (i < n + 11)) (n + 8) KL (by simp)))
 have ao := fun (n : Nat) (L : List Hd) => And.intro (YE7 (r := qdS) (fun i => decide (i < n + 13)) (n + 11) L (by simp)) (YE7 (r := qdS) (fun i => decide (i < n + 12)) (n + 11) L (by simp))
 have apW : ∀ (n : Nat) (L : List Hd), Wk (rsl qdS n L) (apS qdS n L) = True := fun n L => eq_true (Krb n L)
 have wg2 : ∀ sel (F0 F1 : AV), Wk (.ag [l.ren (selN h.length sel), F0, n.ren (selN h.length sel), F1]) (.ag [l, F0, n, F1]) = True := fun sel F0 F1 => eq_true (Xee ⟨rn l ho.1.1 sel, Wk.refl _, rn n ho.2.1.1 sel, Wk.refl _, trivial⟩)
 have hm : ∃ Lm : Nat → List Hd, Lm 0 = [] ∧ Lm 1 = zEf KL xs' ds' hs ∧ Lm 2 = zEf KL xs' ds' hs ++ outL xs ds nw := ⟨fun n => if n = 0 then [] else if n = 1 then zEf KL xs' ds' hs else zEf KL xs' ds' hs ++ outL xs ds nw, rfl, rfl, rfl⟩
 obtain ⟨Lm, m0, m1, m2⟩ := hm
 have hS : ∃ Sm : Nat → AV, Sm 0 = .ns ∧ Sm 1 = apS qdS (h.length + 11) (zEf KL xs' ds' hs) ∧ Sm 2 = rsl qdS (h.length + 11) (zEf KL xs' ds' hs ++ outL xs ds nw) := ⟨fun n => if n = 0 then .ns else if n = 1 then apS qdS (h.length + 11) (zEf KL xs' ds' hs) else rsl qdS (h.length + 11) (zEf KL xs' ds' hs ++ outL xs ds nw), rfl, rfl, rfl⟩
 obtain ⟨Sm, S0, S1, S2⟩ := hS
 by_cases hk0 : kp = [] <;> by_cases hA0 : A = []
 have hKL0 : KL = [] := by rw [hKL, hA0, hk0]; rfl
 have ap0 : ∀ H, appW H true 2 16 .ns 0 [] = some (.ns, H) := fun H => rfl
 rw [hk0] at u2 f5
 simp only [X5g, zLK, QXB, if_true, if_false, ↓reduceIte, Nat.reduceAdd, Nat.reduceSub, Nat.reduceLeDiff, Nat.reduceEqDiff, Nat.reduceMul, Nat.reduceLT, Int.reduceLT, Int.reduceLE, Int.reduceEq, CO.tmps, Opd.tmps, optT, Nat.reducePow, Nat.reduceDiv, Nat.reduceMod, f1, f2, f3, f4, f5, f6, f7, u2, of1, T_un, nfo, true_and, hA0, qZR, ap0, List.length_nil, qIx, hl.isSl, hv.isSl, hd.isSl, hn.isSl, hv'.isSl, hd'.isSl, XeO hh, QU9 hz, QLc hz, zkD hz]
 refine JEe (S := Nat) (fun i => 2 - i) (fun i => tp 4 ++ [.p (h.length + 2) 0] ++ tp 3 ++ [.p (h.length + 5) 0] ++ tp 4 ++ [Sm i] ++ tp 61 ++ [.ag [l, (.f (.func 89) [] [.p (h.length + 7) 0, .p (h.length + 9) 0]), n, (.f (.func 105) [] [.p (h.length + 10) 0])], .i .i64 i] ++ tp 23) (fun i => h ++ [.blk false true [l, s, t], .blk false true [n, k, s', t'], .blk false true [.ns, .ns, .ns], resB intR true jv, resB dotR true jd, .blk false true [rsl intR (h.length + 3) jv, rsl dotR (h.length + 4) jd], .blk false true [s', t'], .blk false true [.f (.func 105) [] [.p (h.length + 6) 0]], resB dotR true KL, .blk false true [apS dotR (h.length + 8) KL], .blk false true [s, t], resB qdS true (Lm i)]) (fun i => i ≤ 2) 0 (by decide) ?_ fun i hi => ?_
 ·dsimp only
  rw [m0, S0]
  show Bt _ _ _ _ _ (h ++ ([.blk false true [l, s, t], .blk false true [n, k, s', t'], .blk false true [.ns, .ns, .ns], resB intR true jv, resB dotR true jd, .blk false true [rsl intR (h.length + 3) jv, rsl dotR (h.length + 4) jd], .blk false true [s', t'], .blk false true [.f (.func 105) [] [.p (h.length + 6) 0]], resB dotR true KL, .blk false true [apS dotR (h.length + 8) KL], .blk false true [s, t]] ++ List.replicate 1 .dead))
  rw [← List.append_assoc]
  refine Bt.trans ?_ (Bt.pad _ _ 1)
  simp only [hKL0, qZR, zvk]
  simp only [tp, YGO, Jyg, List.cons_append, List.nil_append, Int.natCast_zero]
  exact Bt.sel [0, 1, 2, 3, 4, 5, 6, 7, 8, 9, 10] hh (by decide) (by simp only [Zy2, FrSel, BlkSel, AV.ren, renL, AV.ok, okL, Option.some.injEq, exists_eq_left', List.length_cons, List.length_nil, Nat.reduceAdd, Nat.reduceLT, reduceCtorEq, implies_true, exists_eq', fo, fr, ak]) (by simp only [Zy2, FrSel, BlkSel, AV.ren, renL, AV.ok, okL, Option.some.injEq, exists_eq_left', List.length_cons, List.length_nil, Nat.reduceAdd, Nat.reduceLT, reduceCtorEq, implies_true, exists_eq', fo, fr, wg2, ak])
 rotate_left 1
 have hAn : A.length ≠ 0 := fun q => hA0 (List.eq_nil_of_length_eq_zero q)
 have gr : ∀ id, apS dotR id A = rsl dotR id A := fun id => Y8V _ hAn
 have eK : ∀ id, rsl dotR id A = apS dotR id KL := fun id => by rw [hKL, hk0, List.append_nil, gr]
 have eB : resB dotR true A = resB dotR true KL := by rw [hKL, hk0, List.append_nil]
 have ap0 : ∀ H id, appW H true 2 16 (rsl dotR id A) 0 [] = some (rsl dotR id A, H) := fun H id => by unfold rsl; split <;> rfl
 rw [hk0] at u2 f5
 simp only [X5g, zLK, QXB, if_true, if_false, ↓reduceIte, Nat.reduceAdd, Nat.reduceSub, Nat.reduceLeDiff, Nat.reduceEqDiff, Nat.reduceMul, Nat.reduceLT, Int.reduceLT, Int.reduceLE, Int.reduceEq, CO.tmps, Opd.tmps, optT, Nat.reducePow, Nat.reduceDiv, Nat.reduceMod, f1, f2, f3, f4, f5, f6, f7, u2, of1, T_un, nfo, true_and, gr, ap0, List.length_nil, qIx, hl.isSl, hv.isSl, hd.isSl, hn.isSl, hv'.isSl, hd'.isSl, XeO hh, QU9 hz, QLc hz, zkD hz]
 refine JEe (S := Nat) (fun i => 2 - i) (fun i => tp 4 ++ [.p (h.length + 2) 0] ++ tp 3 ++ [.p (h.length + 5) 0] ++ tp 4 ++ [Sm i] ++ tp 61 ++ [.ag [l, (.f (.func 89) [] [.p (h.length + 7) 0, .p (h.length + 9) 0]), n, (.f (.func 105) [] [.p (h.length + 10) 0])], .i .i64 i] ++ tp 23) (fun i => h ++ [.blk false true [l, s, t], .blk false true [n, k, s', t'], .blk false true [.ns, .ns, .ns], resB intR true jv, resB dotR true jd, .blk false true [rsl intR (h.length + 3) jv, rsl dotR (h.length + 4) jd], .blk false true [s', t'], .blk false true [.f (.func 105) [] [.p (h.length + 6) 0]], resB dotR true KL, .blk false true [apS dotR (h.length + 8) KL], .blk false true [s, t], resB qdS true (Lm i)]) (fun i => i ≤ 2) 0 (by decide) ?_ fun i hi => ?_
 ·dsimp only
  rw [m0, S0]
  show Bt _ _ _ _ _ (h ++ ([.blk false true [l, s, t], .blk false true [n, k, s', t'], .blk false true [.ns, .ns, .ns], resB intR true jv, resB dotR true jd, .blk false true [rsl intR (h.length + 3) jv, rsl dotR (h.length + 4) jd], .blk false true [s', t'], .blk false true [.f (.func 105) [] [.p (h.length + 6) 0]], resB dotR true KL, .blk false true [apS dotR (h.length + 8) KL], .blk false true [s, t]] ++ List.replicate 1 .dead))
  rw [← List.append_assoc]
  refine Bt.trans ?_ (Bt.pad _ _ 1)
  simp only [eK, eB]
  simp only [tp, YGO, Jyg, List.cons_append, List.nil_append, Int.natCast_zero]
  exact Bt.sel [0, 1, 2, 3, 4, 5, 6, 7, 8, 9, 10] hh (by decide) (by simp only [Zy2, FrSel, BlkSel, AV.ren, renL, AV.ok, okL, Option.some.injEq, exists_eq_left', List.length_cons, List.length_nil, Nat.reduceAdd, Nat.reduceLT, reduceCtorEq, implies_true, exists_eq', fo, fr, ak]) (by simp only [Zy2, FrSel, BlkSel, AV.ren, renL, AV.ok, okL, Option.some.injEq, exists_eq_left', List.length_cons, List.length_nil, Nat.reduceAdd, Nat.reduceLT, reduceCtorEq, implies_true, exists_eq', fo, fr, wg2, ak])
 rotate_left 1
 have hkn : kp.length ≠ 0 := fun q => hk0 (List.eq_nil_of_length_eq_zero q)
 have hKk : KL = kp := by rw [hKL, hA0]; rfl
 have eK : ∀ id, AV.sl id 0 kp.length kp.length (some 2) = apS dotR id KL := fun id => by rw [hKk, Y8V _ hkn, K50 _ hkn]; rfl
 have eB : AB.blk true true (dotR.cells kp) = resB dotR true KL := by rw [hKk, ZVr _ hkn]
 have zk := eq_false hkn
 have zm : (kp.length * 16 ≤ 140737488355328 ∧ kp.length ≤ maxLen) = True := eq_true ⟨by omega, by unfold maxLen; omega⟩
 simp only [X5g, zLK, QXB, if_true, if_false, ↓reduceIte, Nat.reduceAdd, Nat.reduceSub, Nat.reduceLeDiff, Nat.reduceEqDiff, Nat.reduceMul, Nat.reduceLT, Int.reduceLT, Int.reduceLE, Int.reduceEq, CO.tmps, Opd.tmps, optT, Nat.reducePow, Nat.reduceDiv, Nat.reduceMod, f1, f2, f3, f4, f5, f6, f7, u2, of1, T_un, nfo, true_and, hA0, qZR, zk, zm, hl.isSl, hv.isSl, hd.isSl, hn.isSl, hv'.isSl, hd'.isSl, XeO hh, QU9 hz, QLc hz, zkD hz]
 refine JEe (S := Nat) (fun i => 2 - i) (fun i => tp 4 ++ [.p (h.length + 2) 0] ++ tp 3 ++ [.p (h.length + 5) 0] ++ tp 4 ++ [Sm i] ++ tp 61 ++ [.ag [l, (.f (.func 89) [] [.p (h.length + 7) 0, .p (h.length + 9) 0]), n, (.f (.func 105) [] [.p (h.length + 10) 0])], .i .i64 i] ++ tp 23) (fun i => h ++ [.blk false true [l, s, t], .blk false true [n, k, s', t'], .blk false true [.ns, .ns, .ns], resB intR true jv, resB dotR true jd, .blk false true [rsl intR (h.length + 3) jv, rsl dotR (h.length + 4) jd], .blk false true [s', t'], .blk false true [.f (.func 105) [] [.p (h.length + 6) 0]], resB dotR true KL, .blk false true [apS dotR (h.length + 8) KL], .blk false true [s, t], resB qdS true (Lm i)]) (fun i => i ≤ 2) 0 (by decide) ?_ fun i hi => ?_
 ·dsimp only
  rw [m0, S0]
  show Bt _ _ _ _ _ (h ++ ([.blk false true [l, s, t], .blk false true [n, k, s', t'], .blk false true [.ns, .ns, .ns], resB intR true jv, resB dotR true jd, .blk false true [rsl intR (h.length + 3) jv, rsl dotR (h.length + 4) jd], .blk false true [s', t'], .blk false true [.f (.func 105) [] [.p (h.length + 6) 0]], resB dotR true KL, .blk false true [apS dotR (h.length + 8) KL], .blk false true [s, t]] ++ List.replicate 1 .dead))
  rw [← List.append_assoc]
  refine Bt.trans ?_ (Bt.pad _ _ 1)
  simp only [eK, eB]
  simp only [tp, YGO, Jyg, List.cons_append, List.nil_append, Int.natCast_zero]
  exact Bt.sel [0, 1, 2, 3, 4, 5, 6, 7, 9, 10, 11] hh (by decide) (by simp only [Zy2, FrSel, BlkSel, AV.ren, renL, AV.ok, okL, Option.some.injEq, exists_eq_left', List.length_cons, List.length_nil, Nat.reduceAdd, Nat.reduceLT, reduceCtorEq, implies_true, exists_eq', fo, fr, ak]) (by simp only [Zy2, FrSel, BlkSel, AV.ren, renL, AV.ok, okL, Option.some.injEq, exists_eq_left', List.length_cons, List.length_nil, Nat.reduceAdd, Nat.reduceLT, reduceCtorEq, implies_true, exists_eq', fo, fr, wg2, ak])
 rotate_left 1
 have hkn : kp.length ≠ 0 := fun q => hk0 (List.eq_nil_of_length_eq_zero q)
 have hAn : A.length ≠ 0 := fun q => hA0 (List.eq_nil_of_length_eq_zero q)
 have gr : ∀ id, apS dotR id A = rsl dotR id A := fun id => Y8V _ hAn
 have hne : KL.length ≠ 0 := by rw [hKL, List.length_append]; omega
 have eK : ∀ id, AV.sl id 0 (A.length + kp.length) (A.length + kp.length) (some 2) = apS dotR id KL := fun id => by rw [Y8V _ hne, K50 _ hne, hKL, List.length_append]; rfl
 have eB : AB.blk true true (dotR.cells A ++ dotR.cells kp) = resB dotR true KL := by rw [ZVr _ hne, hKL, YKN]
 have fa := fun L k hb => Jw1 (h := h) (p := h.length) rfl (r := dotR) (sz := 2) rfl L k A 16 kp.length (dotR.cells kp) hAn hb hkn (by omega) (by unfold maxLen; omega)
 simp only [X5g, zLK, QXB, if_true, if_false, ↓reduceIte, Nat.reduceAdd, Nat.reduceSub, Nat.reduceLeDiff, Nat.reduceEqDiff, Nat.reduceMul, Nat.reduceLT, Int.reduceLT, Int.reduceLE, Int.reduceEq, CO.tmps, Opd.tmps, optT, Nat.reducePow, Nat.reduceDiv, Nat.reduceMod, f1, f2, f3, f4, f5, f6, f7, u2, of1, T_un, nfo, true_and, gr, fa, hl.isSl, hv.isSl, hd.isSl, hn.isSl, hv'.isSl, hd'.isSl, XeO hh, QU9 hz, QLc hz, zkD hz]
 refine JEe (S := Nat) (fun i => 2 - i) (fun i => tp 4 ++ [.p (h.length + 2) 0] ++ tp 3 ++ [.p (h.length + 5) 0] ++ tp 4 ++ [Sm i] ++ tp 61 ++ [.ag [l, (.f (.func 89) [] [.p (h.length + 7) 0, .p (h.length + 9) 0]), n, (.f (.func 105) [] [.p (h.length + 10) 0])], .i .i64 i] ++ tp 23) (fun i => h ++ [.blk false true [l, s, t], .blk false true [n, k, s', t'], .blk false true [.ns, .ns, .ns], resB intR true jv, resB dotR true jd, .blk false true [rsl intR (h.length + 3) jv, rsl dotR (h.length + 4) jd], .blk false true [s', t'], .blk false true [.f (.func 105) [] [.p (h.length + 6) 0]], resB dotR true KL, .blk false true [apS dotR (h.length + 8) KL], .blk false true [s, t], resB qdS true (Lm i)]) (fun i => i ≤ 2) 0 (by decide) ?_ fun i hi => ?_
 ·dsimp only
  rw [m0, S0]
  show Bt _ _ _ _ _ (h ++ ([.blk false true [l, s, t], .blk false true [n, k, s', t'], .blk false true [.ns, .ns, .ns], resB intR true jv, resB dotR true jd, .blk false true [rsl intR (h.length + 3) jv, rsl dotR (h.length + 4) jd], .blk false true [s', t'], .blk false true [.f (.func 105) [] [.p (h.length + 6) 0]], resB dotR true KL, .blk false true [apS dotR (h.length + 8) KL], .blk false true [s, t]] ++ List.replicate 1 .dead))
  rw [← List.append_assoc]
  refine Bt.trans ?_ (Bt.pad _ _ 1)
  simp only [eK, eB]
  simp only [tp, YGO, Jyg, List.cons_append, List.nil_append, Int.natCast_zero]
  exact Bt.sel [0, 1, 2, 3, 4, 5, 6, 7, 9, 10, 11] hh (by decide) (by simp only [Zy2, FrSel, BlkSel, AV.ren, renL, AV.ok, okL, Option.some.injEq, exists_eq_left', List.length_cons, List.length_nil, Nat.reduceAdd, Nat.reduceLT, reduceCtorEq, implies_true, exists_eq', fo, fr, ak]) (by simp only [Zy2, FrSel, BlkSel, AV.ren, renL, AV.ok, okL, Option.some.injEq, exists_eq_left', List.length_cons, List.length_nil, Nat.reduceAdd, Nat.reduceLT, reduceCtorEq, implies_true, exists_eq', fo, fr, wg2, ak])
 all_goals
  have la0 := QX9 xs ds nw
  by_cases i0 : i = 0
  ·subst i0
   have zw := zw01
   have ix : ixaV 2 2 true (.ag [l, (.f (.func 89) [] [.p (h.length + 7) 0, .p (h.length + 9) 0]), n, (.f (.func 105) [] [.p (h.length + 10) 0])]) (.i .i64 0) = some (.ag [l, (.f (.func 89) [] [.p (h.length + 7) 0, .p (h.length + 9) 0])]) := rfl
   simp only [S0, m0, X5g, zLK, QXB, if_true, if_false, ↓reduceIte, Nat.reduceAdd, Nat.reduceSub, Nat.reduceLeDiff, Nat.reduceEqDiff, Nat.reduceMul, Nat.reduceLT, Int.reduceLT, Int.reduceLE, Int.reduceEq, CO.tmps, Opd.tmps, optT, Nat.reducePow, Nat.reduceDiv, Nat.reduceMod, f1, f2, f3, f4, f5, f6, f7, ZVH, ix, nfo, true_and, List.length_cons, List.length_nil]
   refine JEe (S := Nat) (fun j => hs.length - j) (fun j => tp 4 ++ [.p (h.length + 2) 0] ++ tp 3 ++ [.p (h.length + 5) 0] ++ tp 4 ++ [apS qdS (h.length + 11) (zEf KL xs' ds' (hs.take j))] ++ tp 1 ++ [.p (h.length + 12) 0] ++ tp 59 ++ [.ag [l, (.f (.func 89) [] [.p (h.length + 7) 0, .p (h.length + 9) 0]), n, (.f (.func 105) [] [.p (h.length + 10) 0])], .i .i64 0] ++ tp 3 ++ [l, .i .i64 hs.length, .i .i64 j] ++ tp 17) (fun j => h ++ [.blk false true [l, s, t], .blk false true [n, k, s', t'], .blk false true [.ns, .ns, .ns], resB intR true jv, resB dotR true jd, .blk false true [rsl intR (h.length + 3) jv, rsl dotR (h.length + 4) jd], .blk false true [s', t'], .blk false true [.f (.func 105) [] [.p (h.length + 6) 0]], resB dotR true KL, .blk false true [apS dotR (h.length + 8) KL], .blk false true [s, t], resB qdS true (zEf KL xs' ds' (hs.take j)), .blk false true [l, (.f (.func 89) [] [.p (h.length + 7) 0, .p (h.length + 9) 0])]]) (fun j => j ≤ hs.length) 0 (Nat.zero_le _) ?_ fun j hj => ?_
   ·dsimp only
    rw [show zEf KL xs' ds' (hs.take 0) = [] from rfl, qZR]
    exact Bt.wk (by simp only [X5g, QXB, if_true, if_false, reduceIte, Nat.reduceAdd, Nat.reduceSub, Nat.reduceLeDiff, Nat.reduceEqDiff, Nat.reduceMul, Nat.reduceLT, Int.reduceLT, Int.reduceLE, Int.reduceEq])
   by_cases gj : j < hs.length
   ·have gj' := eq_true gj
    have e1 : IntKind.i64.wrap ((j : Int) + 1) = ((j + 1 : Nat) : Int) := q6V (by unfold In64; omega)
    have hst := JX3 KL xs' ds' gj
    have lo := JJc KL xs' ds' hs j
    have lo2 := lo
    have lO : (zEf KL xs' ds' (hs.take j)).length ≤ 100000 := by omega
    generalize hx : hs.getD j qdS.d = x at *
    by_cases hq : ¬ (X74 xs' ds' = 0 ∧ q2o xs' ds' x.1) ∨ x.1 ∈ KL
    ·have hq' := eq_true hq
     have hst2 : zEf KL xs' ds' (hs.take (j + 1)) = (zEf KL xs' ds' (hs.take j)) ++ [x] := by rw [hst, if_pos hq]
     generalize hO : zEf KL xs' ds' (hs.take j) = O at *
     have fa := fun L k ys hb => qo2 (h := h) (p := h.length) rfl (r := qdS) (sz := 34) rfl L k O 48 1 ys hb (by decide) (by omega) (by unfold maxLen; omega)
     simp only [X5g, zLK, QXB, if_true, if_false, ↓reduceIte, Nat.reduceAdd, Nat.reduceSub, Nat.reduceLeDiff, Nat.reduceEqDiff, Nat.reduceMul, Nat.reduceLT, Int.reduceLT, Int.reduceLE, Int.reduceEq, CO.tmps, Opd.tmps, optT, Nat.reducePow, Nat.reduceDiv, Nat.reduceMod, f1, f2, f3, f4, f5, f6, f7, gj', hx, e1, Ksr, ZWy, qwM, gk, hq', fa, X9f, QwN, ZyM, Y0j, XIy, Q7f, List.length_cons, List.length_nil, ne_eq, not_false_eq_true, not_true_eq_false, decide_true, decide_false, XeO hh, QU9 hz, QLc hz, zkD hz]
     refine ⟨j + 1, gj, by dsimp only; omega, ?_⟩
     simp only [hst2, K5K, Z4W]
     exact Bt.sel [0, 1, 2, 3, 4, 5, 6, 7, 8, 9, 10, 15, 12] hh (by decide) (by simp only [Zy2, FrSel, BlkSel, AV.ren, renL, AV.ok, okL, Option.some.injEq, exists_eq_left', List.length_cons, List.length_nil, Nat.reduceAdd, Nat.reduceLT, reduceCtorEq, implies_true, exists_eq', fo, fr, ak]) (by simp only [Zy2, FrSel, BlkSel, AV.ren, renL, AV.ok, okL, Option.some.injEq, exists_eq_left', List.length_cons, List.length_nil, Nat.reduceAdd, Nat.reduceLT, reduceCtorEq, implies_true, exists_eq', fo, fr, wg2, ak, zZY])
    ·have hq' := eq_false hq
     have hst2 : zEf KL xs' ds' (hs.take (j + 1)) = (zEf KL xs' ds' (hs.take j)) := by rw [hst, if_neg hq, List.append_nil]
     simp only [X5g, zLK, QXB, if_true, if_false, ↓reduceIte, Nat.reduceAdd, Nat.reduceSub, Nat.reduceLeDiff, Nat.reduceEqDiff, Nat.reduceMul, Nat.reduceLT, Int.reduceLT, Int.reduceLE, Int.reduceEq, CO.tmps, Opd.tmps, optT, Nat.reducePow, Nat.reduceDiv, Nat.reduceMod, f1, f2, f3, f4, f5, f6, f7, gj', hx, e1, Ksr, ZWy, qwM, gk, hq', X9f, QwN, ZyM, Y0j, XIy, Q7f, List.length_cons, List.length_nil, ne_eq, not_false_eq_true, not_true_eq_false, decide_true, decide_false, XeO hh, QU9 hz, QLc hz, zkD hz]
     refine ⟨j + 1, gj, by dsimp only; omega, ?_⟩
     simp only [hst2]
     exact Bt.sel [0, 1, 2, 3, 4, 5, 6, 7, 8, 9, 10, 11, 12] hh (by decide) (by simp only [Zy2, FrSel, BlkSel, AV.ren, renL, AV.ok, okL, Option.some.injEq, exists_eq_left', List.length_cons, List.length_nil, Nat.reduceAdd, Nat.reduceLT, reduceCtorEq, implies_true, exists_eq', fo, fr, ak]) (by simp only [Zy2, FrSel, BlkSel, AV.ren, renL, AV.ok, okL, Option.some.injEq, exists_eq_left', List.length_cons, List.length_nil, Nat.reduceAdd, Nat.reduceLT, reduceCtorEq, implies_true, exists_eq', fo, fr, wg2, ak, ao, zZY])
   ·obtain rfl : j = hs.length := by omega
    have gj' := eq_false gj
    simp only [List.take_length, X5g, zLK, QXB, if_true, if_false, ↓reduceIte, Nat.reduceAdd, Nat.reduceSub, Nat.reduceLeDiff, Nat.reduceEqDiff, Nat.reduceMul, Nat.reduceLT, Int.reduceLT, Int.reduceLE, Int.reduceEq, CO.tmps, Opd.tmps, optT, Nat.reducePow, Nat.reduceDiv, Nat.reduceMod, f1, f2, f3, f4, f5, f6, f7, gj', zw]
    refine ⟨1, by decide, by decide, ?_⟩
    simp only [m1, S1, Int.natCast_one, Int.cast_ofNat_Int]
    exact Bt.sel [0, 1, 2, 3, 4, 5, 6, 7, 8, 9, 10, 11] hh (by decide) (by simp only [Zy2, FrSel, BlkSel, AV.ren, renL, AV.ok, okL, Option.some.injEq, exists_eq_left', List.length_cons, List.length_nil, Nat.reduceAdd, Nat.reduceLT, reduceCtorEq, implies_true, exists_eq', fo, fr, ak]) (by simp only [Zy2, FrSel, BlkSel, AV.ren, renL, AV.ok, okL, Option.some.injEq, exists_eq_left', List.length_cons, List.length_nil, Nat.reduceAdd, Nat.reduceLT, reduceCtorEq, implies_true, exists_eq', fo, fr, wg2, ak, ao, apW, zZY])
  by_cases i1 : i = 1
  ·subst i1
   have zw := zw12
   have ix : ixaV 2 2 true (.ag [l, (.f (.func 89) [] [.p (h.length + 7) 0, .p (h.length + 9) 0]), n, (.f (.func 105) [] [.p (h.length + 10) 0])]) (.i .i64 1) = some (.ag [n, (.f (.func 105) [] [.p (h.length + 10) 0])]) := rfl
   simp only [S1, m1, Int.natCast_one, X5g, zLK, QXB, if_true, if_false, ↓reduceIte, Nat.reduceAdd, Nat.reduceSub, Nat.reduceLeDiff, Nat.reduceEqDiff, Nat.reduceMul, Nat.reduceLT, Int.reduceLT, Int.reduceLE, Int.reduceEq, CO.tmps, Opd.tmps, optT, Nat.reducePow, Nat.reduceDiv, Nat.reduceMod, f1, f2, f3, f4, f5, f6, f7, ZVH, ix, nfo, true_and, List.length_cons, List.length_nil]
   refine JEe (S := Nat) (fun j => nw.length - j) (fun j => tp 4 ++ [.p (h.length + 2) 0] ++ tp 3 ++ [.p (h.length + 5) 0] ++ tp 4 ++ [apS qdS (h.length + 11) (zEf KL xs' ds' hs ++ outL xs ds (nw.take j))] ++ tp 1 ++ [.p (h.length + 12) 0] ++ tp 59 ++ [.ag [l, (.f (.func 89) [] [.p (h.length + 7) 0, .p (h.length + 9) 0]), n, (.f (.func 105) [] [.p (h.length + 10) 0])], .i .i64 1] ++ tp 3 ++ [n, .i .i64 nw.length, .i .i64 j] ++ tp 17) (fun j => h ++ [.blk false true [l, s, t], .blk false true [n, k, s', t'], .blk false true [.ns, .ns, .ns], resB intR true jv, resB dotR true jd, .blk false true [rsl intR (h.length + 3) jv, rsl dotR (h.length + 4) jd], .blk false true [s', t'], .blk false true [.f (.func 105) [] [.p (h.length + 6) 0]], resB dotR true KL, .blk false true [apS dotR (h.length + 8) KL], .blk false true [s, t], resB qdS true (zEf KL xs' ds' hs ++ outL xs ds (nw.take j)), .blk false true [n, (.f (.func 105) [] [.p (h.length + 10) 0])]]) (fun j => j ≤ nw.length) 0 (Nat.zero_le _) ?_ fun j hj => ?_
   ·dsimp only
    rw [show outL xs ds (nw.take 0) = [] from rfl, List.append_nil]
    exact Bt.wk (by simp only [X5g, QXB, if_true, if_false, reduceIte, Nat.reduceAdd, Nat.reduceSub, Nat.reduceLeDiff, Nat.reduceEqDiff, Nat.reduceMul, Nat.reduceLT, Int.reduceLT, Int.reduceLE, Int.reduceEq])
   by_cases gj : j < nw.length
   ·have gj' := eq_true gj
    have e1 : IntKind.i64.wrap ((j : Int) + 1) = ((j + 1 : Nat) : Int) := q6V (by unfold In64; omega)
    have hst := zmU xs ds gj
    have lo := XRv xs ds nw j
    have lo3 := JJc KL xs' ds' hs hs.length
    rw [List.take_length] at lo3
    have lO : (zEf KL xs' ds' hs ++ outL xs ds (nw.take j)).length ≤ 100000 := by rw [List.length_append]; omega
    generalize hx : nw.getD j qdS.d = x at *
    by_cases hq : ¬ (X74 xs ds = 0 ∧ q2o xs ds x.1)
    ·have hq' := eq_true hq
     have hst2 : zEf KL xs' ds' hs ++ outL xs ds (nw.take (j + 1)) = (zEf KL xs' ds' hs ++ outL xs ds (nw.take j)) ++ [x] := by rw [hst, if_pos hq, List.append_assoc]
     generalize hO : zEf KL xs' ds' hs ++ outL xs ds (nw.take j) = O at *
     have fa := fun L k ys hb => qo2 (h := h) (p := h.length) rfl (r := qdS) (sz := 34) rfl L k O 48 1 ys hb (by decide) (by omega) (by unfold maxLen; omega)
     simp only [X5g, zLK, QXB, if_true, if_false, ↓reduceIte, Nat.reduceAdd, Nat.reduceSub, Nat.reduceLeDiff, Nat.reduceEqDiff, Nat.reduceMul, Nat.reduceLT, Int.reduceLT, Int.reduceLE, Int.reduceEq, CO.tmps, Opd.tmps, optT, Nat.reducePow, Nat.reduceDiv, Nat.reduceMod, f1, f2, f3, f4, f5, f6, f7, gj', hx, e1, Ksr, ZWy, qwM, gk, hq', fa, X9f, QwN, ZyM, Y0j, XIy, Q7f, List.length_cons, List.length_nil, ne_eq, not_false_eq_true, not_true_eq_false, decide_true, decide_false, XeO hh, QU9 hz, QLc hz, zkD hz]
     refine ⟨j + 1, gj, by dsimp only; omega, ?_⟩
     simp only [hst2, K5K, Z4W]
     exact Bt.sel [0, 1, 2, 3, 4, 5, 6, 7, 8, 9, 10, 15, 12] hh (by decide) (by simp only [Zy2, FrSel, BlkSel, AV.ren, renL, AV.ok, okL, Option.some.injEq, exists_eq_left', List.length_cons, List.length_nil, Nat.reduceAdd, Nat.reduceLT, reduceCtorEq, implies_true, exists_eq', fo, fr, ak]) (by simp only [Zy2, FrSel, BlkSel, AV.ren, renL, AV.ok, okL, Option.some.injEq, exists_eq_left', List.length_cons, List.length_nil, Nat.reduceAdd, Nat.reduceLT, reduceCtorEq, implies_true, exists_eq', fo, fr, wg2, ak, zZY])
    ·have hq' := eq_false hq
     have hst2 : zEf KL xs' ds' hs ++ outL xs ds (nw.take (j + 1)) = (zEf KL xs' ds' hs ++ outL xs ds (nw.take j)) := by rw [hst, if_neg hq, List.append_nil]
     simp only [X5g, zLK, QXB, if_true, if_false, ↓reduceIte, Nat.reduceAdd, Nat.reduceSub, Nat.reduceLeDiff, Nat.reduceEqDiff, Nat.reduceMul, Nat.reduceLT, Int.reduceLT, Int.reduceLE, Int.reduceEq, CO.tmps, Opd.tmps, optT, Nat.reducePow, Nat.reduceDiv, Nat.reduceMod, f1, f2, f3, f4, f5, f6, f7, gj', hx, e1, Ksr, ZWy, qwM, gk, hq', X9f, QwN, ZyM, Y0j, XIy, Q7f, List.length_cons, List.length_nil, ne_eq, not_false_eq_true, not_true_eq_false, decide_true, decide_false, XeO hh, QU9 hz, QLc hz, zkD hz]
     refine ⟨j + 1, gj, by dsimp only; omega, ?_⟩
     simp only [hst2]
     exact Bt.sel [0, 1, 2, 3, 4, 5, 6, 7, 8, 9, 10, 11, 12] hh (by decide) (by simp only [Zy2, FrSel, BlkSel, AV.ren, renL, AV.ok, okL, Option.some.injEq, exists_eq_left', List.length_cons, List.length_nil, Nat.reduceAdd, Nat.reduceLT, reduceCtorEq, implies_true, exists_eq', fo, fr, ak]) (by simp only [Zy2, FrSel, BlkSel, AV.ren, renL, AV.ok, okL, Option.some.injEq, exists_eq_left', List.length_cons, List.length_nil, Nat.reduceAdd, Nat.reduceLT, reduceCtorEq, implies_true, exists_eq', fo, fr, wg2, ak, ao, zZY])
   ·obtain rfl : j = nw.length := by omega
    have gj' := eq_false gj
    simp only [List.take_length, X5g, zLK, QXB, if_true, if_false, ↓reduceIte, Nat.reduceAdd, Nat.reduceSub, Nat.reduceLeDiff, Nat.reduceEqDiff, Nat.reduceMul, Nat.reduceLT, Int.reduceLT, Int.reduceLE, Int.reduceEq, CO.tmps, Opd.tmps, optT, Nat.reducePow, Nat.reduceDiv, Nat.reduceMod, f1, f2, f3, f4, f5, f6, f7, gj', zw]
    refine ⟨2, by decide, by decide, ?_⟩
    simp only [m2, S2, Int.natCast_one, Int.cast_ofNat_Int]
    exact Bt.sel [0, 1, 2, 3, 4, 5, 6, 7, 8, 9, 10, 11] hh (by decide) (by simp only [Zy2, FrSel, BlkSel, AV.ren, renL, AV.ok, okL, Option.some.injEq, exists_eq_left', List.length_cons, List.length_nil, Nat.reduceAdd, Nat.reduceLT, reduceCtorEq, implies_true, exists_eq', fo, fr, ak]) (by simp only [Zy2, FrSel, BlkSel, AV.ren, renL, AV.ok, okL, Option.some.injEq, exists_eq_left', List.length_cons, List.length_nil, Nat.reduceAdd, Nat.reduceLT, reduceCtorEq, implies_true, exists_eq', fo, fr, wg2, ak, ao, apW, zZY])
  obtain rfl : i = 2 := by omega
  have lU : (zEf KL xs' ds' hs ++ outL xs ds nw).length ≤ 1000000 := by
   have := JJc KL xs' ds' hs hs.length
   rw [List.take_length] at this
   rw [List.length_append]; omega
  have so := fun L k hk => YDo (h := h) L k (zEf KL xs' ds' hs ++ outL xs ds nw) hk lU
  simp only [S2, m2, X5g, zLK, QXB, if_true, if_false, ↓reduceIte, Nat.reduceAdd, Nat.reduceSub, Nat.reduceLeDiff, Nat.reduceEqDiff, Nat.reduceMul, Nat.reduceLT, Int.reduceLT, Int.reduceLE, Int.reduceEq, CO.tmps, Opd.tmps, optT, Nat.reducePow, Nat.reduceDiv, Nat.reduceMod, f1, f2, f3, f4, f5, f6, f7, Int.cast_ofNat_Int, so, hch, KSr, JNv, Ju9, Zpl, XeO hh, QU9 hz, QLc hz, zkD hz]
  exact Bt.sel [11, 3, 4] hh (by decide) (by simp only [Zy2, FrSel, BlkSel, AV.ren, renL, AV.ok, okL, Option.some.injEq, exists_eq_left', List.length_cons, List.length_nil, Nat.reduceAdd, Nat.reduceLT, reduceCtorEq, implies_true, exists_eq']) (by simp only [Zy2, FrSel, BlkSel, AV.ren, renL, AV.ok, okL, Option.some.injEq, exists_eq_left', List.length_cons, List.length_nil, Nat.reduceAdd, Nat.reduceLT, reduceCtorEq, implies_true, exists_eq'])
theorem QKL : Spec Tryz.prog 38 QhY := by
 intro args h v h' e
 unfold QhY at e
 split at e
 ·rename_i l s t n k s' t'
  obtain ⟨hs, hl, e⟩ := KsT e
  obtain ⟨xs, hv, e⟩ := KsT e
  obtain ⟨ds, hd, e⟩ := KsT e
  obtain ⟨nw, hn, e⟩ := KsT e
  obtain ⟨kp, hk, e⟩ := KsT e
  obtain ⟨xs', hv', e⟩ := KsT e
  obtain ⟨ds', hd', e⟩ := KsT e
  split at e
  ·rename_i hL
   split at e
   ·rename_i c
    cases e
    refine FnAt.c (FnAt.frz0 fun hz => qmG hz hl.frz hv.frz hd.frz hn.frz hk.frz hv'.frz hd'.frz hL.1 hL.2.1 hL.2.2 _ _ ?_)
    simp only [QhY, hl.frz.get, hv.frz.get, hd.frz.get, hn.frz.get, hk.frz.get, hv'.frz.get, hd'.frz.get, Option.bind_some]
    rw [if_pos hL, if_pos c]
   ·rename_i c
    cases e
    refine FnAt.c (FnAt.frz fun hz => qmG hz hl.frz hv.frz hd.frz hn.frz hk.frz hv'.frz hd'.frz hL.1 hL.2.1 hL.2.2 _ _ ?_)
    simp only [QhY, hl.frz.get, hv.frz.get, hd.frz.get, hn.frz.get, hk.frz.get, hv'.frz.get, hd'.frz.get, Option.bind_some, List.length_map]
    rw [if_pos hL, if_neg c]
  ·cases e
 ·cases e
end Go.Proofs.YtfaccliekejngaaGreat
end
