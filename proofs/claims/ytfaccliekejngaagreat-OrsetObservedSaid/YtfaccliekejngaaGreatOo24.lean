/- Part 24 of what the laws' proofs rest on. No condition. -/
import Derived.Test.YtfaccliekejngaaGreatOo23
set_option linter.all false
section
namespace Go.Proofs.YtfaccliekejngaaGreat
set_option maxRecDepth 100000
set_option maxHeartbeats 8000000
noncomputable def Jph : List AV → List AB → Option (AV × List AB)
 | [y, .p i 0, .p b 0], h => match XAh h i with
  | some [.f (.func 105) [] [.p j 0]] => match XAh h j with
   | some [s, t] => match XAh h b with
    | some [l] => (getH y).bind fun x => (getS intR h s).bind fun v => (getS dotR h t).bind fun ds => (getS dotR h l).bind fun ks => some (.b (decide (¬ (KXy v ds = 0 ∧ YlY v ds x.1) ∨ x.1 ∈ ks)), h)
    | _ => none
   | _ => none
  | _ => none
 | _, _ => none
theorem XhW : Spec Tryz.prog 89 Jph := by
 intro args h v h' e
 unfold Jph at e
 split at e
 ·rename_i y i b
  split at e
  ·rename_i j b1
   split at e
   ·rename_i s t b2
    split at e
    ·rename_i l b3
     obtain ⟨x, hx, e2⟩ := KFu e
     clear e
     subst hx
     obtain ⟨vs, hs, e3⟩ := YI8 e2
     obtain ⟨ds, ht, e4⟩ := YI8 e3
     obtain ⟨ks, hl, e5⟩ := YI8 e4
     cases e5
     refine FnAt.c (FnAt.run (by kernel_rfl) (T := ⟨[⟨105, KNI, fun _ => []⟩, ⟨90, Jjd, fun _ => []⟩], []⟩) ⟨⟨zRw, YSz, trivial⟩, trivial⟩ Tryz.func89 sw89 fun ho hh => ?_)
     have g1 := qee b1
     have g2 := qee b2
     have g3 := qee b3
     have k1 : ∀ x, getS intR (h ++ x) s = some vs := fun x => (hs.app x).get
     have k2 : ∀ x, getS dotR (h ++ x) t = some ds := fun x => (ht.app x).get
     have k3 : ∀ x, getS dotR (h ++ x) l = some ks := fun x => (hl.app x).get
     have kd : ∀ z : Hd, (qjO.f z).take 2 = [.i .i64 z.1.1, .i .i64 z.1.2] := fun _ => rfl
     unfold w89
     by_cases q : KXy vs ds = 0 ∧ YlY vs ds x.1
     ·have q1 := eq_true q
      simp only [XH8, QN9, X1r, X5W, zVq, if_true, if_false, ↓reduceIte, Nat.reduceAdd, Nat.reduceSub, Nat.reduceLeDiff, Nat.reduceEqDiff, Nat.reduceMul, Nat.reduceLT, Int.reduceLT, Int.reduceLE, Int.reduceEq, CO.tmps, Opd.tmps, optT, Nat.reducePow, Nat.reduceDiv, Nat.reduceMod, g1, g2, g3, k1, k2, k3, kd, KNI, Jjd, KDg, q1, ZIt, KJo, XEe, zp7, ZOt, Ke3]
      exact Bt.dropB _ hh rfl
     ·have q1 := eq_false q
      simp only [XH8, QN9, X1r, X5W, zVq, if_true, if_false, ↓reduceIte, Nat.reduceAdd, Nat.reduceSub, Nat.reduceLeDiff, Nat.reduceEqDiff, Nat.reduceMul, Nat.reduceLT, Int.reduceLT, Int.reduceLE, Int.reduceEq, CO.tmps, Opd.tmps, optT, Nat.reducePow, Nat.reduceDiv, Nat.reduceMod, g1, g2, g3, k1, k2, k3, kd, KNI, Jjd, KDg, q1, ZIt, KJo, XEe, zp7, ZOt, Ke3]
      exact Bt.dropB _ hh rfl
    ·cases e
   ·cases e
  ·cases e
 ·cases e
open Classical in
noncomputable def qZC (ks : Dots) (v' : List Int) (ds' : Dots) (l : List Hd) : List Hd := l.filter fun x => decide (¬ (KXy v' ds' = 0 ∧ YlY v' ds' x.1) ∨ x.1 ∈ ks)
theorem qyM (ks : Dots) (v' : List Int) (ds' : Dots) {l : List Hd} {i : Nat} (h : i < l.length) : qZC ks v' ds' (l.take (i + 1)) = qZC ks v' ds' (l.take i) ++ (if ¬ (KXy v' ds' = 0 ∧ YlY v' ds' (l.getD i qjO.d).1) ∨ (l.getD i qjO.d).1 ∈ ks then [l.getD i qjO.d] else []) := by
 unfold qZC
 rw [List.take_succ_eq_append_getElem h, List.filter_append, List.getD_eq_getElem?_getD, List.getElem?_eq_getElem h]
 simp only [Option.getD_some, List.filter_cons, List.filter_nil, decide_eq_true_eq]
theorem Jfv (ks : Dots) (v' : List Int) (ds' : Dots) (l : List Hd) (i : Nat) : (qZC ks v' ds' (l.take i)).length ≤ i := by
 unfold qZC
 exact Nat.le_trans (List.length_filter_le _ _) (by rw [List.length_take]; omega)
theorem ZcK {l nw : List Hd} {v v' : List Int} {ds ds' kp : Dots} (a : RG l v ds) (c : KXy v' ds' = 0) : sortP cfH (qZC (nw.map (·.1) ++ kp) v' ds' l ++ outL v ds nw) = chL l v ds nw kp v' ds' := by
 have e : qZC (nw.map (·.1) ++ kp) v' ds' l ++ outL v ds nw = chU l v ds nw kp v' ds' := by
  unfold chU
  rw [YD4 a.nf a.len]
  congr 1
  unfold qZC
  refine List.filter_congr fun x hx => decide_eq_decide.2 ?_
  rw [QbQ (KIn c).rg, and_iff_right c, List.mem_append, List.mem_map]
  constructor
  ·rintro (q | q | q)
   ·exact .inr (.inr q)
   ·exact .inl q
   ·exact .inr (.inl q)
  ·rintro (q | q | q)
   ·exact .inr (.inl q)
   ·exact .inr (.inr q)
   ·exact .inl q
 rw [e]
 rfl
noncomputable def apE (hs : List Hd) (v : List Int) (ds : Dots) (nw : List Hd) (kp : Dots) (v' : List Int) (ds' : Dots) : Int :=
 if Kq6 hs v ds ≠ 0 then Kq6 hs v ds else if KXy v' ds' ≠ 0 then KXy v' ds' else if ¬ mayP nw kp v' ds' then 2 else if ¬ zwL hs nw then 9 else if ¬ (zbr v v' ds ds').2.length ≤ 4096 then 10 else 0
noncomputable def zgC : List AV → List AB → Option (AV × List AB)
 | [.ag [l, s, t], .ag [n, k, s', t']], h => (getS qjO h l).bind fun hs => (getS intR h s).bind fun v => (getS dotR h t).bind fun ds => (getS qjO h n).bind fun nw => (getS dotR h k).bind fun kp => (getS intR h s').bind fun v' => (getS dotR h t').bind fun ds' =>
   if (hs.length ≤ 10000 ∧ nw.length ≤ 10000 ∧ kp.length ≤ 10000) ∧ t.capOk = true ∧ t'.capOk = true then
    if apE hs v ds nw kp v' ds' ≠ 0 then some (.tu [.ag [.ns, .ns, .ns], .i .i64 (apE hs v ds nw kp v' ds')], h)
    else some (.tu [.ag [rsl qjO h.length (chL hs v ds nw kp v' ds'), rsl intR (h.length + 1) (zbr v v' ds ds').1, rsl dotR (h.length + 2) (zbr v v' ds ds').2], .i .i64 0], h ++ [resB qjO true (chL hs v ds nw kp v' ds'), resB intR true (zbr v v' ds ds').1, resB dotR true (zbr v v' ds ds').2])
   else none
 | _, _ => none
theorem JQa {h : List AB} (hz : h.map AB.freeze = h) {l s t n k s' t' : AV} {hs nw : List Hd} {kp : Dots} {xs xs' : List Int} {ds ds' : Dots} (hl : Rd qjO h l hs) (hv : Rd intR h s xs) (hd : Rd dotR h t ds) (hn : Rd qjO h n nw) (hkp : Rd dotR h k kp) (hv' : Rd intR h s' xs') (hd' : Rd dotR h t' ds') (hL : hs.length ≤ 10000 ∧ nw.length ≤ 10000 ∧ kp.length ≤ 10000) (k1 : t.capOk = true) (k2 : t'.capOk = true) (v : AV) (h' : List AB) (e : zgC [.ag [l, s, t], .ag [n, k, s', t']] h = some (v, h')) :
  FnAt Tryz.prog 38 [.ag [l, s, t], .ag [n, k, s', t']] h v h' := by
 simp only [zgC, hl.get, hv.get, hd.get, hn.get, hkp.get, hv'.get, hd'.get, Option.bind_some] at e
 rw [if_pos ⟨hL, k1, k2⟩] at e
 refine FnAt.run (by kernel_rfl) (T := ⟨[⟨31, X7Q, fun _ => []⟩, ⟨47, zZH KXy, fun _ => []⟩, ⟨88, XLw, fun _ => []⟩, ⟨85, KmK, fun _ => []⟩, ⟨53, XrY, fun _ => []⟩, ⟨54, Xo8, fun _ => []⟩, ⟨55, T_un, fun _ => []⟩, ⟨89, Jph, fun _ => []⟩, ⟨105, KNI, fun _ => []⟩, ⟨58, YQi, wsS⟩], []⟩) ⟨⟨zRg, QMk, Kha, QKd, zOv, Ksu, zLX, XhW, zRw, J3e, trivial⟩, trivial⟩ Tryz.func38 sw38 fun ho hh => ?_
 simp only [qMC, JAX, Bool.and_eq_true] at ho
 have f1 := hl.fx ho.1.1 (sz := 34) rfl
 have f2 := hv.fx ho.1.2.1 (sz := 1) rfl
 have f3 := hd.fx ho.1.2.2.1 (sz := 2) rfl
 have f4 := hn.fx ho.2.1.1 (sz := 34) rfl
 have f5 := hkp.fx ho.2.1.2.1 (sz := 2) rfl
 have f6 := hv'.fx ho.2.1.2.2.1 (sz := 1) rfl
 have f7 := hd'.fx ho.2.1.2.2.2.1 (sz := 2) rfl
 have u2 := hkp.src (sz := 2) rfl
 have hL1 : (hs.length ≤ 1000000) = True := eq_true (by omega)
 have hL2 : (nw.length ≤ 1000000) = True := eq_true (by omega)
 have up : ∀ (t : AV), t.ok (fun i => decide (i < h.length)) = true → ∀ c, t.ok (fun i => decide (i < h.length + c)) = true := fun t ht c => AV.ok_mono (fun i q => by simp only [decide_eq_true_eq] at q ⊢; omega) t ht
 have rn : ∀ (t : AV), t.ok (fun i => decide (i < h.length)) = true → ∀ sel, Wk (t.ren (selN h.length sel)) t := fun t ht sel => Wk.ren (fun i hi => Xdk hi) ht
 have fo := fun c => And.intro (up l ho.1.1 c) (And.intro (up s ho.1.2.1 c) (And.intro (up t ho.1.2.2.1 c) (And.intro (up n ho.2.1.1 c) (And.intro (up k ho.2.1.2.1 c) (And.intro (up s' ho.2.1.2.2.1 c) (up t' ho.2.1.2.2.2.1 c))))))
 have fr := fun sel => And.intro (rn l ho.1.1 sel) (And.intro (rn s ho.1.2.1 sel) (And.intro (rn t ho.1.2.2.1 sel) (And.intro (rn n ho.2.1.1 sel) (And.intro (rn k ho.2.1.2.1 sel) (And.intro (rn s' ho.2.1.2.2.1 sel) (rn t' ho.2.1.2.2.2.1 sel))))))
 have zw01 : IntKind.i64.wrap ((0 : Int) + 1) = 1 := by decide
 have zw12 : IntKind.i64.wrap ((1 : Int) + 1) = 2 := by decide
 have nfo : AV.nf.one = true := rfl
 unfold w38
 by_cases c0 : Kq6 hs xs ds = 0
 case neg =>
  have c0' := eq_false c0
  have hE : apE hs xs ds nw kp xs' ds' = Kq6 hs xs ds := by unfold apE; rw [if_pos c0]
  rw [hE, if_pos c0] at e
  cases e
  simp only [XH8, QN9, X1r, X5W, zVq, if_true, if_false, ↓reduceIte, Nat.reduceAdd, Nat.reduceSub, Nat.reduceLeDiff, Nat.reduceEqDiff, Nat.reduceMul, Nat.reduceLT, Int.reduceLT, Int.reduceLE, Int.reduceEq, CO.tmps, Opd.tmps, optT, Nat.reducePow, Nat.reduceDiv, Nat.reduceMod, f1, f2, f3, f4, f5, f6, f7, X7Q, c0', hL1, k1, k2, ne_eq, not_false_eq_true, not_true_eq_false, decide_true, decide_false]
  exact Bt.drop _ hh rfl (by simp only [ZVg, qMC, YI0, JAX, Yiy, ok_i, Bool.and_true])
 by_cases c1 : KXy xs' ds' = 0
 case neg =>
  have c1' := eq_false c1
  have hE : apE hs xs ds nw kp xs' ds' = KXy xs' ds' := by unfold apE; rw [if_neg (not_not_intro c0), if_pos c1]
  rw [hE, if_pos c1] at e
  cases e
  simp only [XH8, QN9, X1r, X5W, zVq, if_true, if_false, ↓reduceIte, Nat.reduceAdd, Nat.reduceSub, Nat.reduceLeDiff, Nat.reduceEqDiff, Nat.reduceMul, Nat.reduceLT, Int.reduceLT, Int.reduceLE, Int.reduceEq, CO.tmps, Opd.tmps, optT, Nat.reducePow, Nat.reduceDiv, Nat.reduceMod, f1, f2, f3, f4, f5, f6, f7, X7Q, zZH, c0, c1', hL1, k1, k2, ne_eq, not_false_eq_true, not_true_eq_false, decide_true, decide_false]
  exact Bt.drop _ hh rfl (by simp only [ZVg, qMC, YI0, JAX, Yiy, ok_i, Bool.and_true])
 by_cases c2 : mayP nw kp xs' ds'
 case neg =>
  have c2' := eq_false c2
  have hE : apE hs xs ds nw kp xs' ds' = 2 := by unfold apE; rw [if_neg (not_not_intro c0), if_neg (not_not_intro c1), if_pos c2]
  rw [hE, if_pos (by decide)] at e
  cases e
  simp only [XH8, QN9, X1r, X5W, zVq, if_true, if_false, ↓reduceIte, Nat.reduceAdd, Nat.reduceSub, Nat.reduceLeDiff, Nat.reduceEqDiff, Nat.reduceMul, Nat.reduceLT, Int.reduceLT, Int.reduceLE, Int.reduceEq, CO.tmps, Opd.tmps, optT, Nat.reducePow, Nat.reduceDiv, Nat.reduceMod, f1, f2, f3, f4, f5, f6, f7, X7Q, zZH, XLw, hL2, c0, c1, c2', hL1, k1, k2, ne_eq, not_false_eq_true, not_true_eq_false, decide_true, decide_false]
  exact Bt.drop _ hh rfl (by simp only [ZVg, qMC, YI0, JAX, Yiy, ok_i, Bool.and_true])
 have c2' := eq_true c2
 by_cases c3 : zwL hs nw
 case neg =>
  have c3' := eq_false c3
  have hE : apE hs xs ds nw kp xs' ds' = 9 := by unfold apE; rw [if_neg (not_not_intro c0), if_neg (not_not_intro c1), if_neg (not_not_intro c2), if_pos c3]
  rw [hE, if_pos (by decide)] at e
  cases e
  simp only [XH8, QN9, X1r, X5W, zVq, if_true, if_false, ↓reduceIte, Nat.reduceAdd, Nat.reduceSub, Nat.reduceLeDiff, Nat.reduceEqDiff, Nat.reduceMul, Nat.reduceLT, Int.reduceLT, Int.reduceLE, Int.reduceEq, CO.tmps, Opd.tmps, optT, Nat.reducePow, Nat.reduceDiv, Nat.reduceMod, f1, f2, f3, f4, f5, f6, f7, X7Q, zZH, XLw, XrY, hL2, c0, c1, c2', c3', hL1, k1, k2, ne_eq, not_false_eq_true, not_true_eq_false, decide_true, decide_false]
  exact Bt.drop _ hh rfl (by simp only [ZVg, qMC, YI0, JAX, Yiy, ok_i, Bool.and_true])
 have c3' := eq_true c3
 have ra := zFp.1 c0
 have cs := ra.nf.check ra.len
 by_cases c4 : (zbr xs xs' ds ds').2.length ≤ 4096
 case neg =>
  have c4' := eq_false c4
  have hE : apE hs xs ds nw kp xs' ds' = 10 := by unfold apE; rw [if_neg (not_not_intro c0), if_neg (not_not_intro c1), if_neg (not_not_intro c2), if_neg (not_not_intro c3), if_pos c4]
  rw [hE, if_pos (by decide)] at e
  cases e
  simp only [XH8, QN9, X1r, X5W, zVq, if_true, if_false, ↓reduceIte, Nat.reduceAdd, Nat.reduceSub, Nat.reduceLeDiff, Nat.reduceEqDiff, Nat.reduceMul, Nat.reduceLT, Int.reduceLT, Int.reduceLE, Int.reduceEq, CO.tmps, Opd.tmps, optT, Nat.reducePow, Nat.reduceDiv, Nat.reduceMod, f1, f2, f3, f4, f5, f6, f7, X7Q, zZH, XLw, XrY, Xo8, hL2, c0, c1, cs, c2', c3', c4', hL1, k1, k2, ne_eq, not_false_eq_true, not_true_eq_false, decide_true, decide_false]
  exact Bt.drop _ hh rfl (by simp only [ZVg, qMC, YI0, JAX, Yiy, ok_i, Bool.and_true])
 have c4' := eq_true c4
 have hE : apE hs xs ds nw kp xs' ds' = 0 := by unfold apE; rw [if_neg (not_not_intro c0), if_neg (not_not_intro c1), if_neg (not_not_intro c2), if_neg (not_not_intro c3), if_neg (not_not_intro c4)]
 rw [hE, if_neg (not_not_intro rfl)] at e
 cases e
 simp only [XH8, QN9, X1r, X5W, zVq, if_true, if_false, ↓reduceIte, Nat.reduceAdd, Nat.reduceSub, Nat.reduceLeDiff, Nat.reduceEqDiff, Nat.reduceMul, Nat.reduceLT, Int.reduceLT, Int.reduceLE, Int.reduceEq, CO.tmps, Opd.tmps, optT, Nat.reducePow, Nat.reduceDiv, Nat.reduceMod, f1, f2, f3, f4, f5, f6, f7, X7Q, zZH, XLw, XrY, Xo8, T_un, nfo, true_and, hL1, hL2, c0, c1, cs, c2', c3', c4', k1, k2, hv'.isSl, hd'.isSl, ne_eq, not_false_eq_true, not_true_eq_false, decide_true, decide_false]
 generalize hJ : zbr xs xs' ds ds' = J at *
 obtain ⟨jv, jd⟩ := J
 dsimp only at *
 have hch := ZcK (nw := nw) (kp := kp) ra c1
 obtain ⟨A, hA⟩ : ∃ A, A = nw.map (·.1) := ⟨_, rfl⟩
 have lA : A.length = nw.length := by rw [hA, List.length_map]
 rw [← hA] at hch
 obtain ⟨KL, hKL⟩ : ∃ KL, KL = A ++ kp := ⟨_, rfl⟩
 rw [← hKL] at hch
 have lKL : KL.length ≤ 100000 := by rw [hKL, List.length_append, lA]; omega
 have of1 : ∀ L, KmK [n] (h ++ L) = some (apS dotR (h.length + L.length) A, h ++ (L ++ [resB dotR true A])) := fun L => by
  simp only [KmK, (hn.app L).get, Option.bind_some, ← hA]
  rw [if_pos (by omega), List.length_append, List.append_assoc]
 have gk : ∀ L, ownM dotR KL L 8 → getS dotR (h ++ L) (apS dotR (h.length + 8) KL) = some KL := fun L hb => QvZ KL L 8 (by rw [Yn6]; exact ZLZ KL L 8 hb) (by unfold maxLen; omega)
 have ak := fun (n : Nat) => And.intro (ZrU (r := dotR) (fun i => decide (i < n + 13)) (n + 8) KL (by simp)) (And.intro (ZrU (r := dotR) (fun i => decide (i < n + 12)) (n + 8) KL (by simp)) (ZrU (r := dotR) (fun i => decide (i < n + 11)) (n + 8) KL (by simp)))
 have ao := fun (n : Nat) (L : List Hd) => And.intro (ZrU (r := qjO) (fun i => decide (i < n + 13)) (n + 11) L (by simp)) (ZrU (r := qjO) (fun i => decide (i < n + 12)) (n + 11) L (by simp))
 have apW : ∀ (n : Nat) (L : List Hd), Wk (rsl qjO n L) (apS qjO n L) = True := fun n L => eq_true (J2U n L)
 have wg2 : ∀ sel (F0 F1 : AV), Wk (.ag [l.ren (selN h.length sel), F0, n.ren (selN h.length sel), F1]) (.ag [l, F0, n, F1]) = True := fun sel F0 F1 => eq_true (JEJ ⟨rn l ho.1.1 sel, Wk.refl _, rn n ho.2.1.1 sel, Wk.refl _, trivial⟩)
 have hm : ∃ Lm : Nat → List Hd, Lm 0 = [] ∧ Lm 1 = qZC KL xs' ds' hs ∧ Lm 2 = qZC KL xs' ds' hs ++ outL xs ds nw := ⟨fun n => if n = 0 then [] else if n = 1 then qZC KL xs' ds' hs else qZC KL xs' ds' hs ++ outL xs ds nw, rfl, rfl, rfl⟩
 obtain ⟨Lm, m0, m1, m2⟩ := hm
 have hS : ∃ Sm : Nat → AV, Sm 0 = .ns ∧ Sm 1 = apS qjO (h.length + 11) (qZC KL xs' ds' hs) ∧ Sm 2 = rsl qjO (h.length + 11) (qZC KL xs' ds' hs ++ outL xs ds nw) := ⟨fun n => if n = 0 then .ns else if n = 1 then apS qjO (h.length + 11) (qZC KL xs' ds' hs) else rsl qjO (h.length + 11) (qZC KL xs' ds' hs ++ outL xs ds nw), rfl, rfl, rfl⟩
 obtain ⟨Sm, S0, S1, S2⟩ := hS
 by_cases hk0 : kp = [] <;> by_cases hA0 : A = []
 have hKL0 : KL = [] := by rw [hKL, hA0, hk0]; rfl
 have ap0 : ∀ H, appW H true 2 16 .ns 0 [] = some (.ns, H) := fun H => rfl
 rw [hk0] at u2 f5
 simp only [X1r, X5W, zVq, if_true, if_false, ↓reduceIte, Nat.reduceAdd, Nat.reduceSub, Nat.reduceLeDiff, Nat.reduceEqDiff, Nat.reduceMul, Nat.reduceLT, Int.reduceLT, Int.reduceLE, Int.reduceEq, CO.tmps, Opd.tmps, optT, Nat.reducePow, Nat.reduceDiv, Nat.reduceMod, f1, f2, f3, f4, f5, f6, f7, u2, of1, T_un, nfo, true_and, hA0, ZLN, ap0, List.length_nil, Qj7, hl.isSl, hv.isSl, hd.isSl, hn.isSl, hv'.isSl, hd'.isSl, QNE hh, QFK hz, K9V hz, Ksi hz]
 refine YHj (S := Nat) (fun i => 2 - i) (fun i => tp 4 ++ [.p (h.length + 2) 0] ++ tp 3 ++ [.p (h.length + 5) 0] ++ tp 4 ++ [Sm i] ++ tp 61 ++ [.ag [l, (.f (.func 89) [] [.p (h.length + 7) 0, .p (h.length + 9) 0]), n, (.f (.func 105) [] [.p (h.length + 10) 0])], .i .i64 i] ++ tp 23) (fun i => h ++ [.blk false true [l, s, t], .blk false true [n, k, s', t'], .blk false true [.ns, .ns, .ns], resB intR true jv, resB dotR true jd, .blk false true [rsl intR (h.length + 3) jv, rsl dotR (h.length + 4) jd], .blk false true [s', t'], .blk false true [.f (.func 105) [] [.p (h.length + 6) 0]], resB dotR true KL, .blk false true [apS dotR (h.length + 8) KL], .blk false true [s, t], resB qjO true (Lm i)]) (fun i => i ≤ 2) 0 (by decide) ?_ fun i hi => ?_
 ·dsimp only
  rw [m0, S0]
  show Bt _ _ _ _ _ (h ++ ([.blk false true [l, s, t], .blk false true [n, k, s', t'], .blk false true [.ns, .ns, .ns], resB intR true jv, resB dotR true jd, .blk false true [rsl intR (h.length + 3) jv, rsl dotR (h.length + 4) jd], .blk false true [s', t'], .blk false true [.f (.func 105) [] [.p (h.length + 6) 0]], resB dotR true KL, .blk false true [apS dotR (h.length + 8) KL], .blk false true [s, t]] ++ List.replicate 1 .dead))
  rw [← List.append_assoc]
  refine Bt.trans ?_ (Bt.pad _ _ 1)
  simp only [hKL0, ZLN, zc6]
  simp only [tp, XH8, QN9, List.cons_append, List.nil_append, Int.natCast_zero]
  exact Bt.sel [0, 1, 2, 3, 4, 5, 6, 7, 8, 9, 10] hh (by decide) (by simp only [q9C, FrSel, BlkSel, AV.ren, renL, AV.ok, okL, Option.some.injEq, exists_eq_left', List.length_cons, List.length_nil, Nat.reduceAdd, Nat.reduceLT, reduceCtorEq, implies_true, exists_eq', fo, fr, ak]) (by simp only [q9C, FrSel, BlkSel, AV.ren, renL, AV.ok, okL, Option.some.injEq, exists_eq_left', List.length_cons, List.length_nil, Nat.reduceAdd, Nat.reduceLT, reduceCtorEq, implies_true, exists_eq', fo, fr, wg2, ak])
 rotate_left 1
 have hAn : A.length ≠ 0 := fun q => hA0 (List.eq_nil_of_length_eq_zero q)
 have gr : ∀ id, apS dotR id A = rsl dotR id A := fun id => J0z _ hAn
 have eK : ∀ id, rsl dotR id A = apS dotR id KL := fun id => by rw [hKL, hk0, List.append_nil, gr]
 have eB : resB dotR true A = resB dotR true KL := by rw [hKL, hk0, List.append_nil]
 have ap0 : ∀ H id, appW H true 2 16 (rsl dotR id A) 0 [] = some (rsl dotR id A, H) := fun H id => by unfold rsl; split <;> rfl
 rw [hk0] at u2 f5
 simp only [X1r, X5W, zVq, if_true, if_false, ↓reduceIte, Nat.reduceAdd, Nat.reduceSub, Nat.reduceLeDiff, Nat.reduceEqDiff, Nat.reduceMul, Nat.reduceLT, Int.reduceLT, Int.reduceLE, Int.reduceEq, CO.tmps, Opd.tmps, optT, Nat.reducePow, Nat.reduceDiv, Nat.reduceMod, f1, f2, f3, f4, f5, f6, f7, u2, of1, T_un, nfo, true_and, gr, ap0, List.length_nil, Qj7, hl.isSl, hv.isSl, hd.isSl, hn.isSl, hv'.isSl, hd'.isSl, QNE hh, QFK hz, K9V hz, Ksi hz]
 refine YHj (S := Nat) (fun i => 2 - i) (fun i => tp 4 ++ [.p (h.length + 2) 0] ++ tp 3 ++ [.p (h.length + 5) 0] ++ tp 4 ++ [Sm i] ++ tp 61 ++ [.ag [l, (.f (.func 89) [] [.p (h.length + 7) 0, .p (h.length + 9) 0]), n, (.f (.func 105) [] [.p (h.length + 10) 0])], .i .i64 i] ++ tp 23) (fun i => h ++ [.blk false true [l, s, t], .blk false true [n, k, s', t'], .blk false true [.ns, .ns, .ns], resB intR true jv, resB dotR true jd, .blk false true [rsl intR (h.length + 3) jv, rsl dotR (h.length + 4) jd], .blk false true [s', t'], .blk false true [.f (.func 105) [] [.p (h.length + 6) 0]], resB dotR true KL, .blk false true [apS dotR (h.length + 8) KL], .blk false true [s, t], resB qjO true (Lm i)]) (fun i => i ≤ 2) 0 (by decide) ?_ fun i hi => ?_
 ·dsimp only
  rw [m0, S0]
  show Bt _ _ _ _ _ (h ++ ([.blk false true [l, s, t], .blk false true [n, k, s', t'], .blk false true [.ns, .ns, .ns], resB intR true jv, resB dotR true jd, .blk false true [rsl intR (h.length + 3) jv, rsl dotR (h.length + 4) jd], .blk false true [s', t'], .blk false true [.f (.func 105) [] [.p (h.length + 6) 0]], resB dotR true KL, .blk false true [apS dotR (h.length + 8) KL], .blk false true [s, t]] ++ List.replicate 1 .dead))
  rw [← List.append_assoc]
  refine Bt.trans ?_ (Bt.pad _ _ 1)
  simp only [eK, eB]
  simp only [tp, XH8, QN9, List.cons_append, List.nil_append, Int.natCast_zero]
  exact Bt.sel [0, 1, 2, 3, 4, 5, 6, 7, 8, 9, 10] hh (by decide) (by simp only [q9C, FrSel, BlkSel, AV.ren, renL, AV.ok, okL, Option.some.injEq, exists_eq_left', List.length_cons, List.length_nil, Nat.reduceAdd, Nat.reduceLT, reduceCtorEq, implies_true, exists_eq', fo, fr, ak]) (by simp only [q9C, FrSel, BlkSel, AV.ren, renL, AV.ok, okL, Option.some.injEq, exists_eq_left', List.length_cons, List.length_nil, Nat.reduceAdd, Nat.reduceLT, reduceCtorEq, implies_true, exists_eq', fo, fr, wg2, ak])
 rotate_left 1
 have hkn : kp.length ≠ 0 := fun q => hk0 (List.eq_nil_of_length_eq_zero q)
 have hKk : KL = kp := by rw [hKL, hA0]; rfl
 have eK : ∀ id, AV.sl id 0 kp.length kp.length (some 2) = apS dotR id KL := fun id => by rw [hKk, J0z _ hkn, ZZP _ hkn]; rfl
 have eB : AB.blk true true (dotR.cells kp) = resB dotR true KL := by rw [hKk, XCu _ hkn]
 have zk := eq_false hkn
 have zm : (kp.length * 16 ≤ 140737488355328 ∧ kp.length ≤ maxLen) = True := eq_true ⟨by omega, by unfold maxLen; omega⟩
 simp only [X1r, X5W, zVq, if_true, if_false, ↓reduceIte, Nat.reduceAdd, Nat.reduceSub, Nat.reduceLeDiff, Nat.reduceEqDiff, Nat.reduceMul, Nat.reduceLT, Int.reduceLT, Int.reduceLE, Int.reduceEq, CO.tmps, Opd.tmps, optT, Nat.reducePow, Nat.reduceDiv, Nat.reduceMod, f1, f2, f3, f4, f5, f6, f7, u2, of1, T_un, nfo, true_and, hA0, ZLN, zk, zm, hl.isSl, hv.isSl, hd.isSl, hn.isSl, hv'.isSl, hd'.isSl, QNE hh, QFK hz, K9V hz, Ksi hz]
 refine YHj (S := Nat) (fun i => 2 - i) (fun i => tp 4 ++ [.p (h.length + 2) 0] ++ tp 3 ++ [.p (h.length + 5) 0] ++ tp 4 ++ [Sm i] ++ tp 61 ++ [.ag [l, (.f (.func 89) [] [.p (h.length + 7) 0, .p (h.length + 9) 0]), n, (.f (.func 105) [] [.p (h.length + 10) 0])], .i .i64 i] ++ tp 23) (fun i => h ++ [.blk false true [l, s, t], .blk false true [n, k, s', t'], .blk false true [.ns, .ns, .ns], resB intR true jv, resB dotR true jd, .blk false true [rsl intR (h.length + 3) jv, rsl dotR (h.length + 4) jd], .blk false true [s', t'], .blk false true [.f (.func 105) [] [.p (h.length + 6) 0]], resB dotR true KL, .blk false true [apS dotR (h.length + 8) KL], .blk false true [s, t], resB qjO true (Lm i)]) (fun i => i ≤ 2) 0 (by decide) ?_ fun i hi => ?_
 ·dsimp only
  rw [m0, S0]
  show Bt _ _ _ _ _ (h ++ ([.blk false true [l, s, t], .blk false true [n, k, s', t'], .blk false true [.ns, .ns, .ns], resB intR true jv, resB dotR true jd, .blk false true [rsl intR (h.length + 3) jv, rsl dotR (h.length + 4) jd], .blk false true [s', t'], .blk false true [.f (.func 105) [] [.p (h.length + 6) 0]], resB dotR true KL, .blk false true [apS dotR (h.length + 8) KL], .blk false true [s, t]] ++ List.replicate 1 .dead))
  rw [← List.append_assoc]
  refine Bt.trans ?_ (Bt.pad _ _ 1)
  simp only [eK, eB]
  simp only [tp, XH8, QN9, List.cons_append, List.nil_append, Int.natCast_zero]
  exact Bt.sel [0, 1, 2, 3, 4, 5, 6, 7, 9, 10, 11] hh (by decide) (by simp only [q9C, FrSel, BlkSel, AV.ren, renL, AV.ok, okL, Option.some.injEq, exists_eq_left', List.length_cons, List.length_nil, Nat.reduceAdd, Nat.reduceLT, reduceCtorEq, implies_true, exists_eq', fo, fr, ak]) (by simp only [q9C, FrSel, BlkSel, AV.ren, renL, AV.ok, okL, Option.some.injEq, exists_eq_left', List.length_cons, List.length_nil, Nat.reduceAdd, Nat.reduceLT, reduceCtorEq, implies_true, exists_eq', fo, fr, wg2, ak])
 rotate_left 1
 have hkn : kp.length ≠ 0 := fun q => hk0 (List.eq_nil_of_length_eq_zero q)
 have hAn : A.length ≠ 0 := fun q => hA0 (List.eq_nil_of_length_eq_zero q)
 have gr : ∀ id, apS dotR id A = rsl dotR id A := fun id => J0z _ hAn
 have hne : KL.length ≠ 0 := by rw [hKL, List.length_append]; omega
 have eK : ∀ id, AV.sl id 0 (A.length + kp.length) (A.length + kp.length) (some 2) = apS dotR id KL := fun id => by rw [J0z _ hne, ZZP _ hne, hKL, List.length_append]; rfl
 have eB : AB.blk true true (dotR.cells A ++ dotR.cells kp) = resB dotR true KL := by rw [XCu _ hne, hKL, JMO]
 have fa := fun L k hb => KDi (h := h) (p := h.length) rfl (r := dotR) (sz := 2) rfl L k A 16 kp.length (dotR.cells kp) hAn hb hkn (by omega) (by unfold maxLen; omega)
 simp only [X1r, X5W, zVq, if_true, if_false, ↓reduceIte, Nat.reduceAdd, Nat.reduceSub, Nat.reduceLeDiff, Nat.reduceEqDiff, Nat.reduceMul, Nat.reduceLT, Int.reduceLT, Int.reduceLE, Int.reduceEq, CO.tmps, Opd.tmps, optT, Nat.reducePow, Nat.reduceDiv, Nat.reduceMod, f1, f2, f3, f4, f5, f6, f7, u2, of1, T_un, nfo, true_and, gr, fa, hl.isSl, hv.isSl, hd.isSl, hn.isSl, hv'.isSl, hd'.isSl, QNE hh, QFK hz, K9V hz, Ksi hz]
 refine YHj (S := Nat) (fun i => 2 - i) (fun i => tp 4 ++ [.p (h.length + 2) 0] ++ tp 3 ++ [.p (h.length + 5) 0] ++ tp 4 ++ [Sm i] ++ tp 61 ++ [.ag [l, (.f (.func 89) [] [.p (h.length + 7) 0, .p (h.length + 9) 0]), n, (.f (.func 105) [] [.p (h.length + 10) 0])], .i .i64 i] ++ tp 23) (fun i => h ++ [.blk false true [l, s, t], .blk false true [n, k, s', t'], .blk false true [.ns, .ns, .ns], resB intR true jv, resB dotR true jd, .blk false true [rsl intR (h.length + 3) jv, rsl dotR (h.length + 4) jd], .blk false true [s', t'], .blk false true [.f (.func 105) [] [.p (h.length + 6) 0]], resB dotR true KL, .blk false true [apS dotR (h.length + 8) KL], .blk false true [s, t], resB qjO true (Lm i)]) (fun i => i ≤ 2) 0 (by decide) ?_ fun i hi => ?_
 ·dsimp only
  rw [m0, S0]
  show Bt _ _ _ _ _ (h ++ ([.blk false true [l, s, t], .blk false true [n, k, s', t'], .blk false true [.ns, .ns, .ns], resB intR true jv, resB dotR true jd, .blk false true [rsl intR (h.length + 3) jv, rsl dotR (h.length + 4) jd], .blk false true [s', t'], .blk false true [.f (.func 105) [] [.p (h.length + 6) 0]], resB dotR true KL, .blk false true [apS dotR (h.length + 8) KL], .blk false true [s, t]] ++ List.replicate 1 .dead))
  rw [← List.append_assoc]
  refine Bt.trans ?_ (Bt.pad _ _ 1)
  simp only [eK, eB]
  simp only [tp, XH8, QN9, List.cons_append, List.nil_append, Int.natCast_zero]
  exact Bt.sel [0, 1, 2, 3, 4, 5, 6, 7, 9, 10, 11] hh (by decide) (by simp only [q9C, FrSel, BlkSel, AV.ren, renL, AV.ok, okL, Option.some.injEq, exists_eq_left', List.length_cons, List.length_nil, Nat.reduceAdd, Nat.reduceLT, reduceCtorEq, implies_true, exists_eq', fo, fr, ak]) (by simp only [q9C, FrSel, BlkSel, AV.ren, renL, AV.ok, okL, Option.some.injEq, exists_eq_left', List.length_cons, List.length_nil, Nat.reduceAdd, Nat.reduceLT, reduceCtorEq, implies_true, exists_eq', fo, fr, wg2, ak])
 all_goals
  have la0 := ZD3 xs ds nw
  by_cases i0 : i = 0
  ·subst i0
   have zw := zw01
   have ix : ixaV 2 2 true (.ag [l, (.f (.func 89) [] [.p (h.length + 7) 0, .p (h.length + 9) 0]), n, (.f (.func 105) [] [.p (h.length + 10) 0])]) (.i .i64 0) = some (.ag [l, (.f (.func 89) [] [.p (h.length + 7) 0, .p (h.length + 9) 0])]) := rfl
   simp only [S0, m0, X1r, X5W, zVq, if_true, if_false, ↓reduceIte, Nat.reduceAdd, Nat.reduceSub, Nat.reduceLeDiff, Nat.reduceEqDiff, Nat.reduceMul, Nat.reduceLT, Int.reduceLT, Int.reduceLE, Int.reduceEq, CO.tmps, Opd.tmps, optT, Nat.reducePow, Nat.reduceDiv, Nat.reduceMod, f1, f2, f3, f4, f5, f6, f7, QqN, ix, nfo, true_and, List.length_cons, List.length_nil]
   refine YHj (S := Nat) (fun j => hs.length - j) (fun j => tp 4 ++ [.p (h.length + 2) 0] ++ tp 3 ++ [.p (h.length + 5) 0] ++ tp 4 ++ [apS qjO (h.length + 11) (qZC KL xs' ds' (hs.take j))] ++ tp 1 ++ [.p (h.length + 12) 0] ++ tp 59 ++ [.ag [l, (.f (.func 89) [] [.p (h.length + 7) 0, .p (h.length + 9) 0]), n, (.f (.func 105) [] [.p (h.length + 10) 0])], .i .i64 0] ++ tp 3 ++ [l, .i .i64 hs.length, .i .i64 j] ++ tp 17) (fun j => h ++ [.blk false true [l, s, t], .blk false true [n, k, s', t'], .blk false true [.ns, .ns, .ns], resB intR true jv, resB dotR true jd, .blk false true [rsl intR (h.length + 3) jv, rsl dotR (h.length + 4) jd], .blk false true [s', t'], .blk false true [.f (.func 105) [] [.p (h.length + 6) 0]], resB dotR true KL, .blk false true [apS dotR (h.length + 8) KL], .blk false true [s, t], resB qjO true (qZC KL xs' ds' (hs.take j)), .blk false true [l, (.f (.func 89) [] [.p (h.length + 7) 0, .p (h.length + 9) 0])]]) (fun j => j ≤ hs.length) 0 (Nat.zero_le _) ?_ fun j hj => ?_
   ·dsimp only
    rw [show qZC KL xs' ds' (hs.take 0) = [] from rfl, ZLN]
    exact Bt.wk (by simp only [X1r, zVq, if_true, if_false, reduceIte, Nat.reduceAdd, Nat.reduceSub, Nat.reduceLeDiff, Nat.reduceEqDiff, Nat.reduceMul, Nat.reduceLT, Int.reduceLT, Int.reduceLE, Int.reduceEq])
   by_cases gj : j < hs.length
   ·have gj' := eq_true gj
    have e1 : IntKind.i64.wrap ((j : Int) + 1) = ((j + 1 : Nat) : Int) := ZL4 (by unfold In64; omega)
    have hst := qyM KL xs' ds' gj
    have lo := Jfv KL xs' ds' hs j
    have lo2 := lo
    have lO : (qZC KL xs' ds' (hs.take j)).length ≤ 100000 := by omega
    generalize hx : hs.getD j qjO.d = x at *
    by_cases hq : ¬ (KXy xs' ds' = 0 ∧ YlY xs' ds' x.1) ∨ x.1 ∈ KL
    ·have hq' := eq_true hq
     have hst2 : qZC KL xs' ds' (hs.take (j + 1)) = (qZC KL xs' ds' (hs.take j)) ++ [x] := by rw [hst, if_pos hq]
     generalize hO : qZC KL xs' ds' (hs.take j) = O at *
     have fa := fun L k ys hb => ZtI (h := h) (p := h.length) rfl (r := qjO) (sz := 34) rfl L k O 48 1 ys hb (by decide) (by omega) (by unfold maxLen; omega)
     simp only [X1r, X5W, zVq, if_true, if_false, ↓reduceIte, Nat.reduceAdd, Nat.reduceSub, Nat.reduceLeDiff, Nat.reduceEqDiff, Nat.reduceMul, Nat.reduceLT, Int.reduceLT, Int.reduceLE, Int.reduceEq, CO.tmps, Opd.tmps, optT, Nat.reducePow, Nat.reduceDiv, Nat.reduceMod, f1, f2, f3, f4, f5, f6, f7, gj', hx, e1, Jph, KNI, KDg, gk, hq', fa, Q4R, KJo, XEe, zp7, ZOt, Ke3, List.length_cons, List.length_nil, ne_eq, not_false_eq_true, not_true_eq_false, decide_true, decide_false, QNE hh, QFK hz, K9V hz, Ksi hz]
     refine ⟨j + 1, gj, by dsimp only; omega, ?_⟩
     simp only [hst2, XlZ, zbl]
     exact Bt.sel [0, 1, 2, 3, 4, 5, 6, 7, 8, 9, 10, 15, 12] hh (by decide) (by simp only [q9C, FrSel, BlkSel, AV.ren, renL, AV.ok, okL, Option.some.injEq, exists_eq_left', List.length_cons, List.length_nil, Nat.reduceAdd, Nat.reduceLT, reduceCtorEq, implies_true, exists_eq', fo, fr, ak]) (by simp only [q9C, FrSel, BlkSel, AV.ren, renL, AV.ok, okL, Option.some.injEq, exists_eq_left', List.length_cons, List.length_nil, Nat.reduceAdd, Nat.reduceLT, reduceCtorEq, implies_true, exists_eq', fo, fr, wg2, ak, YuL])
    ·have hq' := eq_false hq
     have hst2 : qZC KL xs' ds' (hs.take (j + 1)) = (qZC KL xs' ds' (hs.take j)) := by rw [hst, if_neg hq, List.append_nil]
     simp only [X1r, X5W, zVq, if_true, if_false, ↓reduceIte, Nat.reduceAdd, Nat.reduceSub, Nat.reduceLeDiff, Nat.reduceEqDiff, Nat.reduceMul, Nat.reduceLT, Int.reduceLT, Int.reduceLE, Int.reduceEq, CO.tmps, Opd.tmps, optT, Nat.reducePow, Nat.reduceDiv, Nat.reduceMod, f1, f2, f3, f4, f5, f6, f7, gj', hx, e1, Jph, KNI, KDg, gk, hq', Q4R, KJo, XEe, zp7, ZOt, Ke3, List.length_cons, List.length_nil, ne_eq, not_false_eq_true, not_true_eq_false, decide_true, decide_false, QNE hh, QFK hz, K9V hz, Ksi hz]
     refine ⟨j + 1, gj, by dsimp only; omega, ?_⟩
     simp only [hst2]
     exact Bt.sel [0, 1, 2, 3, 4, 5, 6, 7, 8, 9, 10, 11, 12] hh (by decide) (by simp only [q9C, FrSel, BlkSel, AV.ren, renL, AV.ok, okL, Option.some.injEq, exists_eq_left', List.length_cons, List.length_nil, Nat.reduceAdd, Nat.reduceLT, reduceCtorEq, implies_true, exists_eq', fo, fr, ak]) (by simp only [q9C, FrSel, BlkSel, AV.ren, renL, AV.ok, okL, Option.some.injEq, exists_eq_left', List.length_cons, List.length_nil, Nat.reduceAdd, Nat.reduceLT, reduceCtorEq, implies_true, exists_eq', fo, fr, wg2, ak, ao, YuL])
   ·obtain rfl : j = hs.length := by omega
    have gj' := eq_false gj
    simp only [List.take_length, X1r, X5W, zVq, if_true, if_false, ↓reduceIte, Nat.reduceAdd, Nat.reduceSub, Nat.reduceLeDiff, Nat.reduceEqDiff, Nat.reduceMul, Nat.reduceLT, Int.reduceLT, Int.reduceLE, Int.reduceEq, CO.tmps, Opd.tmps, optT, Nat.reducePow, Nat.reduceDiv, Nat.reduceMod, f1, f2, f3, f4, f5, f6, f7, gj', zw]
    refine ⟨1, by decide, by decide, ?_⟩
    simp only [m1, S1, Int.natCast_one, Int.cast_ofNat_Int]
    exact Bt.sel [0, 1, 2, 3, 4, 5, 6, 7, 8, 9, 10, 11] hh (by decide) (by simp only [q9C, FrSel, BlkSel, AV.ren, renL, AV.ok, okL, Option.some.injEq, exists_eq_left', List.length_cons, List.length_nil, Nat.reduceAdd, Nat.reduceLT, reduceCtorEq, implies_true, exists_eq', fo, fr, ak]) (by simp only [q9C, FrSel, BlkSel, AV.ren, renL, AV.ok, okL, Option.some.injEq, exists_eq_left', List.length_cons, List.length_nil, Nat.reduceAdd, Nat.reduceLT, reduceCtorEq, implies_true, exists_eq', fo, fr, wg2, ak, ao, apW, YuL])
  by_cases i1 : i = 1
  ·subst i1
   have zw := zw12
   have ix : ixaV 2 2 true (.ag [l, (.f (.func 89) [] [.p (h.length + 7) 0, .p (h.length + 9) 0]), n, (.f (.func 105) [] [.p (h.length + 10) 0])]) (.i .i64 1) = some (.ag [n, (.f (.func 105) [] [.p (h.length + 10) 0])]) := rfl
   simp only [S1, m1, Int.natCast_one, X1r, X5W, zVq, if_true, if_false, ↓reduceIte, Nat.reduceAdd, Nat.reduceSub, Nat.reduceLeDiff, Nat.reduceEqDiff, Nat.reduceMul, Nat.reduceLT, Int.reduceLT, Int.reduceLE, Int.reduceEq, CO.tmps, Opd.tmps, optT, Nat.reducePow, Nat.reduceDiv, Nat.reduceMod, f1, f2, f3, f4, f5, f6, f7, QqN, ix, nfo, true_and, List.length_cons, List.length_nil]
   refine YHj (S := Nat) (fun j => nw.length - j) (fun j => tp 4 ++ [.p (h.length + 2) 0] ++ tp 3 ++ [.p (h.length + 5) 0] ++ tp 4 ++ [apS qjO (h.length + 11) (qZC KL xs' ds' hs ++ outL xs ds (nw.take j))] ++ tp 1 ++ [.p (h.length + 12) 0] ++ tp 59 ++ [.ag [l, (.f (.func 89) [] [.p (h.length + 7) 0, .p (h.length + 9) 0]), n, (.f (.func 105) [] [.p (h.length + 10) 0])], .i .i64 1] ++ tp 3 ++ [n, .i .i64 nw.length, .i .i64 j] ++ tp 17) (fun j => h ++ [.blk false true [l, s, t], .blk false true [n, k, s', t'], .blk false true [.ns, .ns, .ns], resB intR true jv, resB dotR true jd, .blk false true [rsl intR (h.length + 3) jv, rsl dotR (h.length + 4) jd], .blk false true [s', t'], .blk false true [.f (.func 105) [] [.p (h.length + 6) 0]], resB dotR true KL, .blk false true [apS dotR (h.length + 8) KL], .blk false true [s, t], resB qjO true (qZC KL xs' ds' hs ++ outL xs ds (nw.take j)), .blk false true [n, (.f (.func 105) [] [.p (h.length + 10) 0])]]) (fun j => j ≤ nw.length) 0 (Nat.zero_le _) ?_ fun j hj => ?_
   ·dsimp only
    rw [show outL xs ds (nw.take 0) = [] from rfl, List.append_nil]
    exact Bt.wk (by simp only [X1r, zVq, if_true, if_false, reduceIte, Nat.reduceAdd, Nat.reduceSub, Nat.reduceLeDiff, Nat.reduceEqDiff, Nat.reduceMul, Nat.reduceLT, Int.reduceLT, Int.reduceLE, Int.reduceEq])
   by_cases gj : j < nw.length
   ·have gj' := eq_true gj
    have e1 : IntKind.i64.wrap ((j : Int) + 1) = ((j + 1 : Nat) : Int) := ZL4 (by unfold In64; omega)
    have hst := ZsQ xs ds gj
    have lo := JeT xs ds nw j
    have lo3 := Jfv KL xs' ds' hs hs.length
    rw [List.take_length] at lo3
    have lO : (qZC KL xs' ds' hs ++ outL xs ds (nw.take j)).length ≤ 100000 := by rw [List.length_append]; omega
    generalize hx : nw.getD j qjO.d = x at *
    by_cases hq : ¬ (KXy xs ds = 0 ∧ YlY xs ds x.1)
    ·have hq' := eq_true hq
     have hst2 : qZC KL xs' ds' hs ++ outL xs ds (nw.take (j + 1)) = (qZC KL xs' ds' hs ++ outL xs ds (nw.take j)) ++ [x] := by rw [hst, if_pos hq, List.append_assoc]
     generalize hO : qZC KL xs' ds' hs ++ outL xs ds (nw.take j) = O at *
     have fa := fun L k ys hb => ZtI (h := h) (p := h.length) rfl (r := qjO) (sz := 34) rfl L k O 48 1 ys hb (by decide) (by omega) (by unfold maxLen; omega)
     simp only [X1r, X5W, zVq, if_true, if_false, ↓reduceIte, Nat.reduceAdd, Nat.reduceSub, Nat.reduceLeDiff, Nat.reduceEqDiff, Nat.reduceMul, Nat.reduceLT, Int.reduceLT, Int.reduceLE, Int.reduceEq, CO.tmps, Opd.tmps, optT, Nat.reducePow, Nat.reduceDiv, Nat.reduceMod, f1, f2, f3, f4, f5, f6, f7, gj', hx, e1, Jph, KNI, KDg, gk, hq', fa, Q4R, KJo, XEe, zp7, ZOt, Ke3, List.length_cons, List.length_nil, ne_eq, not_false_eq_true, not_true_eq_false, decide_true, decide_false, QNE hh, QFK hz, K9V hz, Ksi hz]
     refine ⟨j + 1, gj, by dsimp only; omega, ?_⟩
     simp only [hst2, XlZ, zbl]
     exact Bt.sel [0, 1, 2, 3, 4, 5, 6, 7, 8, 9, 10, 15, 12] hh (by decide) (by simp only [q9C, FrSel, BlkSel, AV.ren, renL, AV.ok, okL, Option.some.injEq, exists_eq_left', List.length_cons, List.length_nil, Nat.reduceAdd, Nat.reduceLT, reduceCtorEq, implies_true, exists_eq', fo, fr, ak]) (by simp only [q9C, FrSel, BlkSel, AV.ren, renL, AV.ok, okL, Option.some.injEq, exists_eq_left', List.length_cons, List.length_nil, Nat.reduceAdd, Nat.reduceLT, reduceCtorEq, implies_true, exists_eq', fo, fr, wg2, ak, YuL])
    ·have hq' := eq_false hq
     have hst2 : qZC KL xs' ds' hs ++ outL xs ds (nw.take (j + 1)) = (qZC KL xs' ds' hs ++ outL xs ds (nw.take j)) := by rw [hst, if_neg hq, List.append_nil]
     simp only [X1r, X5W, zVq, if_true, if_false, ↓reduceIte, Nat.reduceAdd, Nat.reduceSub, Nat.reduceLeDiff, Nat.reduceEqDiff, Nat.reduceMul, Nat.reduceLT, Int.reduceLT, Int.reduceLE, Int.reduceEq, CO.tmps, Opd.tmps, optT, Nat.reducePow, Nat.reduceDiv, Nat.reduceMod, f1, f2, f3, f4, f5, f6, f7, gj', hx, e1, Jph, KNI, KDg, gk, hq', Q4R, KJo, XEe, zp7, ZOt, Ke3, List.length_cons, List.length_nil, ne_eq, not_false_eq_true, not_true_eq_false, decide_true, decide_false, QNE hh, QFK hz, K9V hz, Ksi hz]
     refine ⟨j + 1, gj, by dsimp only; omega, ?_⟩
     simp only [hst2]
     exact Bt.sel [0, 1, 2, 3, 4, 5, 6, 7, 8, 9, 10, 11, 12] hh (by decide) (by simp only [q9C, FrSel, BlkSel, AV.ren, renL, AV.ok, okL, Option.some.injEq, exists_eq_left', List.length_cons, List.length_nil, Nat.reduceAdd, Nat.reduceLT, reduceCtorEq, implies_true, exists_eq', fo, fr, ak]) (by simp only [q9C, FrSel, BlkSel, AV.ren, renL, AV.ok, okL, Option.some.injEq, exists_eq_left', List.length_cons, List.length_nil, Nat.reduceAdd, Nat.reduceLT, reduceCtorEq, implies_true, exists_eq', fo, fr, wg2, ak, ao, YuL])
   ·obtain rfl : j = nw.length := by omega
    have gj' := eq_false gj
    simp only [List.take_length, X1r, X5W, zVq, if_true, if_false, ↓reduceIte, Nat.reduceAdd, Nat.reduceSub, Nat.reduceLeDiff, Nat.reduceEqDiff, Nat.reduceMul, Nat.reduceLT, Int.reduceLT, Int.reduceLE, Int.reduceEq, CO.tmps, Opd.tmps, optT, Nat.reducePow, Nat.reduceDiv, Nat.reduceMod, f1, f2, f3, f4, f5, f6, f7, gj', zw]
    refine ⟨2, by decide, by decide, ?_⟩
    simp only [m2, S2, Int.natCast_one, Int.cast_ofNat_Int]
    exact Bt.sel [0, 1, 2, 3, 4, 5, 6, 7, 8, 9, 10, 11] hh (by decide) (by simp only [q9C, FrSel, BlkSel, AV.ren, renL, AV.ok, okL, Option.some.injEq, exists_eq_left', List.length_cons, List.length_nil, Nat.reduceAdd, Nat.reduceLT, reduceCtorEq, implies_true, exists_eq', fo, fr, ak]) (by simp only [q9C, FrSel, BlkSel, AV.ren, renL, AV.ok, okL, Option.some.injEq, exists_eq_left', List.length_cons, List.length_nil, Nat.reduceAdd, Nat.reduceLT, reduceCtorEq, implies_true, exists_eq', fo, fr, wg2, ak, ao, apW, YuL])
  obtain rfl : i = 2 := by omega
  have lU : (qZC KL xs' ds' hs ++ outL xs ds nw).length ≤ 1000000 := by
   have := Jfv KL xs' ds' hs hs.length
   rw [List.take_length] at this
   rw [List.length_append]; omega
  have so := fun L k hk => Knz (h := h) L k (qZC KL xs' ds' hs ++ outL xs ds nw) hk lU
  simp only [S2, m2, X1r, X5W, zVq, if_true, if_false, ↓reduceIte, Nat.reduceAdd, Nat.reduceSub, Nat.reduceLeDiff, Nat.reduceEqDiff, Nat.reduceMul, Nat.reduceLT, Int.reduceLT, Int.reduceLE, Int.reduceEq, CO.tmps, Opd.tmps, optT, Nat.reducePow, Nat.reduceDiv, Nat.reduceMod, f1, f2, f3, f4, f5, f6, f7, Int.cast_ofNat_Int, so, hch, XZb, XPg, QV1, zw7, QNE hh, QFK hz, K9V hz, Ksi hz]
  exact Bt.sel [11, 3, 4] hh (by decide) (by simp only [q9C, FrSel, BlkSel, AV.ren, renL, AV.ok, okL, Option.some.injEq, exists_eq_left', List.length_cons, List.length_nil, Nat.reduceAdd, Nat.reduceLT, reduceCtorEq, implies_true, exists_eq']) (by simp only [q9C, FrSel, BlkSel, AV.ren, renL, AV.ok, okL, Option.some.injEq, exists_eq_left', List.length_cons, List.length_nil, Nat.reduceAdd, Nat.reduceLT, reduceCtorEq, implies_true, exists_eq'])
theorem Yhf : Spec Tryz.prog 38 zgC := by
 intro args h v h' e
 unfold zgC at e
 split at e
 ·rename_i l s t n k s' t'
  obtain ⟨hs, hl, e⟩ := YI8 e
  obtain ⟨xs, hv, e⟩ := YI8 e
  obtain ⟨ds, hd, e⟩ := YI8 e
  obtain ⟨nw, hn, e⟩ := YI8 e
  obtain ⟨kp, hk, e⟩ := YI8 e
  obtain ⟨xs', hv', e⟩ := YI8 e
  obtain ⟨ds', hd', e⟩ := YI8 e
  split at e
  ·rename_i hL
   split at e
   ·rename_i c
    cases e
    refine FnAt.c (FnAt.frz0 fun hz => JQa hz hl.frz hv.frz hd.frz hn.frz hk.frz hv'.frz hd'.frz hL.1 hL.2.1 hL.2.2 _ _ ?_)
    simp only [zgC, hl.frz.get, hv.frz.get, hd.frz.get, hn.frz.get, hk.frz.get, hv'.frz.get, hd'.frz.get, Option.bind_some]
    rw [if_pos hL, if_pos c]
   ·rename_i c
    cases e
    refine FnAt.c (FnAt.frz fun hz => JQa hz hl.frz hv.frz hd.frz hn.frz hk.frz hv'.frz hd'.frz hL.1 hL.2.1 hL.2.2 _ _ ?_)
    simp only [zgC, hl.frz.get, hv.frz.get, hd.frz.get, hn.frz.get, hk.frz.get, hv'.frz.get, hd'.frz.get, Option.bind_some, List.length_map]
    rw [if_pos hL, if_neg c]
  ·cases e
 ·cases e
end Go.Proofs.YtfaccliekejngaaGreat
end
section
namespace Go.Proofs.YtfaccliekejngaaGreat
set_option maxRecDepth 100000
set_option maxHeartbeats 8000000
open Classical in
noncomputable def ZnW (v : List Int) (ds : Dots) (l : List Hd) : Dots := (l.filter fun x => decide (KXy v ds = 0 ∧ YlY v ds x.1)).map (·.1)
theorem zaq (v : List Int) (ds : Dots) {l : List Hd} {i : Nat} (h : i < l.length) : ZnW v ds (l.take (i + 1)) = ZnW v ds (l.take i) ++ (if KXy v ds = 0 ∧ YlY v ds (l.getD i qjO.d).1 then [(l.getD i qjO.d).1] else []) := by
 unfold ZnW
 rw [List.take_succ_eq_append_getElem h, List.filter_append, List.map_append, List.getD_eq_getElem?_getD, List.getElem?_eq_getElem h]
 simp only [Option.getD_some, List.filter_cons, List.filter_nil, decide_eq_true_eq]
 split <;> rfl
theorem YqR (v : List Int) (ds : Dots) (l : List Hd) (i : Nat) : (ZnW v ds (l.take i)).length ≤ i := by
 unfold ZnW
 rw [List.length_map]
 exact Nat.le_trans (List.length_filter_le _ _) (by rw [List.length_take]; omega)
noncomputable def YEc : List AV → List AB → Option (AV × List AB)
 | [.ag [l, s, t], .ag [s', t']], h => (getS qjO h l).bind fun hs => (getS intR h s).bind fun v => (getS dotR h t).bind fun ds => (getS intR h s').bind fun v' => (getS dotR h t').bind fun ds' =>
   if hs.length ≤ 10000 ∧ v.length ≤ 1000000 ∧ ds.length ≤ 1000000 then
    if Kq6 hs v ds ≠ 0 then some (.tu [.ag [.ns, .ns, .ns, .ns], .i .i64 (Kq6 hs v ds)], h)
    else if KXy v' ds' ≠ 0 then some (.tu [.ag [.ns, .ns, .ns, .ns], .i .i64 (KXy v' ds')], h)
    else some (.tu [.ag [rsl qjO h.length (outL v' ds' hs), rsl dotR (h.length + 1) (ZnW v' ds' hs), rsl intR (h.length + 2) v, rsl dotR (h.length + 3) ds], .i .i64 0], h ++ [resB qjO true (outL v' ds' hs), resB dotR true (ZnW v' ds' hs), resB intR true v, resB dotR true ds])
   else none
 | _, _ => none
theorem Kyb {h H : List AB} {id id' : Nat} {L : List Hd} {M : Dots} {a b e : AV} : Bt Tryz.prog h.length [.tu [.ag [apS qjO id L, apS dotR id' M, a, b], e]] H [.tu [.ag [rsl qjO id L, rsl dotR id' M, a, b], e]] H := Bt.wk ⟨Jd8 ⟨JEJ ⟨J2U _ _, J2U _ _, Wk.refl _, Wk.refl _, trivial⟩, Wk.refl _, trivial⟩, trivial⟩
theorem X1R {h : List AB} (hz : h.map AB.freeze = h) {l s t s' t' : AV} {hs : List Hd} {xs xs' : List Int} {ds ds' : Dots} (hl : Rd qjO h l hs) (hv : Rd intR h s xs) (hd : Rd dotR h t ds) (hv' : Rd intR h s' xs') (hd' : Rd dotR h t' ds') (hL : hs.length ≤ 10000 ∧ xs.length ≤ 1000000 ∧ ds.length ≤ 1000000) (v : AV) (h' : List AB) (e : YEc [.ag [l, s, t], .ag [s', t']] h = some (v, h')) :
  FnAt Tryz.prog 17 [.ag [l, s, t], .ag [s', t']] h v h' := by
 simp only [YEc, hl.get, hv.get, hd.get, hv'.get, hd'.get, Option.bind_some] at e
 rw [if_pos hL] at e
 refine FnAt.run (by kernel_rfl) (T := ⟨[⟨31, X7Q, fun _ => []⟩, ⟨47, zZH KXy, fun _ => []⟩, ⟨60, q7G, fun _ => []⟩, ⟨55, T_un, fun _ => []⟩, ⟨105, KNI, fun _ => []⟩], []⟩) ⟨⟨zRg, QMk, Jqn, zLX, zRw, trivial⟩, trivial⟩ Tryz.func17 sw17 fun ho hh => ?_
 simp only [qMC, JAX, Bool.and_eq_true] at ho
 have f1 := hl.fx ho.1.1 (sz := 34) rfl
 have f2 := hv.fx ho.1.2.1 (sz := 1) rfl
 have f3 := hd.fx ho.1.2.2.1 (sz := 2) rfl
 have f4 := hv'.fx ho.2.1.1 (sz := 1) rfl
 have f5 := hd'.fx ho.2.1.2.1 (sz := 2) rfl
 have hL1 : (hs.length ≤ 1000000) = True := eq_true (by omega)
 have hL2 := eq_true hL.2.1
 have hL3 := eq_true hL.2.2
 have up : ∀ (t : AV), t.ok (fun i => decide (i < h.length)) = true → ∀ c, t.ok (fun i => decide (i < h.length + c)) = true := fun t ht c => AV.ok_mono (fun i q => by simp only [decide_eq_true_eq] at q ⊢; omega) t ht
 have rn : ∀ (t : AV), t.ok (fun i => decide (i < h.length)) = true → ∀ sel, Wk (t.ren (selN h.length sel)) t := fun t ht sel => Wk.ren (fun i hi => Xdk hi) ht
 have fo := fun c => And.intro (up l ho.1.1 c) (And.intro (up s ho.1.2.1 c) (And.intro (up t ho.1.2.2.1 c) (And.intro (up s' ho.2.1.1 c) (up t' ho.2.1.2.1 c))))
 have fr := fun sel => And.intro (rn l ho.1.1 sel) (And.intro (rn s ho.1.2.1 sel) (And.intro (rn t ho.1.2.2.1 sel) (And.intro (rn s' ho.2.1.1 sel) (rn t' ho.2.1.2.1 sel))))
 unfold w17
 by_cases c0 : Kq6 hs xs ds = 0
 case neg =>
  have c0' := eq_false c0
  rw [if_pos c0] at e
  cases e
  simp only [XH8, QN9, X1r, X5W, zVq, simprocAttr, CO.tmps, Opd.tmps, optT, Nat.reducePow, Nat.reduceDiv, Nat.reduceMod, f1, f2, f3, f4, f5, X7Q, c0', hL1, ne_eq, not_false_eq_true, not_true_eq_false, decide_true, decide_false]
  exact Bt.drop _ hh rfl (by simp only [ZVg, qMC, YI0, JAX, Yiy, ok_i, Bool.and_true])
 by_cases c1 : KXy xs' ds' = 0
 case neg =>
  have c1' := eq_false c1
  rw [if_neg (not_not_intro c0), if_pos c1] at e
  cases e
  simp only [XH8, QN9, X1r, X5W, zVq, simprocAttr, CO.tmps, Opd.tmps, optT, Nat.reducePow, Nat.reduceDiv, Nat.reduceMod, f1, f2, f3, f4, f5, X7Q, zZH, c0, c1', hL1, ne_eq, not_false_eq_true, not_true_eq_false, decide_true, decide_false]
  exact Bt.drop _ hh rfl (by simp only [ZVg, qMC, YI0, JAX, Yiy, ok_i, Bool.and_true])
 rw [if_neg (not_not_intro c0), if_neg (not_not_intro c1)] at e
 cases e
 simp only [XH8, QN9, X1r, X5W, zVq, simprocAttr, CO.tmps, Opd.tmps, optT, Nat.reducePow, Nat.reduceDiv, Nat.reduceMod, f1, f2, f3, f4, f5, X7Q, zZH, q7G, T_un, c0, c1, hL1, hL2, hL3, hv'.isSl, hd'.isSl, ne_eq, not_false_eq_true, not_true_eq_false, decide_true, decide_false]
 have ak := fun (n : Nat) (L : List Hd) => And.intro (ZrU (r := qjO) (fun i => decide (i < n + 9)) (n + 7) L (by simp)) (ZrU (r := qjO) (fun i => decide (i < n + 12)) (n + 7) L (by simp))
 have am := fun (n : Nat) (L : Dots) => And.intro (ZrU (r := dotR) (fun i => decide (i < n + 9)) (n + 8) L (by simp)) (ZrU (r := dotR) (fun i => decide (i < n + 12)) (n + 8) L (by simp))
 refine YHj (S := Nat) (fun j => hs.length - j) (fun j => tp 4 ++ [.p (h.length + 2) 0] ++ tp 3 ++ [.p (h.length + 5) 0, .f (.func 105) [] [.p (h.length + 6) 0]] ++ tp 21 ++ [l, .i .i64 hs.length, .i .i64 j] ++ tp 21) (fun j => h ++ [.blk false true [l, s, t], .blk false true [s', t'], .blk false true [.ns, .ns, .ns, .ns], resB intR true xs, resB dotR true ds, .blk false true [apS qjO (h.length + 7) (outL xs' ds' (hs.take j)), apS dotR (h.length + 8) (ZnW xs' ds' (hs.take j)), rsl intR (h.length + 3) xs, rsl dotR (h.length + 4) ds], .blk false true [s', t'], resB qjO true (outL xs' ds' (hs.take j)), resB dotR true (ZnW xs' ds' (hs.take j))]) (fun j => j ≤ hs.length) 0 (Nat.zero_le _) ?_ fun j hj => ?_
 ·show Bt _ _ _ _ _ (h ++ ([.blk false true [l, s, t], .blk false true [s', t'], .blk false true [.ns, .ns, .ns, .ns], resB intR true xs, resB dotR true ds, .blk false true [.ns, .ns, rsl intR (h.length + 3) xs, rsl dotR (h.length + 4) ds], .blk false true [s', t']] ++ List.replicate 2 .dead))
  rw [← List.append_assoc]
  exact Bt.trans (Bt.wk (by simp only [X1r, zVq, simprocAttr])) (Bt.pad _ _ 2)
 by_cases gj : j < hs.length
 ·have gj' := eq_true gj
  have e1 : IntKind.i64.wrap ((j : Int) + 1) = ((j + 1 : Nat) : Int) := ZL4 (by unfold In64; omega)
  have h1 := ZsQ xs' ds' gj
  have h2 := zaq xs' ds' gj
  have l1 := JeT xs' ds' hs j
  have l2 := YqR xs' ds' hs j
  have kd : ∀ z : Hd, (qjO.f z).take 2 = [.i .i64 z.1.1, .i .i64 z.1.2] := fun _ => rfl
  generalize hx : hs.getD j qjO.d = x at *
  generalize ho1 : outL xs' ds' (hs.take j) = O at *
  generalize ho2 : ZnW xs' ds' (hs.take j) = K at *
  have fa := fun L k ys hb => ZtI (h := h) (p := h.length) rfl (r := qjO) (sz := 34) rfl L k O 48 1 ys hb (by decide) (by omega) (by unfold maxLen; omega)
  have fb := fun L k ys hb => ZtI (h := h) (p := h.length) rfl (r := dotR) (sz := 2) rfl L k K 16 1 ys hb (by decide) (by omega) (by unfold maxLen; omega)
  by_cases q : KXy xs' ds' = 0 ∧ YlY xs' ds' x.1
  ·have q' := eq_true q
   rw [if_neg (not_not_intro q), List.append_nil] at h1
   rw [if_pos q] at h2
   simp only [X1r, X5W, zVq, simprocAttr, CO.tmps, Opd.tmps, optT, Nat.reducePow, Nat.reduceDiv, Nat.reduceMod, f1, f2, f3, f4, f5, gj', hx, e1, KNI, KDg, q', fb, kd, Q4R, KJo, XEe, zp7, ZOt, Ke3, List.length_cons, List.length_nil, ne_eq, not_false_eq_true, not_true_eq_false, decide_true, decide_false]
   refine ⟨j + 1, gj, by dsimp only; omega, ?_⟩
   simp only [h1, h2, XlZ, zbl]
   exact Bt.sel [0, 1, 2, 3, 4, 5, 6, 7, 11] hh (by decide) (by simp only [q9C, FrSel, BlkSel, AV.ren, renL, AV.ok, okL, Option.some.injEq, exists_eq_left', List.length_cons, List.length_nil, Nat.reduceAdd, Nat.reduceLT, reduceCtorEq, implies_true, exists_eq', fo, fr, ak, am, KdD, YuL, ZeP]) (by simp only [q9C, FrSel, BlkSel, AV.ren, renL, AV.ok, okL, Option.some.injEq, exists_eq_left', List.length_cons, List.length_nil, Nat.reduceAdd, Nat.reduceLT, reduceCtorEq, implies_true, exists_eq', fo, fr, ak, am, YuL, ZeP])
  ·have q' := eq_false q
   rw [if_pos q] at h1
   rw [if_neg q, List.append_nil] at h2
   simp only [X1r, X5W, zVq, simprocAttr, CO.tmps, Opd.tmps, optT, Nat.reducePow, Nat.reduceDiv, Nat.reduceMod, f1, f2, f3, f4, f5, gj', hx, e1, KNI, KDg, q', fa, kd, Q4R, KJo, XEe, zp7, ZOt, Ke3, List.length_cons, List.length_nil, ne_eq, not_false_eq_true, not_true_eq_false, decide_true, decide_false]
   refine ⟨j + 1, gj, by dsimp only; omega, ?_⟩
   simp only [h1, h2, XlZ, zbl]
   exact Bt.sel [0, 1, 2, 3, 4, 5, 6, 11, 8] hh (by decide) (by simp only [q9C, FrSel, BlkSel, AV.ren, renL, AV.ok, okL, Option.some.injEq, exists_eq_left', List.length_cons, List.length_nil, Nat.reduceAdd, Nat.reduceLT, reduceCtorEq, implies_true, exists_eq', fo, fr, ak, am, YuL, ZeP]) (by simp only [q9C, FrSel, BlkSel, AV.ren, renL, AV.ok, okL, Option.some.injEq, exists_eq_left', List.length_cons, List.length_nil, Nat.reduceAdd, Nat.reduceLT, reduceCtorEq, implies_true, exists_eq', fo, fr, ak, am, YuL, ZeP])
 ·obtain rfl : j = hs.length := by omega
  have gj' := eq_false gj
  simp only [List.take_length, X1r, X5W, zVq, simprocAttr, CO.tmps, Opd.tmps, optT, Nat.reducePow, Nat.reduceDiv, Nat.reduceMod, f1, f2, f3, f4, f5, gj']
  refine Bt.trans Kyb ?_
  exact Bt.sel [7, 8, 3, 4] hh (by decide) (by simp only [q9C, FrSel, BlkSel, AV.ren, renL, AV.ok, okL, Option.some.injEq, exists_eq_left', List.length_cons, List.length_nil, Nat.reduceAdd, Nat.reduceLT, reduceCtorEq, implies_true, exists_eq']) (by simp only [q9C, FrSel, BlkSel, AV.ren, renL, AV.ok, okL, Option.some.injEq, exists_eq_left', List.length_cons, List.length_nil, Nat.reduceAdd, Nat.reduceLT, reduceCtorEq, implies_true, exists_eq'])
theorem YZD : Spec Tryz.prog 17 YEc := by
 intro args h v h' e
 unfold YEc at e
 split at e
 ·rename_i l s t s' t'
  obtain ⟨hs, hl, e⟩ := YI8 e
  obtain ⟨xs, hv, e⟩ := YI8 e
  obtain ⟨ds, hd, e⟩ := YI8 e
  obtain ⟨xs', hv', e⟩ := YI8 e
  obtain ⟨ds', hd', e⟩ := YI8 e
  split at e
  ·rename_i hL
   split at e
   ·rename_i c
    cases e
    refine FnAt.c (FnAt.frz0 fun hz => X1R hz hl.frz hv.frz hd.frz hv'.frz hd'.frz hL _ _ ?_)
    simp only [YEc, hl.frz.get, hv.frz.get, hd.frz.get, hv'.frz.get, hd'.frz.get, Option.bind_some]
    rw [if_pos hL, if_pos c]
   ·rename_i c
    split at e
    ·rename_i c1
     cases e
     refine FnAt.c (FnAt.frz0 fun hz => X1R hz hl.frz hv.frz hd.frz hv'.frz hd'.frz hL _ _ ?_)
     simp only [YEc, hl.frz.get, hv.frz.get, hd.frz.get, hv'.frz.get, hd'.frz.get, Option.bind_some]
     rw [if_pos hL, if_neg c, if_pos c1]
    ·rename_i c1
     cases e
     refine FnAt.c (FnAt.frz fun hz => X1R hz hl.frz hv.frz hd.frz hv'.frz hd'.frz hL _ _ ?_)
     simp only [YEc, hl.frz.get, hv.frz.get, hd.frz.get, hv'.frz.get, hd'.frz.get, Option.bind_some, List.length_map]
     rw [if_pos hL, if_neg c, if_neg c1]
  ·cases e
 ·cases e
end Go.Proofs.YtfaccliekejngaaGreat
end
