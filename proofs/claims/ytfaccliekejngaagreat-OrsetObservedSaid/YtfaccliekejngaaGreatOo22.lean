/- Part 22 of what the laws' proofs rest on. No condition. -/
import Derived.Test.YtfaccliekejngaaGreatOo21
set_option linter.all false
section
namespace Go.Proofs.YtfaccliekejngaaGreat
set_option maxRecDepth 100000
set_option maxHeartbeats 8000000
noncomputable def zdj : List AV → List AB → Option (AV × List AB)
 | [y, .p i 0, .p b 0], h => match XAh h i with
  | some [.f (.func 105) [] [.p j 0]] => match XAh h j with
   | some [s, t] => match XAh h b with
    | some [l, _, _] => (getH y).bind fun x => (getS intR h s).bind fun v => (getS dotR h t).bind fun ds => (getS qjO h l).bind fun hs => some (.b (decide (¬ (KXy v ds = 0 ∧ YlY v ds x.1) ∨ x ∈ hs)), h)
    | _ => none
   | _ => none
  | _ => none
 | _, _ => none
theorem Zwz : Spec Tryz.prog 56 zdj := by
 intro args h v h' e
 unfold zdj at e
 split at e
 ·rename_i y i b
  split at e
  ·rename_i j b1
   split at e
   ·rename_i s t b2
    split at e
    ·rename_i l s' t' b3
     obtain ⟨x, hx, e2⟩ := KFu e
     clear e
     subst hx
     obtain ⟨vs, hs, e3⟩ := YI8 e2
     obtain ⟨ds, ht, e4⟩ := YI8 e3
     obtain ⟨hd, hl, e5⟩ := YI8 e4
     cases e5
     refine FnAt.c (FnAt.run (by kernel_rfl) (T := ⟨[⟨105, KNI, fun _ => []⟩, ⟨57, zi2, fun _ => []⟩], []⟩) ⟨⟨zRw, zyY, trivial⟩, trivial⟩ Tryz.func56 sw56 fun ho hh => ?_)
     have g1 := qee b1
     have g2 := qee b2
     have g3 := qee b3
     have k1 : ∀ x, getS intR (h ++ x) s = some vs := fun x => (hs.app x).get
     have k2 : ∀ x, getS dotR (h ++ x) t = some ds := fun x => (ht.app x).get
     have k3 : ∀ x, getS qjO (h ++ x) l = some hd := fun x => (hl.app x).get
     unfold w56
     by_cases q : KXy vs ds = 0 ∧ YlY vs ds x.1
     ·have q1 := eq_true q
      simp only [XH8, QN9, X1r, X5W, zVq, if_true, if_false, ↓reduceIte, Nat.reduceAdd, Nat.reduceSub, Nat.reduceLeDiff, Nat.reduceEqDiff, Nat.reduceMul, Nat.reduceLT, Int.reduceLT, Int.reduceLE, Int.reduceEq, CO.tmps, Opd.tmps, optT, Nat.reducePow, Nat.reduceDiv, Nat.reduceMod, g1, g2, g3, k1, k2, k3, KNI, zi2, KDg, q1, KJo, XEe, zp7, ZOt, Ke3]
      exact Bt.dropB _ hh rfl
     ·have q1 := eq_false q
      simp only [XH8, QN9, X1r, X5W, zVq, if_true, if_false, ↓reduceIte, Nat.reduceAdd, Nat.reduceSub, Nat.reduceLeDiff, Nat.reduceEqDiff, Nat.reduceMul, Nat.reduceLT, Int.reduceLT, Int.reduceLE, Int.reduceEq, CO.tmps, Opd.tmps, optT, Nat.reducePow, Nat.reduceDiv, Nat.reduceMod, g1, g2, g3, k1, k2, k3, KNI, zi2, KDg, q1, KJo, XEe, zp7, ZOt, Ke3]
      exact Bt.dropB _ hh rfl
    ·cases e
   ·cases e
  ·cases e
 ·cases e
open Classical in
noncomputable def YvZ (hs' : List Hd) (v' : List Int) (ds' : Dots) (l : List Hd) : List Hd := l.filter fun x => decide (¬ (KXy v' ds' = 0 ∧ YlY v' ds' x.1) ∨ x ∈ hs')
theorem QWK (hs' : List Hd) (v' : List Int) (ds' : Dots) {l : List Hd} {i : Nat} (h : i < l.length) : YvZ hs' v' ds' (l.take (i + 1)) = YvZ hs' v' ds' (l.take i) ++ (if ¬ (KXy v' ds' = 0 ∧ YlY v' ds' (l.getD i qjO.d).1) ∨ (l.getD i qjO.d) ∈ hs' then [l.getD i qjO.d] else []) := by
 unfold YvZ
 rw [List.take_succ_eq_append_getElem h, List.filter_append, List.getD_eq_getElem?_getD, List.getElem?_eq_getElem h]
 simp only [Option.getD_some, List.filter_cons, List.filter_nil, decide_eq_true_eq]
theorem XqA (hs' : List Hd) (v' : List Int) (ds' : Dots) (l : List Hd) (i : Nat) : (YvZ hs' v' ds' (l.take i)).length ≤ i := by
 unfold YvZ
 exact Nat.le_trans (List.length_filter_le _ _) (by rw [List.length_take]; omega)
theorem ZiX {l l' : List Hd} {v v' : List Int} {ds ds' : Dots} (a : RG l v ds) (b : RG l' v' ds') (g : zwL l l') : sortP cfH (YvZ l' v' ds' l ++ outL v ds l') = jnL l l' v v' ds ds' := by
 have e : YvZ l' v' ds' l ++ outL v ds l' = chU l v ds l' [] v' ds' := by
  unfold chU
  rw [YD4 a.nf a.len]
  congr 1
  unfold YvZ
  refine List.filter_congr fun x hx => decide_eq_decide.2 ?_
  rw [QbQ b.nf.rg, and_iff_right (b.nf.check b.len)]
  constructor
  ·rintro (q | q)
   ·exact .inr (.inr q)
   ·exact .inl ⟨x, q, rfl⟩
  ·rintro (⟨y, hy, ey⟩ | q | q)
   ·have : x = y := Prod.ext ey.symm (g x hx y hy ey.symm)
    rw [this]
    exact .inr hy
   ·cases q
   ·exact .inl q
 rw [e]
 exact ZPn a b
theorem ZIJ {h : List AB} (hz : h.map AB.freeze = h) {l s t l' s' t' : AV} {hs hs' : List Hd} {xs xs' : List Int} {ds ds' : Dots} (hl : Rd qjO h l hs) (hv : Rd intR h s xs) (hd : Rd dotR h t ds) (hl' : Rd qjO h l' hs') (hv' : Rd intR h s' xs') (hd' : Rd dotR h t' ds') (hL : hs.length ≤ 10000 ∧ hs'.length ≤ 10000) (k1 : t.capOk = true) (k2 : t'.capOk = true) (v : AV) (h' : List AB) (e : zXx [.ag [l, s, t], .ag [l', s', t']] h = some (v, h')) :
  FnAt Tryz.prog 15 [.ag [l, s, t], .ag [l', s', t']] h v h' := by
 simp only [zXx, hl.get, hv.get, hd.get, hl'.get, hv'.get, hd'.get, Option.bind_some] at e
 rw [if_pos ⟨hL, k1, k2⟩] at e
 refine FnAt.run (by kernel_rfl) (T := ⟨[⟨31, X7Q, fun _ => []⟩, ⟨53, XrY, fun _ => []⟩, ⟨54, Xo8, fun _ => []⟩, ⟨55, T_un, fun _ => []⟩, ⟨56, zdj, fun _ => []⟩, ⟨105, KNI, fun _ => []⟩, ⟨58, YQi, wsS⟩], []⟩) ⟨⟨zRg, zOv, Ksu, zLX, Zwz, zRw, J3e, trivial⟩, trivial⟩ Tryz.func15 sw15 fun ho hh => ?_
 simp only [qMC, JAX, Bool.and_eq_true] at ho
 have f1 := hl.fx ho.1.1 (sz := 34) rfl
 have f2 := hv.fx ho.1.2.1 (sz := 1) rfl
 have f3 := hd.fx ho.1.2.2.1 (sz := 2) rfl
 have f4 := hl'.fx ho.2.1.1 (sz := 34) rfl
 have f5 := hv'.fx ho.2.1.2.1 (sz := 1) rfl
 have f6 := hd'.fx ho.2.1.2.2.1 (sz := 2) rfl
 have hL1 : (hs.length ≤ 1000000) = True := eq_true (by omega)
 have hL2 : (hs'.length ≤ 1000000) = True := eq_true (by omega)
 have up : ∀ (t : AV), t.ok (fun i => decide (i < h.length)) = true → ∀ c, t.ok (fun i => decide (i < h.length + c)) = true := fun t ht c => AV.ok_mono (fun i q => by simp only [decide_eq_true_eq] at q ⊢; omega) t ht
 have rn : ∀ (t : AV), t.ok (fun i => decide (i < h.length)) = true → ∀ sel, Wk (t.ren (selN h.length sel)) t := fun t ht sel => Wk.ren (fun i hi => Xdk hi) ht
 have fo := fun c => And.intro (up l ho.1.1 c) (And.intro (up s ho.1.2.1 c) (And.intro (up t ho.1.2.2.1 c) (And.intro (up l' ho.2.1.1 c) (And.intro (up s' ho.2.1.2.1 c) (up t' ho.2.1.2.2.1 c)))))
 have fr := fun sel => And.intro (rn l ho.1.1 sel) (And.intro (rn s ho.1.2.1 sel) (And.intro (rn t ho.1.2.2.1 sel) (And.intro (rn l' ho.2.1.1 sel) (And.intro (rn s' ho.2.1.2.1 sel) (rn t' ho.2.1.2.2.1 sel)))))
 have wag : ∀ sel, Wk (.ag [l.ren (selN h.length sel), s.ren (selN h.length sel), t.ren (selN h.length sel), l'.ren (selN h.length sel), s'.ren (selN h.length sel), t'.ren (selN h.length sel)]) (.ag [l, s, t, l', s', t']) = True := fun sel => eq_true (JEJ ⟨rn l ho.1.1 sel, rn s ho.1.2.1 sel, rn t ho.1.2.2.1 sel, rn l' ho.2.1.1 sel, rn s' ho.2.1.2.1 sel, rn t' ho.2.1.2.2.1 sel, trivial⟩)
 have nfo : AV.nf.one = true := rfl
 have zw01 : IntKind.i64.wrap ((0 : Int) + 1) = 1 := by decide
 have zw12 : IntKind.i64.wrap ((1 : Int) + 1) = 2 := by decide
 unfold w15
 simp only [XH8, QN9, X1r, X5W, zVq, if_true, if_false, ↓reduceIte, Nat.reduceAdd, Nat.reduceSub, Nat.reduceLeDiff, Nat.reduceEqDiff, Nat.reduceMul, Nat.reduceLT, Int.reduceLT, Int.reduceLE, Int.reduceEq, CO.tmps, Opd.tmps, optT, Nat.reducePow, Nat.reduceDiv, Nat.reduceMod, f1, f2, f3, f4, f5, f6]
 refine YHj (S := Nat) (fun i => 2 - i) (fun i => tp 2 ++ [.p (h.length + 0) 0, .p (h.length + 1) 0, .p (h.length + 2) 0] ++ tp 15 ++ [.ag [l, s, t, l', s', t'], .i .i64 i] ++ tp 66) (fun _ => h ++ [.blk false true [l, s, t], .blk false true [l', s', t'], .blk false true [.ns, .ns, .ns]]) (fun i => i ≤ 2 ∧ (1 ≤ i → Kq6 hs xs ds = 0) ∧ (2 ≤ i → Kq6 hs' xs' ds' = 0)) 0 ⟨by omega, fun q => by omega, fun q => by omega⟩ (Bt.wk (by simp only [X1r, zVq, if_true, if_false, reduceIte, Nat.reduceAdd, Nat.reduceSub, Nat.reduceLeDiff, Nat.reduceEqDiff, Nat.reduceMul, Nat.reduceLT, Int.reduceLT, Int.reduceLE, Int.reduceEq])) fun i hi => ?_
 obtain ⟨hi2, hc0, hc1⟩ := hi
 have ix0 : ixaV 2 3 true (.ag [l, s, t, l', s', t']) (.i .i64 0) = some (.ag [l, s, t]) := rfl
 have ix1 : ixaV 2 3 true (.ag [l, s, t, l', s', t']) (.i .i64 1) = some (.ag [l', s', t']) := rfl
 by_cases i0 : i = 0
 ·subst i0
  by_cases c0 : Kq6 hs xs ds = 0
  ·simp only [X1r, X5W, zVq, if_true, if_false, ↓reduceIte, Nat.reduceAdd, Nat.reduceSub, Nat.reduceLeDiff, Nat.reduceEqDiff, Nat.reduceMul, Nat.reduceLT, Int.reduceLT, Int.reduceLE, Int.reduceEq, CO.tmps, Opd.tmps, optT, Nat.reducePow, Nat.reduceDiv, Nat.reduceMod, f1, f2, f3, f4, f5, f6, QqN, ix0, X7Q, c0, hL1, zw01, ne_eq, not_false_eq_true, not_true_eq_false, decide_true, decide_false]
   exact ⟨1, ⟨by decide, by simp, fun q => absurd q (by decide)⟩, by decide, Bt.sel [0, 1, 2] hh (by decide) (by simp only [q9C, FrSel, BlkSel, AV.ren, renL, AV.ok, okL, Option.some.injEq, exists_eq_left', List.length_cons, List.length_nil, Nat.reduceAdd, Nat.reduceLT, reduceCtorEq, implies_true, exists_eq', fo, fr]) (by simp only [q9C, FrSel, BlkSel, AV.ren, renL, AV.ok, okL, Option.some.injEq, exists_eq_left', List.length_cons, List.length_nil, Nat.reduceAdd, Nat.reduceLT, reduceCtorEq, implies_true, exists_eq', fo, fr, wag, Int.natCast_one])⟩
  ·have c0' := eq_false c0
   rw [if_pos c0] at e
   cases e
   simp only [X1r, X5W, zVq, if_true, if_false, ↓reduceIte, Nat.reduceAdd, Nat.reduceSub, Nat.reduceLeDiff, Nat.reduceEqDiff, Nat.reduceMul, Nat.reduceLT, Int.reduceLT, Int.reduceLE, Int.reduceEq, CO.tmps, Opd.tmps, optT, Nat.reducePow, Nat.reduceDiv, Nat.reduceMod, f1, f2, f3, f4, f5, f6, QqN, ix0, X7Q, c0', hL1, zw01, ne_eq, not_false_eq_true, not_true_eq_false, decide_true, decide_false]
   exact Bt.drop _ hh rfl (by simp only [ZVg, qMC, YI0, JAX, Yiy, ok_i, Bool.and_true])
 by_cases i1 : i = 1
 ·subst i1
  have c0 := hc0 (Nat.le_refl _)
  rw [if_neg (not_not_intro c0)] at e
  by_cases c1 : Kq6 hs' xs' ds' = 0
  ·simp only [X1r, X5W, zVq, if_true, if_false, ↓reduceIte, Nat.reduceAdd, Nat.reduceSub, Nat.reduceLeDiff, Nat.reduceEqDiff, Nat.reduceMul, Nat.reduceLT, Int.reduceLT, Int.reduceLE, Int.reduceEq, CO.tmps, Opd.tmps, optT, Nat.reducePow, Nat.reduceDiv, Nat.reduceMod, f1, f2, f3, f4, f5, f6, QqN, ix1, X7Q, c1, hL2, zw12, ne_eq, Int.natCast_one, not_false_eq_true, not_true_eq_false, decide_true, decide_false]
   exact ⟨2, ⟨by decide, fun _ => c0, by simp⟩, by decide, Bt.sel [0, 1, 2] hh (by decide) (by simp only [q9C, FrSel, BlkSel, AV.ren, renL, AV.ok, okL, Option.some.injEq, exists_eq_left', List.length_cons, List.length_nil, Nat.reduceAdd, Nat.reduceLT, reduceCtorEq, implies_true, exists_eq', fo, fr]) (by simp only [q9C, FrSel, BlkSel, AV.ren, renL, AV.ok, okL, Option.some.injEq, exists_eq_left', List.length_cons, List.length_nil, Nat.reduceAdd, Nat.reduceLT, reduceCtorEq, implies_true, exists_eq', fo, fr, wag, Int.cast_ofNat_Int])⟩
  ·have c1' := eq_false c1
   rw [if_pos c1] at e
   cases e
   simp only [X1r, X5W, zVq, if_true, if_false, ↓reduceIte, Nat.reduceAdd, Nat.reduceSub, Nat.reduceLeDiff, Nat.reduceEqDiff, Nat.reduceMul, Nat.reduceLT, Int.reduceLT, Int.reduceLE, Int.reduceEq, CO.tmps, Opd.tmps, optT, Nat.reducePow, Nat.reduceDiv, Nat.reduceMod, f1, f2, f3, f4, f5, f6, QqN, ix1, X7Q, c1', hL2, zw12, ne_eq, Int.natCast_one, not_false_eq_true, not_true_eq_false, decide_true, decide_false]
   exact Bt.drop _ hh rfl (by simp only [ZVg, qMC, YI0, JAX, Yiy, ok_i, Bool.and_true])
 obtain rfl : i = 2 := by omega
 have c0 := hc0 (by decide)
 have c1 := hc1 (by decide)
 clear hc0 hc1
 rw [if_neg (not_not_intro c0), if_neg (not_not_intro c1)] at e
 have ra := zFp.1 c0
 have rb := zFp.1 c1
 have cs := ra.nf.check ra.len
 have cs' := rb.nf.check rb.len
 by_cases ga : zwL hs hs'
 case neg =>
  have ga' := eq_false ga
  rw [if_pos ga] at e
  cases e
  simp only [X1r, X5W, zVq, if_true, if_false, ↓reduceIte, Nat.reduceAdd, Nat.reduceSub, Nat.reduceLeDiff, Nat.reduceEqDiff, Nat.reduceMul, Nat.reduceLT, Int.reduceLT, Int.reduceLE, Int.reduceEq, CO.tmps, Opd.tmps, optT, Nat.reducePow, Nat.reduceDiv, Nat.reduceMod, f1, f2, f3, f4, f5, f6, Int.cast_ofNat_Int, XrY, ga', not_false_eq_true, not_true_eq_false, decide_true, decide_false]
  exact Bt.drop _ hh rfl (by simp only [ZVg, qMC, YI0, JAX, Yiy, ok_i, Bool.and_true])
 have ga' := eq_true ga
 rw [if_neg (not_not_intro ga)] at e
 by_cases g : (zbr xs xs' ds ds').2.length ≤ 4096
 case neg =>
  have g' := eq_false g
  rw [if_pos g] at e
  cases e
  simp only [X1r, X5W, zVq, if_true, if_false, ↓reduceIte, Nat.reduceAdd, Nat.reduceSub, Nat.reduceLeDiff, Nat.reduceEqDiff, Nat.reduceMul, Nat.reduceLT, Int.reduceLT, Int.reduceLE, Int.reduceEq, CO.tmps, Opd.tmps, optT, Nat.reducePow, Nat.reduceDiv, Nat.reduceMod, f1, f2, f3, f4, f5, f6, Int.cast_ofNat_Int, XrY, ga', Xo8, cs, cs', g', k1, k2, ne_eq, not_false_eq_true, not_true_eq_false, decide_true, decide_false]
  exact Bt.drop _ hh rfl (by simp only [ZVg, qMC, YI0, JAX, Yiy, ok_i, Bool.and_true])
 have g' := eq_true g
 rw [if_neg (not_not_intro g)] at e
 cases e
 simp only [X1r, X5W, zVq, if_true, if_false, ↓reduceIte, Nat.reduceAdd, Nat.reduceSub, Nat.reduceLeDiff, Nat.reduceEqDiff, Nat.reduceMul, Nat.reduceLT, Int.reduceLT, Int.reduceLE, Int.reduceEq, CO.tmps, Opd.tmps, optT, Nat.reducePow, Nat.reduceDiv, Nat.reduceMod, f1, f2, f3, f4, f5, f6, Int.cast_ofNat_Int, XrY, ga', Xo8, T_un, nfo, true_and, cs, cs', g', k1, k2, hl.isSl, hv.isSl, hd.isSl, hl'.isSl, hv'.isSl, hd'.isSl, ne_eq, not_false_eq_true, not_true_eq_false, decide_true, decide_false, QNE hh, QFK hz, K9V hz, Ksi hz]
 generalize hJ : zbr xs xs' ds ds' = J at *
 obtain ⟨jv, jd⟩ := J
 dsimp only at *
 have hm : ∃ Lm : Nat → List Hd, Lm 0 = [] ∧ Lm 1 = YvZ hs' xs' ds' hs ∧ Lm 2 = YvZ hs' xs' ds' hs ++ outL xs ds hs' := ⟨fun n => if n = 0 then [] else if n = 1 then YvZ hs' xs' ds' hs else YvZ hs' xs' ds' hs ++ outL xs ds hs', rfl, rfl, rfl⟩
 obtain ⟨Lm, m0, m1, m2⟩ := hm
 have hS : ∃ Sm : Nat → AV, Sm 0 = .ns ∧ Sm 1 = apS qjO (h.length + 9) (YvZ hs' xs' ds' hs) ∧ Sm 2 = rsl qjO (h.length + 9) (YvZ hs' xs' ds' hs ++ outL xs ds hs') := ⟨fun n => if n = 0 then .ns else if n = 1 then apS qjO (h.length + 9) (YvZ hs' xs' ds' hs) else rsl qjO (h.length + 9) (YvZ hs' xs' ds' hs ++ outL xs ds hs'), rfl, rfl, rfl⟩
 obtain ⟨Sm, S0, S1, S2⟩ := hS
 have ao : ∀ (n : Nat) (L : List Hd), (apS qjO (n + 9) L).ok (fun i => decide (i < n + 11)) = true := fun n L => ZrU _ _ _ (by simp)
 have ao2 : ∀ (n : Nat) (L : List Hd), (apS qjO (n + 9) L).ok (fun i => decide (i < n + 10)) = true := fun n L => ZrU _ _ _ (by simp)
 have apW : ∀ (n : Nat) (L : List Hd), Wk (rsl qjO n L) (apS qjO n L) = True := fun n L => eq_true (J2U n L)
 have wg2 : ∀ sel, Wk (.ag [l.ren (selN h.length sel), .f (.func 56) [] [.p (h.length + 7) 0, .p (h.length + 1) 0], l'.ren (selN h.length sel), .f (.func 105) [] [.p (h.length + 8) 0]]) (.ag [l, .f (.func 56) [] [.p (h.length + 7) 0, .p (h.length + 1) 0], l', .f (.func 105) [] [.p (h.length + 8) 0]]) = True := fun sel => eq_true (JEJ ⟨rn l ho.1.1 sel, Wk.refl _, rn l' ho.2.1.1 sel, Wk.refl _, trivial⟩)
 refine YHj (S := Nat) (fun i => 2 - i) (fun i => tp 4 ++ [.p (h.length + 2) 0] ++ tp 4 ++ [.p (h.length + 5) 0] ++ tp 3 ++ [Sm i] ++ tp 49 ++ [.ag [l, (.f (.func 56) [] [.p (h.length + 7) 0, .p (h.length + 1) 0]), l', (.f (.func 105) [] [.p (h.length + 8) 0])], .i .i64 i] ++ tp 23) (fun i => h ++ [.blk false true [l, s, t], .blk false true [l', s', t'], .blk false true [.ns, .ns, .ns], resB intR true jv, resB dotR true jd, .blk false true [rsl intR (h.length + 3) jv, rsl dotR (h.length + 4) jd], .blk false true [s', t'], .blk false true [.f (.func 105) [] [.p (h.length + 6) 0]], .blk false true [s, t], resB qjO true (Lm i)]) (fun i => i ≤ 2) 0 (by decide) ?_ fun i hi => ?_
 ·dsimp only
  rw [m0, S0]
  show Bt _ _ _ _ _ (h ++ ([.blk false true [l, s, t], .blk false true [l', s', t'], .blk false true [.ns, .ns, .ns], resB intR true jv, resB dotR true jd, .blk false true [rsl intR (h.length + 3) jv, rsl dotR (h.length + 4) jd], .blk false true [s', t'], .blk false true [.f (.func 105) [] [.p (h.length + 6) 0]], .blk false true [s, t]] ++ List.replicate 1 .dead))
  rw [← List.append_assoc]
  exact Bt.trans (Bt.wk (by simp only [X1r, zVq, if_true, if_false, reduceIte, Nat.reduceAdd, Nat.reduceSub, Nat.reduceLeDiff, Nat.reduceEqDiff, Nat.reduceMul, Nat.reduceLT, Int.reduceLT, Int.reduceLE, Int.reduceEq])) (Bt.pad _ _ 1)
 have la0 := ZD3 xs ds hs'
 by_cases i0 : i = 0
 ·subst i0
  have zw := zw01
  have ix : ixaV 2 2 true (.ag [l, (.f (.func 56) [] [.p (h.length + 7) 0, .p (h.length + 1) 0]), l', (.f (.func 105) [] [.p (h.length + 8) 0])]) (.i .i64 0) = some (.ag [l, (.f (.func 56) [] [.p (h.length + 7) 0, .p (h.length + 1) 0])]) := rfl
  simp only [S0, m0, X1r, X5W, zVq, if_true, if_false, ↓reduceIte, Nat.reduceAdd, Nat.reduceSub, Nat.reduceLeDiff, Nat.reduceEqDiff, Nat.reduceMul, Nat.reduceLT, Int.reduceLT, Int.reduceLE, Int.reduceEq, CO.tmps, Opd.tmps, optT, Nat.reducePow, Nat.reduceDiv, Nat.reduceMod, f1, f2, f3, f4, f5, f6, QqN, ix, nfo, true_and, List.length_cons, List.length_nil]
  refine YHj (S := Nat) (fun j => hs.length - j) (fun j => tp 4 ++ [.p (h.length + 2) 0] ++ tp 4 ++ [.p (h.length + 5) 0] ++ tp 3 ++ [apS qjO (h.length + 9) (YvZ hs' xs' ds' (hs.take j))] ++ tp 1 ++ [.p (h.length + 10) 0] ++ tp 47 ++ [.ag [l, (.f (.func 56) [] [.p (h.length + 7) 0, .p (h.length + 1) 0]), l', (.f (.func 105) [] [.p (h.length + 8) 0])], .i .i64 0] ++ tp 3 ++ [l, .i .i64 hs.length, .i .i64 j] ++ tp 17) (fun j => h ++ [.blk false true [l, s, t], .blk false true [l', s', t'], .blk false true [.ns, .ns, .ns], resB intR true jv, resB dotR true jd, .blk false true [rsl intR (h.length + 3) jv, rsl dotR (h.length + 4) jd], .blk false true [s', t'], .blk false true [.f (.func 105) [] [.p (h.length + 6) 0]], .blk false true [s, t], resB qjO true (YvZ hs' xs' ds' (hs.take j)), .blk false true [l, (.f (.func 56) [] [.p (h.length + 7) 0, .p (h.length + 1) 0])]]) (fun j => j ≤ hs.length) 0 (Nat.zero_le _) ?_ fun j hj => ?_
  ·dsimp only
   rw [show YvZ hs' xs' ds' (hs.take 0) = [] from rfl, ZLN]
   exact Bt.wk (by simp only [X1r, zVq, if_true, if_false, reduceIte, Nat.reduceAdd, Nat.reduceSub, Nat.reduceLeDiff, Nat.reduceEqDiff, Nat.reduceMul, Nat.reduceLT, Int.reduceLT, Int.reduceLE, Int.reduceEq])
  by_cases gj : j < hs.length
  ·have gj' := eq_true gj
   have e1 : IntKind.i64.wrap ((j : Int) + 1) = ((j + 1 : Nat) : Int) := ZL4 (by unfold In64; omega)
   have hst := QWK hs' xs' ds' gj
   have lo := XqA hs' xs' ds' hs j
   have lo2 := lo
   have lO : (YvZ hs' xs' ds' (hs.take j)).length ≤ 100000 := by omega
   generalize hx : hs.getD j qjO.d = x at *
   by_cases hq : ¬ (KXy xs' ds' = 0 ∧ YlY xs' ds' x.1) ∨ x ∈ hs'
   ·have hq' := eq_true hq
    have hst2 : YvZ hs' xs' ds' (hs.take (j + 1)) = (YvZ hs' xs' ds' (hs.take j)) ++ [x] := by rw [hst, if_pos hq]
    generalize hO : YvZ hs' xs' ds' (hs.take j) = O at *
    by_cases hB : O = []
    ·have z3 : (1 * 48 ≤ 140737488355328 ∧ 1 ≤ maxLen) = True := eq_true ⟨by decide, by unfold maxLen; omega⟩
     simp only [hB, ZLN, X1r, X5W, zVq, if_true, if_false, ↓reduceIte, Nat.reduceAdd, Nat.reduceSub, Nat.reduceLeDiff, Nat.reduceEqDiff, Nat.reduceMul, Nat.reduceLT, Int.reduceLT, Int.reduceLE, Int.reduceEq, CO.tmps, Opd.tmps, optT, Nat.reducePow, Nat.reduceDiv, Nat.reduceMod, f1, f2, f3, f4, f5, f6, gj', hx, e1, zdj, KNI, KDg, hq', z3, Q4R, KJo, XEe, zp7, ZOt, Ke3, List.length_cons, List.length_nil, ne_eq, not_false_eq_true, not_true_eq_false, decide_true, decide_false, QNE hh, QFK hz, K9V hz, Ksi hz]
     refine ⟨j + 1, gj, by dsimp only; omega, ?_⟩
     simp only [hst2, hB, List.nil_append, J8D, KvS]
     exact Bt.sel [0, 1, 2, 3, 4, 5, 6, 7, 8, 13, 10] hh (by decide) (by simp only [q9C, FrSel, BlkSel, AV.ren, renL, AV.ok, okL, Option.some.injEq, exists_eq_left', List.length_cons, List.length_nil, Nat.reduceAdd, Nat.reduceLT, reduceCtorEq, implies_true, exists_eq', fo, fr]) (by simp only [q9C, FrSel, BlkSel, AV.ren, renL, AV.ok, okL, Option.some.injEq, exists_eq_left', List.length_cons, List.length_nil, Nat.reduceAdd, Nat.reduceLT, reduceCtorEq, implies_true, exists_eq', fo, fr, wg2, YuL])
    ·have hlB : O.length ≠ 0 := fun q => hB (List.eq_nil_of_length_eq_zero q)
     have gr : ∀ id, apS qjO id O = rsl qjO id O := fun id => J0z _ hlB
     have fa := fun L k ys hb => KDi (h := h) (p := h.length) rfl (r := qjO) (sz := 34) rfl L k O 48 1 ys hlB hb (by decide) (by omega) (by unfold maxLen; omega)
     simp only [gr, X1r, X5W, zVq, if_true, if_false, ↓reduceIte, Nat.reduceAdd, Nat.reduceSub, Nat.reduceLeDiff, Nat.reduceEqDiff, Nat.reduceMul, Nat.reduceLT, Int.reduceLT, Int.reduceLE, Int.reduceEq, CO.tmps, Opd.tmps, optT, Nat.reducePow, Nat.reduceDiv, Nat.reduceMod, f1, f2, f3, f4, f5, f6, gj', hx, e1, zdj, KNI, KDg, hq', fa, Q4R, KJo, XEe, zp7, ZOt, Ke3, List.length_cons, List.length_nil, ne_eq, not_false_eq_true, not_true_eq_false, decide_true, decide_false, QNE hh, QFK hz, K9V hz, Ksi hz]
     refine ⟨j + 1, gj, by dsimp only; omega, ?_⟩
     simp only [hst2, XlZ, zbl]
     exact Bt.sel [0, 1, 2, 3, 4, 5, 6, 7, 8, 13, 10] hh (by decide) (by simp only [q9C, FrSel, BlkSel, AV.ren, renL, AV.ok, okL, Option.some.injEq, exists_eq_left', List.length_cons, List.length_nil, Nat.reduceAdd, Nat.reduceLT, reduceCtorEq, implies_true, exists_eq', fo, fr]) (by simp only [q9C, FrSel, BlkSel, AV.ren, renL, AV.ok, okL, Option.some.injEq, exists_eq_left', List.length_cons, List.length_nil, Nat.reduceAdd, Nat.reduceLT, reduceCtorEq, implies_true, exists_eq', fo, fr, wg2, YuL])
   ·have hq' := eq_false hq
    have hst2 : YvZ hs' xs' ds' (hs.take (j + 1)) = (YvZ hs' xs' ds' (hs.take j)) := by rw [hst, if_neg hq, List.append_nil]
    simp only [X1r, X5W, zVq, if_true, if_false, ↓reduceIte, Nat.reduceAdd, Nat.reduceSub, Nat.reduceLeDiff, Nat.reduceEqDiff, Nat.reduceMul, Nat.reduceLT, Int.reduceLT, Int.reduceLE, Int.reduceEq, CO.tmps, Opd.tmps, optT, Nat.reducePow, Nat.reduceDiv, Nat.reduceMod, f1, f2, f3, f4, f5, f6, gj', hx, e1, zdj, KNI, KDg, hq', Q4R, KJo, XEe, zp7, ZOt, Ke3, List.length_cons, List.length_nil, ne_eq, not_false_eq_true, not_true_eq_false, decide_true, decide_false, QNE hh, QFK hz, K9V hz, Ksi hz]
    refine ⟨j + 1, gj, by dsimp only; omega, ?_⟩
    simp only [hst2]
    exact Bt.sel [0, 1, 2, 3, 4, 5, 6, 7, 8, 9, 10] hh (by decide) (by simp only [q9C, FrSel, BlkSel, AV.ren, renL, AV.ok, okL, Option.some.injEq, exists_eq_left', List.length_cons, List.length_nil, Nat.reduceAdd, Nat.reduceLT, reduceCtorEq, implies_true, exists_eq', fo, fr]) (by simp only [q9C, FrSel, BlkSel, AV.ren, renL, AV.ok, okL, Option.some.injEq, exists_eq_left', List.length_cons, List.length_nil, Nat.reduceAdd, Nat.reduceLT, reduceCtorEq, implies_true, exists_eq', fo, fr, wg2, ao, YuL])
  ·obtain rfl : j = hs.length := by omega
   have gj' := eq_false gj
   simp only [List.take_length, X1r, X5W, zVq, if_true, if_false, ↓reduceIte, Nat.reduceAdd, Nat.reduceSub, Nat.reduceLeDiff, Nat.reduceEqDiff, Nat.reduceMul, Nat.reduceLT, Int.reduceLT, Int.reduceLE, Int.reduceEq, CO.tmps, Opd.tmps, optT, Nat.reducePow, Nat.reduceDiv, Nat.reduceMod, f1, f2, f3, f4, f5, f6, gj', zw]
   refine ⟨1, by decide, by decide, ?_⟩
   simp only [m1, S1, Int.natCast_one, Int.cast_ofNat_Int]
   exact Bt.sel [0, 1, 2, 3, 4, 5, 6, 7, 8, 9] hh (by decide) (by simp only [q9C, FrSel, BlkSel, AV.ren, renL, AV.ok, okL, Option.some.injEq, exists_eq_left', List.length_cons, List.length_nil, Nat.reduceAdd, Nat.reduceLT, reduceCtorEq, implies_true, exists_eq', fo, fr]) (by simp only [q9C, FrSel, BlkSel, AV.ren, renL, AV.ok, okL, Option.some.injEq, exists_eq_left', List.length_cons, List.length_nil, Nat.reduceAdd, Nat.reduceLT, reduceCtorEq, implies_true, exists_eq', fo, fr, wg2, ao, ao2, apW, YuL])
 by_cases i1 : i = 1
 ·subst i1
  have zw := zw12
  have ix : ixaV 2 2 true (.ag [l, (.f (.func 56) [] [.p (h.length + 7) 0, .p (h.length + 1) 0]), l', (.f (.func 105) [] [.p (h.length + 8) 0])]) (.i .i64 1) = some (.ag [l', (.f (.func 105) [] [.p (h.length + 8) 0])]) := rfl
  simp only [S1, m1, Int.natCast_one, X1r, X5W, zVq, if_true, if_false, ↓reduceIte, Nat.reduceAdd, Nat.reduceSub, Nat.reduceLeDiff, Nat.reduceEqDiff, Nat.reduceMul, Nat.reduceLT, Int.reduceLT, Int.reduceLE, Int.reduceEq, CO.tmps, Opd.tmps, optT, Nat.reducePow, Nat.reduceDiv, Nat.reduceMod, f1, f2, f3, f4, f5, f6, QqN, ix, nfo, true_and, List.length_cons, List.length_nil]
  refine YHj (S := Nat) (fun j => hs'.length - j) (fun j => tp 4 ++ [.p (h.length + 2) 0] ++ tp 4 ++ [.p (h.length + 5) 0] ++ tp 3 ++ [apS qjO (h.length + 9) (YvZ hs' xs' ds' hs ++ outL xs ds (hs'.take j))] ++ tp 1 ++ [.p (h.length + 10) 0] ++ tp 47 ++ [.ag [l, (.f (.func 56) [] [.p (h.length + 7) 0, .p (h.length + 1) 0]), l', (.f (.func 105) [] [.p (h.length + 8) 0])], .i .i64 1] ++ tp 3 ++ [l', .i .i64 hs'.length, .i .i64 j] ++ tp 17) (fun j => h ++ [.blk false true [l, s, t], .blk false true [l', s', t'], .blk false true [.ns, .ns, .ns], resB intR true jv, resB dotR true jd, .blk false true [rsl intR (h.length + 3) jv, rsl dotR (h.length + 4) jd], .blk false true [s', t'], .blk false true [.f (.func 105) [] [.p (h.length + 6) 0]], .blk false true [s, t], resB qjO true (YvZ hs' xs' ds' hs ++ outL xs ds (hs'.take j)), .blk false true [l', (.f (.func 105) [] [.p (h.length + 8) 0])]]) (fun j => j ≤ hs'.length) 0 (Nat.zero_le _) ?_ fun j hj => ?_
  ·dsimp only
   rw [show outL xs ds (hs'.take 0) = [] from rfl, List.append_nil]
   exact Bt.wk (by simp only [X1r, zVq, if_true, if_false, reduceIte, Nat.reduceAdd, Nat.reduceSub, Nat.reduceLeDiff, Nat.reduceEqDiff, Nat.reduceMul, Nat.reduceLT, Int.reduceLT, Int.reduceLE, Int.reduceEq])
  by_cases gj : j < hs'.length
  ·have gj' := eq_true gj
   have e1 : IntKind.i64.wrap ((j : Int) + 1) = ((j + 1 : Nat) : Int) := ZL4 (by unfold In64; omega)
   have hst := ZsQ xs ds gj
   have lo := JeT xs ds hs' j
   have lo3 := XqA hs' xs' ds' hs hs.length
   rw [List.take_length] at lo3
   have lO : (YvZ hs' xs' ds' hs ++ outL xs ds (hs'.take j)).length ≤ 100000 := by rw [List.length_append]; omega
   generalize hx : hs'.getD j qjO.d = x at *
   by_cases hq : ¬ (KXy xs ds = 0 ∧ YlY xs ds x.1)
   ·have hq' := eq_true hq
    have hst2 : YvZ hs' xs' ds' hs ++ outL xs ds (hs'.take (j + 1)) = (YvZ hs' xs' ds' hs ++ outL xs ds (hs'.take j)) ++ [x] := by rw [hst, if_pos hq, List.append_assoc]
    generalize hO : YvZ hs' xs' ds' hs ++ outL xs ds (hs'.take j) = O at *
    by_cases hB : O = []
    ·have z3 : (1 * 48 ≤ 140737488355328 ∧ 1 ≤ maxLen) = True := eq_true ⟨by decide, by unfold maxLen; omega⟩
     simp only [hB, ZLN, X1r, X5W, zVq, if_true, if_false, ↓reduceIte, Nat.reduceAdd, Nat.reduceSub, Nat.reduceLeDiff, Nat.reduceEqDiff, Nat.reduceMul, Nat.reduceLT, Int.reduceLT, Int.reduceLE, Int.reduceEq, CO.tmps, Opd.tmps, optT, Nat.reducePow, Nat.reduceDiv, Nat.reduceMod, f1, f2, f3, f4, f5, f6, gj', hx, e1, zdj, KNI, KDg, hq', z3, Q4R, KJo, XEe, zp7, ZOt, Ke3, List.length_cons, List.length_nil, ne_eq, not_false_eq_true, not_true_eq_false, decide_true, decide_false, QNE hh, QFK hz, K9V hz, Ksi hz]
     refine ⟨j + 1, gj, by dsimp only; omega, ?_⟩
     simp only [hst2, hB, List.nil_append, J8D, KvS]
     exact Bt.sel [0, 1, 2, 3, 4, 5, 6, 7, 8, 13, 10] hh (by decide) (by simp only [q9C, FrSel, BlkSel, AV.ren, renL, AV.ok, okL, Option.some.injEq, exists_eq_left', List.length_cons, List.length_nil, Nat.reduceAdd, Nat.reduceLT, reduceCtorEq, implies_true, exists_eq', fo, fr]) (by simp only [q9C, FrSel, BlkSel, AV.ren, renL, AV.ok, okL, Option.some.injEq, exists_eq_left', List.length_cons, List.length_nil, Nat.reduceAdd, Nat.reduceLT, reduceCtorEq, implies_true, exists_eq', fo, fr, wg2, YuL])
    ·have hlB : O.length ≠ 0 := fun q => hB (List.eq_nil_of_length_eq_zero q)
     have gr : ∀ id, apS qjO id O = rsl qjO id O := fun id => J0z _ hlB
     have fa := fun L k ys hb => KDi (h := h) (p := h.length) rfl (r := qjO) (sz := 34) rfl L k O 48 1 ys hlB hb (by decide) (by omega) (by unfold maxLen; omega)
     simp only [gr, X1r, X5W, zVq, if_true, if_false, ↓reduceIte, Nat.reduceAdd, Nat.reduceSub, Nat.reduceLeDiff, Nat.reduceEqDiff, Nat.reduceMul, Nat.reduceLT, Int.reduceLT, Int.reduceLE, Int.reduceEq, CO.tmps, Opd.tmps, optT, Nat.reducePow, Nat.reduceDiv, Nat.reduceMod, f1, f2, f3, f4, f5, f6, gj', hx, e1, zdj, KNI, KDg, hq', fa, Q4R, KJo, XEe, zp7, ZOt, Ke3, List.length_cons, List.length_nil, ne_eq, not_false_eq_true, not_true_eq_false, decide_true, decide_false, QNE hh, QFK hz, K9V hz, Ksi hz]
     refine ⟨j + 1, gj, by dsimp only; omega, ?_⟩
     simp only [hst2, XlZ, zbl]
     exact Bt.sel [0, 1, 2, 3, 4, 5, 6, 7, 8, 13, 10] hh (by decide) (by simp only [q9C, FrSel, BlkSel, AV.ren, renL, AV.ok, okL, Option.some.injEq, exists_eq_left', List.length_cons, List.length_nil, Nat.reduceAdd, Nat.reduceLT, reduceCtorEq, implies_true, exists_eq', fo, fr]) (by simp only [q9C, FrSel, BlkSel, AV.ren, renL, AV.ok, okL, Option.some.injEq, exists_eq_left', List.length_cons, List.length_nil, Nat.reduceAdd, Nat.reduceLT, reduceCtorEq, implies_true, exists_eq', fo, fr, wg2, YuL])
   ·have hq' := eq_false hq
    have hst2 : YvZ hs' xs' ds' hs ++ outL xs ds (hs'.take (j + 1)) = (YvZ hs' xs' ds' hs ++ outL xs ds (hs'.take j)) := by rw [hst, if_neg hq, List.append_nil]
    simp only [X1r, X5W, zVq, if_true, if_false, ↓reduceIte, Nat.reduceAdd, Nat.reduceSub, Nat.reduceLeDiff, Nat.reduceEqDiff, Nat.reduceMul, Nat.reduceLT, Int.reduceLT, Int.reduceLE, Int.reduceEq, CO.tmps, Opd.tmps, optT, Nat.reducePow, Nat.reduceDiv, Nat.reduceMod, f1, f2, f3, f4, f5, f6, gj', hx, e1, zdj, KNI, KDg, hq', Q4R, KJo, XEe, zp7, ZOt, Ke3, List.length_cons, List.length_nil, ne_eq, not_false_eq_true, not_true_eq_false, decide_true, decide_false, QNE hh, QFK hz, K9V hz, Ksi hz]
    refine ⟨j + 1, gj, by dsimp only; omega, ?_⟩
    simp only [hst2]
    exact Bt.sel [0, 1, 2, 3, 4, 5, 6, 7, 8, 9, 10] hh (by decide) (by simp only [q9C, FrSel, BlkSel, AV.ren, renL, AV.ok, okL, Option.some.injEq, exists_eq_left', List.length_cons, List.length_nil, Nat.reduceAdd, Nat.reduceLT, reduceCtorEq, implies_true, exists_eq', fo, fr]) (by simp only [q9C, FrSel, BlkSel, AV.ren, renL, AV.ok, okL, Option.some.injEq, exists_eq_left', List.length_cons, List.length_nil, Nat.reduceAdd, Nat.reduceLT, reduceCtorEq, implies_true, exists_eq', fo, fr, wg2, ao, YuL])
  ·obtain rfl : j = hs'.length := by omega
   have gj' := eq_false gj
   simp only [List.take_length, X1r, X5W, zVq, if_true, if_false, ↓reduceIte, Nat.reduceAdd, Nat.reduceSub, Nat.reduceLeDiff, Nat.reduceEqDiff, Nat.reduceMul, Nat.reduceLT, Int.reduceLT, Int.reduceLE, Int.reduceEq, CO.tmps, Opd.tmps, optT, Nat.reducePow, Nat.reduceDiv, Nat.reduceMod, f1, f2, f3, f4, f5, f6, gj', zw]
   refine ⟨2, by decide, by decide, ?_⟩
   simp only [m2, S2, Int.natCast_one, Int.cast_ofNat_Int]
   exact Bt.sel [0, 1, 2, 3, 4, 5, 6, 7, 8, 9] hh (by decide) (by simp only [q9C, FrSel, BlkSel, AV.ren, renL, AV.ok, okL, Option.some.injEq, exists_eq_left', List.length_cons, List.length_nil, Nat.reduceAdd, Nat.reduceLT, reduceCtorEq, implies_true, exists_eq', fo, fr]) (by simp only [q9C, FrSel, BlkSel, AV.ren, renL, AV.ok, okL, Option.some.injEq, exists_eq_left', List.length_cons, List.length_nil, Nat.reduceAdd, Nat.reduceLT, reduceCtorEq, implies_true, exists_eq', fo, fr, wg2, ao, ao2, apW, YuL])
 obtain rfl : i = 2 := by omega
 have lU : (YvZ hs' xs' ds' hs ++ outL xs ds hs').length ≤ 1000000 := by
  have := XqA hs' xs' ds' hs hs.length
  rw [List.take_length] at this
  rw [List.length_append]; omega
 have lU' := eq_true lU
 have lU2 : ((YvZ hs' xs' ds' hs ++ outL xs ds hs').length ≤ maxLen) = True := eq_true (by unfold maxLen; omega)
 have hJn := ZiX ra rb ga
 have so := fun L k hk => Knz (h := h) L k (YvZ hs' xs' ds' hs ++ outL xs ds hs') hk lU
 simp only [S2, m2, X1r, X5W, zVq, if_true, if_false, ↓reduceIte, Nat.reduceAdd, Nat.reduceSub, Nat.reduceLeDiff, Nat.reduceEqDiff, Nat.reduceMul, Nat.reduceLT, Int.reduceLT, Int.reduceLE, Int.reduceEq, CO.tmps, Opd.tmps, optT, Nat.reducePow, Nat.reduceDiv, Nat.reduceMod, f1, f2, f3, f4, f5, f6, Int.cast_ofNat_Int, so, hJn, XZb, XPg, QV1, zw7, QNE hh, QFK hz, K9V hz, Ksi hz]
 exact Bt.sel [9, 3, 4] hh (by decide) (by simp only [q9C, FrSel, BlkSel, AV.ren, renL, AV.ok, okL, Option.some.injEq, exists_eq_left', List.length_cons, List.length_nil, Nat.reduceAdd, Nat.reduceLT, reduceCtorEq, implies_true, exists_eq']) (by simp only [q9C, FrSel, BlkSel, AV.ren, renL, AV.ok, okL, Option.some.injEq, exists_eq_left', List.length_cons, List.length_nil, Nat.reduceAdd, Nat.reduceLT, reduceCtorEq, implies_true, exists_eq'])
theorem XtJ : Spec Tryz.prog 15 zXx := by
 intro args h v h' e
 unfold zXx at e
 split at e
 ·rename_i l s t l' s' t'
  obtain ⟨hs, hl, e⟩ := YI8 e
  obtain ⟨xs, hv, e⟩ := YI8 e
  obtain ⟨ds, hd, e⟩ := YI8 e
  obtain ⟨hs', hl', e⟩ := YI8 e
  obtain ⟨xs', hv', e⟩ := YI8 e
  obtain ⟨ds', hd', e⟩ := YI8 e
  split at e
  ·rename_i hL
   have key0 : ∀ v, (∀ h : List AB, Rd qjO h l hs → Rd intR h s xs → Rd dotR h t ds → Rd qjO h l' hs' → Rd intR h s' xs' → Rd dotR h t' ds' → zXx [.ag [l, s, t], .ag [l', s', t']] h = some (v, h)) → FnC Tryz.prog 15 [.ag [l, s, t], .ag [l', s', t']] h v h := fun v q => FnAt.c (FnAt.frz0 fun hz => ZIJ hz hl.frz hv.frz hd.frz hl'.frz hv'.frz hd'.frz hL.1 hL.2.1 hL.2.2 _ _ (q _ hl.frz hv.frz hd.frz hl'.frz hv'.frz hd'.frz))
   split at e
   ·rename_i c
    cases e
    refine key0 _ fun h hl hv hd hl' hv' hd' => ?_
    simp only [zXx, hl.get, hv.get, hd.get, hl'.get, hv'.get, hd'.get, Option.bind_some]
    rw [if_pos hL, if_pos c]
   ·rename_i c
    split at e
    ·rename_i c1
     cases e
     refine key0 _ fun h hl hv hd hl' hv' hd' => ?_
     simp only [zXx, hl.get, hv.get, hd.get, hl'.get, hv'.get, hd'.get, Option.bind_some]
     rw [if_pos hL, if_neg c, if_pos c1]
    ·rename_i c1
     split at e
     ·rename_i c2
      cases e
      refine key0 _ fun h hl hv hd hl' hv' hd' => ?_
      simp only [zXx, hl.get, hv.get, hd.get, hl'.get, hv'.get, hd'.get, Option.bind_some]
      rw [if_pos hL, if_neg c, if_neg c1, if_pos c2]
     ·rename_i c2
      split at e
      ·rename_i c3
       cases e
       refine key0 _ fun h hl hv hd hl' hv' hd' => ?_
       simp only [zXx, hl.get, hv.get, hd.get, hl'.get, hv'.get, hd'.get, Option.bind_some]
       rw [if_pos hL, if_neg c, if_neg c1, if_neg c2, if_pos c3]
      ·rename_i c3
       cases e
       refine FnAt.c (FnAt.frz fun hz => ZIJ hz hl.frz hv.frz hd.frz hl'.frz hv'.frz hd'.frz hL.1 hL.2.1 hL.2.2 _ _ ?_)
       simp only [zXx, hl.frz.get, hv.frz.get, hd.frz.get, hl'.frz.get, hv'.frz.get, hd'.frz.get, Option.bind_some, List.length_map]
       rw [if_pos hL, if_neg c, if_neg c1, if_neg c2, if_neg c3]
  ·cases e
 ·cases e
end Go.Proofs.YtfaccliekejngaaGreat
end
section
namespace Go.Proofs.YtfaccliekejngaaGreat
set_option maxRecDepth 100000
set_option maxHeartbeats 8000000
def AV.kn : AV → Bool
 | .sl _ _ 0 _ (some 0) => false
 | _ => true
def cvV {α : Type} (r : Row α) (a : AV) (id : Nat) (l : List α) : AV := if l.length = 0 then (if a.isNs = true then .ns else .sl id 0 0 0 none) else rsl r id l
def cvB {α : Type} (r : Row α) (a : AV) (l : List α) : AB := if l.length = 0 then (if a.isNs = true then .dead else .blk true true []) else resB r true l
noncomputable def ZkC {α : Type} (r : Row α) : List AV → List AB → Option (AV × List AB)
 | [a], h => (getS r h a).bind fun xs => if xs.length ≤ 1000000 ∧ a.kn = true then some (cvV r a h.length xs, h ++ [cvB r a xs]) else none
 | _, _ => none
theorem zVw : Spec Tryz.prog 72 (ZkC dotR) := by
 intro args h v h' e
 unfold ZkC at e
 split at e
 ·rename_i a
  obtain ⟨xs, ha, e⟩ := YI8 e
  split at e
  ·rename_i hl
   cases e
   have hs := ha.isSl
   have hlen := ha.len
   refine FnAt.c (FnAt.run (by kernel_rfl) (T := ⟨[], []⟩) ⟨trivial, trivial⟩ Tryz.func72 sw72 fun ho hh => ?_)
   simp only [qMC, Bool.and_eq_true] at ho
   have fa := ha.fx ho.1 (sz := 2) rfl
   have fs := ha.src (sz := 2) rfl
   obtain ⟨hl1, hk⟩ := hl
   cases a <;> first | (cases hs; done) | skip
   ·rename_i id off len cap k
    have hq : Y1v (.sl id off len cap k) .ns = some false := by
     rw [zON, if_neg]
     rintro ⟨rfl, rfl⟩
     cases hk
    unfold w72
    by_cases h0 : xs.length = 0
    ·have hc : cvV dotR (.sl id off len cap k) h.length xs = .sl (h.length + 0) 0 0 0 none := by unfold cvV; rw [if_pos h0]; rfl
     have hb : cvB dotR (.sl id off len cap k) xs = .blk true true [] := by unfold cvB; rw [if_pos h0]; rfl
     rw [hc, hb]
     simp only [XH8, QN9, X1r, zVq, simprocAttr, fa, fs, h0, hq]
     exact Bt.eq rfl rfl
    ·have hc : cvV dotR (.sl id off len cap k) h.length xs = rsl dotR h.length xs := by unfold cvV; rw [if_neg h0]
     have hb : cvB dotR (.sl id off len cap k) xs = resB dotR true xs := by unfold cvB; rw [if_neg h0]
     rw [hc, hb]
     simp only [XH8, QN9, X1r, zVq, simprocAttr, fa, fs, h0, hq]
     exact ⟨⟨by omega, by unfold maxLen; omega⟩, Bt.one 1 hh (fun h => absurd h h0) (by simp) (fun _ => ⟨rfl, rfl⟩)⟩
   ·have h0 : xs.length = 0 := by simp only [lenV, Option.some.injEq] at hlen; omega
    have hc : cvV dotR .se h.length xs = .sl (h.length + 0) 0 0 0 none := by unfold cvV; rw [if_pos h0]; rfl
    have hb : cvB dotR .se xs = .blk true true [] := by unfold cvB; rw [if_pos h0]; rfl
    rw [hc, hb]
    unfold w72
    simp only [XH8, QN9, X1r, zVq, simprocAttr, fa, fs, h0]
    exact Bt.eq rfl rfl
   ·have h0 : xs.length = 0 := by simp only [lenV, Option.some.injEq] at hlen; omega
    have hc : cvV dotR .ns h.length xs = .ns := by unfold cvV; rw [if_pos h0]; rfl
    have hb : cvB dotR .ns xs = .dead := by unfold cvB; rw [if_pos h0]; rfl
    rw [hc, hb]
    unfold w72
    simp only [XH8, QN9, X1r, zVq, simprocAttr]
    rw [List.append_nil]
    exact Bt.pad _ _ 1
  ·cases e
 ·cases e
theorem JMG : Spec Tryz.prog 73 (ZkC qjO) := by
 intro args h v h' e
 unfold ZkC at e
 split at e
 ·rename_i a
  obtain ⟨xs, ha, e⟩ := YI8 e
  split at e
  ·rename_i hl
   cases e
   have hs := ha.isSl
   have hlen := ha.len
   refine FnAt.c (FnAt.run (by kernel_rfl) (T := ⟨[], []⟩) ⟨trivial, trivial⟩ Tryz.func73 sw73 fun ho hh => ?_)
   simp only [qMC, Bool.and_eq_true] at ho
   have fa := ha.fx ho.1 (sz := 34) rfl
   have fs := ha.src (sz := 34) rfl
   obtain ⟨hl1, hk⟩ := hl
   cases a <;> first | (cases hs; done) | skip
   ·rename_i id off len cap k
    have hq : Y1v (.sl id off len cap k) .ns = some false := by
     rw [zON, if_neg]
     rintro ⟨rfl, rfl⟩
     cases hk
    unfold w73
    by_cases h0 : xs.length = 0
    ·have hc : cvV qjO (.sl id off len cap k) h.length xs = .sl (h.length + 0) 0 0 0 none := by unfold cvV; rw [if_pos h0]; rfl
     have hb : cvB qjO (.sl id off len cap k) xs = .blk true true [] := by unfold cvB; rw [if_pos h0]; rfl
     rw [hc, hb]
     simp only [XH8, QN9, X1r, zVq, simprocAttr, fa, fs, h0, hq, JpP]
     exact Bt.eq rfl rfl
    ·have hc : cvV qjO (.sl id off len cap k) h.length xs = rsl qjO h.length xs := by unfold cvV; rw [if_neg h0]
     have hb : cvB qjO (.sl id off len cap k) xs = resB qjO true xs := by unfold cvB; rw [if_neg h0]
     rw [hc, hb]
     simp only [XH8, QN9, X1r, zVq, simprocAttr, fa, fs, h0, hq, JpP]
     exact ⟨⟨by omega, by unfold maxLen; omega⟩, Bt.one 1 hh (fun h => absurd h h0) (by simp) (fun _ => ⟨rfl, rfl⟩)⟩
   ·have h0 : xs.length = 0 := by simp only [lenV, Option.some.injEq] at hlen; omega
    have hc : cvV qjO .se h.length xs = .sl (h.length + 0) 0 0 0 none := by unfold cvV; rw [if_pos h0]; rfl
    have hb : cvB qjO .se xs = .blk true true [] := by unfold cvB; rw [if_pos h0]; rfl
    rw [hc, hb]
    unfold w73
    simp only [XH8, QN9, X1r, zVq, simprocAttr, fa, fs, h0, JpP]
    exact Bt.eq rfl rfl
   ·have h0 : xs.length = 0 := by simp only [lenV, Option.some.injEq] at hlen; omega
    have hc : cvV qjO .ns h.length xs = .ns := by unfold cvV; rw [if_pos h0]; rfl
    have hb : cvB qjO .ns xs = .dead := by unfold cvB; rw [if_pos h0]; rfl
    rw [hc, hb]
    unfold w73
    simp only [XH8, QN9, X1r, zVq, simprocAttr]
    rw [List.append_nil]
    exact Bt.pad _ _ 1
  ·cases e
 ·cases e
noncomputable def addE (hs : List Hd) (v : List Int) (ds : Dots) (d : Int × Int) : Int :=
 if Kq6 hs v ds ≠ 0 then Kq6 hs v ds else if YlY v ds d then 19 else if ¬ KG5 d then 3 else if ¬ (mkO v ds d).2.length ≤ 4096 then 10 else 0
noncomputable def JrT : List AV → List AB → Option (AV × List AB)
 | [.ag [l, s, t], .ag [.i .i64 a, .i .i64 b], y], h => (getS qjO h l).bind fun hs => (getS intR h s).bind fun v => (getS dotR h t).bind fun ds => (getI y).bind fun i =>
   if hs.length ≤ 100000 ∧ l.kn = true ∧ t.kn = true then
    if addE hs v ds (a, b) ≠ 0 then some (.tu [.ag [.ns, .ns, .ns], .i .i64 (addE hs v ds (a, b))], h)
    else some (.tu [.ag [rsl qjO h.length (layG KBL hs ((a, b), i)), rsl intR (h.length + 1) (mkO v ds (a, b)).1, rsl dotR (h.length + 2) (mkO v ds (a, b)).2], .i .i64 0], h ++ [resB qjO true (layG KBL hs ((a, b), i)), resB intR true (mkO v ds (a, b)).1, resB dotR true (mkO v ds (a, b)).2])
   else none
 | _, _ => none
theorem Zud {α : Type} {r : Row α} {sz by_ : Nat} (hz : r.sz = sz) (hb : by_ ≤ 48) {h : List AB} {t : AV} {ds : List α} (hd : Rd r h t ds) (hL : ds.length ≤ 100000) (hk : t.kn = true) :
  (ds = [] ∧ (∀ L, ZkC r [t] (h ++ L) = some (.ns, h ++ (L ++ [.dead]))) ∧ (∀ L ys, appW (h ++ L) true sz by_ .ns 1 ys = some (.sl (h.length + L.length) 0 1 1 (some sz), h ++ (L ++ [.blk true true ys]))) ∧ (∀ id x, rsl r id (ds ++ [x]) = .sl id 0 1 1 (some sz)) ∧ (∀ x, resB r true (ds ++ [x]) = .blk true true (r.f x)) ∧ ∀ x L k, ownC L k = some (r.f x) → getS r (h ++ L) (.sl (h.length + k) 0 1 1 (some sz)) = some (ds ++ [x])) ∨
  (ds = [] ∧ (∀ L, ZkC r [t] (h ++ L) = some (.sl (h.length + L.length) 0 0 0 none, h ++ (L ++ [.blk true true []]))) ∧ (∀ L k ys, flB true L k → appW (h ++ L) true sz by_ (.sl (h.length + k) 0 0 0 none) 1 ys = some (.sl (h.length + L.length) 0 1 1 (some sz), h ++ (L ++ [.blk true true ys]))) ∧ (∀ id x, rsl r id (ds ++ [x]) = .sl id 0 1 1 (some sz)) ∧ (∀ x, resB r true (ds ++ [x]) = .blk true true (r.f x)) ∧ ∀ x L k, ownC L k = some (r.f x) → getS r (h ++ L) (.sl (h.length + k) 0 1 1 (some sz)) = some (ds ++ [x])) ∨
  (ds.length ≠ 0 ∧ (∀ L, ZkC r [t] (h ++ L) = some (rsl r (h.length + L.length) ds, h ++ (L ++ [resB r true ds]))) ∧ (∀ L k ys, ownM r ds L k → appW (h ++ L) true sz by_ (rsl r (h.length + k) ds) 1 ys = some (.sl (h.length + L.length) 0 (ds.length + 1) (ds.length + 1) (some sz), h ++ (Ycl L k ++ [.blk true true (r.cells ds ++ ys)]))) ∧ (∀ id x, rsl r id (ds ++ [x]) = .sl id 0 (ds.length + 1) (ds.length + 1) (some sz)) ∧ (∀ x, resB r true (ds ++ [x]) = .blk true true (r.cells ds ++ r.f x)) ∧ ∀ x L k, ownC L k = some (r.cells ds ++ r.f x) → getS r (h ++ L) (.sl (h.length + k) 0 (ds.length + 1) (ds.length + 1) (some sz)) = some (ds ++ [x])) := by
 subst hz
 have key : ∀ L, ZkC r [t] (h ++ L) = some (cvV r t (h.length + L.length) ds, h ++ (L ++ [cvB r t ds])) := fun L => by
  simp only [ZkC, (hd.app L).get, Option.bind_some]
  rw [if_pos ⟨by omega, hk⟩, List.length_append, List.append_assoc]
 by_cases h0 : ds.length = 0
 ·have e0 := List.eq_nil_of_length_eq_zero h0
  subst e0
  have q1 : ∀ id x, rsl r id ([] ++ [x]) = .sl id 0 1 1 (some r.sz) := fun id x => JfL id x
  have q2 : ∀ x, resB r true ([] ++ [x]) = .blk true true (r.f x) := fun x => by rw [zbl]; simp [Row.cells]
  have q3 : ∀ x L k, ownC L k = some (r.f x) → getS r (h ++ L) (.sl (h.length + k) 0 1 1 (some r.sz)) = some ([] ++ [x]) := fun x L k q => (zDF (r := r) (n := 1) (l := [x]) (by rw [q]; simp [Row.cells]) (by unfold maxLen; simp) (by simp)).get
  by_cases hn : t.isNs = true
  ·refine .inl ⟨rfl, fun L => ?_, fun L ys => ?_, q1, q2, q3⟩
   ·rw [key]
    unfold cvV cvB
    rw [if_pos h0, if_pos hn, if_pos h0, if_pos hn]
   ·unfold appW
    dsimp only
    rw [if_neg Nat.one_ne_zero, if_pos ⟨by omega, by unfold maxLen; omega⟩, List.length_append, List.append_assoc]
  ·refine .inr (.inl ⟨rfl, fun L => ?_, fun L k ys hf => ?_, q1, q2, q3⟩)
   ·rw [key]
    unfold cvV cvB
    rw [if_pos h0, if_neg hn, if_pos h0, if_neg hn]
   ·rw [z1m L k true r.sz by_ 1 ys hf, if_neg Nat.one_ne_zero, if_pos ⟨by omega, by unfold maxLen; omega⟩]
 ·refine .inr (.inr ⟨h0, fun L => ?_, fun L k ys hm => ?_, fun id x => JQ6 id ds x, fun x => zbl _ ds x, fun x L k q => ?_⟩)
  ·rw [key]
   unfold cvV cvB
   rw [if_neg h0, if_neg h0]
  ·exact KDi (h := h) (p := h.length) rfl (r := r) (sz := r.sz) rfl L k ds by_ 1 ys h0 hm (by decide) (Nat.le_trans (Nat.mul_le_mul_left _ hb) (by omega)) (by unfold maxLen; omega)
  ·have := (zDF (h := h) (r := r) (n := ds.length + 1) (c := ds.length + 1) (kk := some r.sz) (l := ds ++ [x]) (L := L) (k := k) (by rw [q, JMO]; simp [Row.cells]) (by unfold maxLen; rw [List.length_append]; simp; omega) (by simp)).get
   rw [List.take_of_length_le (by simp)] at this
   exact this
theorem Y2I {h : List AB} (hz : h.map AB.freeze = h) {l s t : AV} {a b : Int} {i : Dg} {hs : List Hd} {xs : List Int} {ds : Dots} (hl : Rd qjO h l hs) (hv : Rd intR h s xs) (hd : Rd dotR h t ds) (hL : hs.length ≤ 100000) (k1 : l.kn = true) (k2 : t.kn = true) (v : AV) (h' : List AB) (e : JrT [.ag [l, s, t], .ag [.i .i64 a, .i .i64 b], .ag (idR.f i)] h = some (v, h')) :
  FnAt Tryz.prog 24 [.ag [l, s, t], .ag [.i .i64 a, .i .i64 b], .ag (idR.f i)] h v h' := by
 simp only [JrT, hl.get, hv.get, hd.get, ZK2, Option.bind_some] at e
 rw [if_pos ⟨hL, k1, k2⟩] at e
 refine FnAt.run (by kernel_rfl) (T := ⟨[⟨31, X7Q, fun _ => []⟩, ⟨70, zEW, fun _ => []⟩, ⟨72, ZkC dotR, fun _ => []⟩, ⟨73, ZkC qjO, fun _ => []⟩, ⟨71, Jpg, fun _ => []⟩, ⟨58, YQi, wsS⟩], []⟩) ⟨⟨zRg, zUE, zVw, JMG, Yh0, J3e, trivial⟩, trivial⟩ Tryz.func24 sw24 fun ho hh => ?_
 simp only [qMC, JAX, Bool.and_eq_true] at ho
 have f1 := hl.fx ho.1.1 (sz := 34) rfl
 have f2 := hv.fx ho.1.2.1 (sz := 1) rfl
 have f3 := hd.fx ho.1.2.2.1 (sz := 2) rfl
 have hL1 : (hs.length ≤ 1000000) = True := eq_true (by omega)
 unfold w24
 by_cases c0 : Kq6 hs xs ds = 0
 case neg =>
  have hE : addE hs xs ds (a, b) = Kq6 hs xs ds := by unfold addE; rw [if_pos c0]
  rw [hE, if_pos c0] at e
  cases e
  have c0' := eq_false c0
  simp only [XH8, QN9, X1r, X5W, zVq, simprocAttr, CO.tmps, Opd.tmps, optT, Nat.reducePow, Nat.reduceDiv, Nat.reduceMod, f1, f2, f3, X7Q, c0', hL1, Ydx, XwU, Kb6, Ke3, ne_eq, not_false_eq_true, not_true_eq_false, decide_true, decide_false, QNE hh, QFK hz, K9V hz, Ksi hz]
  exact Bt.drop _ hh rfl (by simp only [ZVg, qMC, YI0, JAX, Yiy, ok_i, Bool.and_true])
 have rg := zFp.1 c0
 have cs := rg.nf.check rg.len
 by_cases c1 : YlY xs ds (a, b)
 ·have hE : addE hs xs ds (a, b) = 19 := by unfold addE; rw [if_neg (not_not_intro c0), if_pos c1]
  rw [hE, if_pos (by decide)] at e
  cases e
  have c1' := eq_true c1
  simp only [XH8, QN9, X1r, X5W, zVq, simprocAttr, CO.tmps, Opd.tmps, optT, Nat.reducePow, Nat.reduceDiv, Nat.reduceMod, f1, f2, f3, X7Q, zEW, c0, cs, c1', hL1, Ydx, XwU, Kb6, Ke3, ne_eq, not_false_eq_true, not_true_eq_false, decide_true, decide_false, QNE hh, QFK hz, K9V hz, Ksi hz]
  exact Bt.drop _ hh rfl (by simp only [ZVg, qMC, YI0, JAX, Yiy, ok_i, Bool.and_true])
 have c1' := eq_false c1
 have lds := rg.len
 have hrg : J6E xs (ds ++ [(a, b)]) ↔ KG5 (a, b) := ⟨fun q => q.2.2 _ (List.mem_append.2 (.inr (.head _))), fun q => ⟨rg.nf.rg.1, rg.nf.rg.2.1, fun x hx => by
  rcases List.mem_append.1 hx with z | z
  ·exact rg.nf.rg.2.2 x z
  ·rw [List.mem_singleton.1 z]; exact q⟩⟩
 have g7 : ((ds ++ [(a, b)]).length ≤ 100000) = True := eq_true (by rw [List.length_append]; simp; omega)
 have g8 : (ds ++ [(a, b)]).length ≤ maxLen := by unfold maxLen; rw [List.length_append]; simp; omega
 have gm : fmO xs (ds ++ [(a, b)]) = mkO xs ds (a, b) := rfl
 have f01 : dotR.f (a, b) = [.i .i64 a, .i .i64 b] := KdD (a, b)
 have cd := Zud (r := dotR) (sz := 2) (by_ := 16) rfl (by decide) hd (by omega) k2
 have ch := Zud (r := qjO) (sz := 34) (by_ := 48) rfl (by decide) hl hL k1
 by_cases c2 : KG5 (a, b)
 case neg =>
  have hE : addE hs xs ds (a, b) = 3 := by unfold addE; rw [if_neg (not_not_intro c0), if_neg c1, if_pos c2]
  rw [hE, if_pos (by decide)] at e
  cases e
  have c2' := eq_false fun z => c2 (hrg.1 z)
  rcases cd with ⟨e0, eT, fT, rT, bT, gT⟩ | ⟨e0, eT, fT, rT, bT, gT⟩ | ⟨e0, eT, fT, rT, bT, gT⟩
  all_goals
   have gd := gT (a, b)
   rw [f01] at gd
   simp only [XH8, QN9, X1r, X5W, zVq, simprocAttr, CO.tmps, Opd.tmps, optT, Nat.reducePow, Nat.reduceDiv, Nat.reduceMod, f1, f2, f3, X7Q, zEW, Jpg, eT, fT, gd, c0, cs, c1', c2', g7, hL1, Ydx, XwU, Kb6, Ke3, ne_eq, not_false_eq_true, not_true_eq_false, decide_true, decide_false, QNE hh, QFK hz, K9V hz, Ksi hz]
   exact Bt.drop _ hh rfl (by simp only [ZVg, qMC, YI0, JAX, Yiy, ok_i, Bool.and_true])
 have c2' := eq_true (hrg.2 c2)
 generalize hM : mkO xs ds (a, b) = M at *
 by_cases c3 : M.2.length ≤ 4096
 case neg =>
  have hE : addE hs xs ds (a, b) = 10 := by unfold addE; rw [if_neg (not_not_intro c0), if_neg c1, if_neg (not_not_intro c2), hM, if_pos c3]
  rw [hE, if_pos (by decide)] at e
  cases e
  have c3' := eq_false c3
  rcases cd with ⟨e0, eT, fT, rT, bT, gT⟩ | ⟨e0, eT, fT, rT, bT, gT⟩ | ⟨e0, eT, fT, rT, bT, gT⟩
  all_goals
   have gd := gT (a, b)
   rw [f01] at gd
   simp only [XH8, QN9, X1r, X5W, zVq, simprocAttr, CO.tmps, Opd.tmps, optT, Nat.reducePow, Nat.reduceDiv, Nat.reduceMod, f1, f2, f3, X7Q, zEW, Jpg, eT, fT, gd, gm, c0, cs, c1', c2', c3', g7, hL1, Ydx, XwU, Kb6, Ke3, ne_eq, not_false_eq_true, not_true_eq_false, decide_true, decide_false, QNE hh, QFK hz, K9V hz, Ksi hz]
   exact Bt.drop _ hh rfl (by simp only [ZVg, qMC, YI0, JAX, Yiy, ok_i, Bool.and_true])
 have c3' := eq_true c3
 have hE : addE hs xs ds (a, b) = 0 := by unfold addE; rw [if_neg (not_not_intro c0), if_neg c1, if_neg (not_not_intro c2), hM, if_neg (not_not_intro c3)]
 rw [hE, if_neg (not_not_intro rfl)] at e
 cases e
 have hlay : sortP cfH (hs ++ [((a, b), i)]) = layG KBL hs ((a, b), i) := QoS rg.rise fun y hy e => c1 (by
  have := rg.sn y hy
  rw [e] at this
  exact (QbQ rg.nf.rg _).2 this)
 have so0 : ∀ (L : List AB) (k : Nat), L[k]? = some (resB qjO true (hs ++ [((a, b), i)])) → YQi [rsl qjO (h.length + k) (hs ++ [((a, b), i)])] (h ++ L) = some (rsl qjO (h.length + k) (layG KBL hs ((a, b), i)), h ++ L.set k (resB qjO true (layG KBL hs ((a, b), i)))) := fun L k q => by
  have h1 : (h ++ L)[h.length + k]? = some (resB qjO true (hs ++ [((a, b), i)])) := by rw [Yn6]; exact q
  have hn : (hs ++ [((a, b), i)]).length ≤ 1000000 := by rw [List.length_append]; simp; omega
  have g := (zRx h1 (by unfold maxLen; omega)).get
  simp only [YQi, g, Option.bind_some, XPg]
  rw [if_pos ⟨hn, rfl, h1⟩, zpT, hlay]
 have fx : qjO.f ((a, b), i) = .i .i64 a :: .i .i64 b :: idR.f i := YA0 _
 rcases cd with ⟨e0, eT, fT, rT, bT, gT⟩ | ⟨e0, eT, fT, rT, bT, gT⟩ | ⟨e0, eT, fT, rT, bT, gT⟩ <;> rcases ch with ⟨e2, eL, fL, rL, bL, _⟩ | ⟨e2, eL, fL, rL, bL, _⟩ | ⟨e2, eL, fL, rL, bL, _⟩
 all_goals
  have gd := gT (a, b)
  rw [f01] at gd
  have so := so0
  simp only [rL, bL, fx] at so
  simp only [XH8, QN9, X1r, X5W, zVq, simprocAttr, CO.tmps, Opd.tmps, optT, Nat.reducePow, Nat.reduceDiv, Nat.reduceMod, f1, f2, f3, X7Q, zEW, Jpg, eT, fT, gd, gm, eL, fL, so, wsS, c0, cs, c1', c2', c3', g7, hL1, Ydx, XwU, Kb6, Ke3, ne_eq, not_false_eq_true, not_true_eq_false, decide_true, decide_false, QNE hh, QFK hz, K9V hz, Ksi hz]
  exact ⟨Zph _ _, Zph _ _, Zph _ _, Bt.sel [12, 7, 8] hh (by decide) (by simp only [q9C, FrSel, BlkSel, AV.ren, renL, AV.ok, okL, Option.some.injEq, exists_eq_left', List.length_cons, List.length_nil, Nat.reduceAdd, Nat.reduceLT, reduceCtorEq, implies_true, exists_eq']) (by simp only [q9C, FrSel, BlkSel, AV.ren, renL, AV.ok, okL, Option.some.injEq, exists_eq_left', List.length_cons, List.length_nil, Nat.reduceAdd, Nat.reduceLT, reduceCtorEq, implies_true, exists_eq'])⟩
theorem QaM : Spec Tryz.prog 24 JrT := by
 intro args h v h' e
 unfold JrT at e
 split at e
 ·rename_i l s t a b y
  obtain ⟨hs, hl, e⟩ := YI8 e
  obtain ⟨xs, hv, e⟩ := YI8 e
  obtain ⟨ds, hd, e⟩ := YI8 e
  obtain ⟨i, hi, e2⟩ := Kky e
  clear e
  subst hi
  split at e2
  ·rename_i hL
   split at e2
   ·rename_i c
    cases e2
    refine FnAt.c (FnAt.frz0 fun hz => Y2I hz hl.frz hv.frz hd.frz hL.1 hL.2.1 hL.2.2 _ _ ?_)
    simp only [JrT, hl.frz.get, hv.frz.get, hd.frz.get, ZK2, Option.bind_some]
    rw [if_pos hL, if_pos c]
   ·rename_i c
    cases e2
    refine FnAt.c (FnAt.frz fun hz => Y2I hz hl.frz hv.frz hd.frz hL.1 hL.2.1 hL.2.2 _ _ ?_)
    simp only [JrT, hl.frz.get, hv.frz.get, hd.frz.get, ZK2, Option.bind_some, List.length_map]
    rw [if_pos hL, if_neg c]
  ·cases e2
 ·cases e
end Go.Proofs.YtfaccliekejngaaGreat
end
section
namespace Go.Proofs.YtfaccliekejngaaGreat
set_option maxRecDepth 100000
set_option maxHeartbeats 4000000
def JzV : List AV → List AB → Option (AV × List AB)
 | [], h => some (.b true, h)
 | _, _ => none
end Go.Proofs.YtfaccliekejngaaGreat
end
section
namespace Go.Proofs.YtfaccliekejngaaGreat
set_option maxRecDepth 100000
set_option maxHeartbeats 4000000
theorem XNT {hs : List Hd} {v : List Int} {ds : Dots} {d : Int × Int} {v' : List Int} {ds' : Dots} (c1 : Kq6 hs v ds = 0) (c2 : KG5 d) (c3 : KXy v' ds' = 0) (c4 : ¬ YlY v ds d) (c5 : ¬ YlY v' ds' d) (c6 : (zbr v v' ds ds').2.length ≤ 4096) (c7 : (mkO (zbr v v' ds ds').1 (zbr v v' ds ds').2 d).2.length ≤ 4096) : wrE hs v ds d v' ds' = 0 := by
 unfold wrE
 rw [if_neg (not_not_intro c1), if_neg (not_not_intro c2), if_neg (not_not_intro c3), if_neg (fun q => q.elim c4 c5), if_neg (not_not_intro c6), if_neg (not_not_intro c7)]
end Go.Proofs.YtfaccliekejngaaGreat
end
section
namespace Go.Proofs.YtfaccliekejngaaGreat
set_option maxRecDepth 100000
set_option maxHeartbeats 4000000
def dgB (n : Int) : Dg := ⟨UInt8.ofInt n :: List.replicate 31 0, by simp⟩
theorem z3t {n : Int} (h : 0 ≤ n ∧ n < 256) : idR.f (dgB n) = .i .u8 n :: List.replicate 31 (.i .u8 0) := by
 have e : ((UInt8.ofInt n).toNat : Int) = n := by
  simp [UInt8.ofInt]
  omega
 show u8A (UInt8.ofInt n) :: (List.replicate 31 (0 : UInt8)).map u8A = _
 unfold u8A
 rw [e]
 rfl
end Go.Proofs.YtfaccliekejngaaGreat
end
