/- Part 23 of what the laws' proofs rest on. No condition. -/
import Derived.Test.YtfaccliekejngaaGreatOl22
set_option linter.all false
section
namespace Go.Proofs.YtfaccliekejngaaGreat
set_option maxRecDepth 100000
set_option maxHeartbeats 8000000
noncomputable def X3z : List AV → List AB → Option (AV × List AB)
 | [y, .p i 0, .p b 0], h => match KFj h i with
  | some [.f (.func 105) [] [.p j 0]] => match KFj h j with
   | some [s, t] => match KFj h b with
    | some [l, _, _] => (getH y).bind fun x => (getS intR h s).bind fun v => (getS dotR h t).bind fun ds => (getS Qv4 h l).bind fun hs => some (.b (decide (¬ (ZmB v ds = 0 ∧ YC2 v ds x.1) ∨ x ∈ hs)), h)
    | _ => none
   | _ => none
  | _ => none
 | _, _ => none
theorem Xx5 : Spec Tryz.prog 56 X3z := by
 intro args h v h' e
 unfold X3z at e
 split at e
 ·rename_i y i b
  split at e
  ·rename_i j b1
   split at e
   ·rename_i s t b2
    split at e
    ·rename_i l s' t' b3
     obtain ⟨x, hx, e2⟩ := zZl e
     clear e
     subst hx
     obtain ⟨vs, hs, e3⟩ := Ksy e2
     obtain ⟨ds, ht, e4⟩ := Ksy e3
     obtain ⟨hd, hl, e5⟩ := Ksy e4
     cases e5
     refine FnAt.c (FnAt.run (by kernel_rfl) (T := ⟨[⟨105, QZN, fun _ => []⟩, ⟨57, JyP, fun _ => []⟩], []⟩) ⟨⟨qFN, YbI, trivial⟩, trivial⟩ Tryz.func56 sw56 fun ho hh => ?_)
     have g1 := YMl b1
     have g2 := YMl b2
     have g3 := YMl b3
     have k1 : ∀ x, getS intR (h ++ x) s = some vs := fun x => (hs.app x).get
     have k2 : ∀ x, getS dotR (h ++ x) t = some ds := fun x => (ht.app x).get
     have k3 : ∀ x, getS Qv4 (h ++ x) l = some hd := fun x => (hl.app x).get
     unfold w56
     by_cases q : ZmB vs ds = 0 ∧ YC2 vs ds x.1
     ·have q1 := eq_true q
      simp only [X7h, KtT, YUc, YOT, XuP, if_true, if_false, ↓reduceIte, Nat.reduceAdd, Nat.reduceSub, Nat.reduceLeDiff, Nat.reduceEqDiff, Nat.reduceMul, Nat.reduceLT, Int.reduceLT, Int.reduceLE, Int.reduceEq, CO.tmps, Opd.tmps, optT, Nat.reducePow, Nat.reduceDiv, Nat.reduceMod, g1, g2, g3, k1, k2, k3, QZN, JyP, XMj, q1, YiU, zqp, zso, Zcr, qdy]
      exact Bt.dropB _ hh rfl
     ·have q1 := eq_false q
      simp only [X7h, KtT, YUc, YOT, XuP, if_true, if_false, ↓reduceIte, Nat.reduceAdd, Nat.reduceSub, Nat.reduceLeDiff, Nat.reduceEqDiff, Nat.reduceMul, Nat.reduceLT, Int.reduceLT, Int.reduceLE, Int.reduceEq, CO.tmps, Opd.tmps, optT, Nat.reducePow, Nat.reduceDiv, Nat.reduceMod, g1, g2, g3, k1, k2, k3, QZN, JyP, XMj, q1, YiU, zqp, zso, Zcr, qdy]
      exact Bt.dropB _ hh rfl
    ·cases e
   ·cases e
  ·cases e
 ·cases e
open Classical in
noncomputable def ZoM (hs' : List Hd) (v' : List Int) (ds' : Dots) (l : List Hd) : List Hd := l.filter fun x => decide (¬ (ZmB v' ds' = 0 ∧ YC2 v' ds' x.1) ∨ x ∈ hs')
theorem ZPN (hs' : List Hd) (v' : List Int) (ds' : Dots) {l : List Hd} {i : Nat} (h : i < l.length) : ZoM hs' v' ds' (l.take (i + 1)) = ZoM hs' v' ds' (l.take i) ++ (if ¬ (ZmB v' ds' = 0 ∧ YC2 v' ds' (l.getD i Qv4.d).1) ∨ (l.getD i Qv4.d) ∈ hs' then [l.getD i Qv4.d] else []) := by
 unfold ZoM
 rw [List.take_succ_eq_append_getElem h, List.filter_append, List.getD_eq_getElem?_getD, List.getElem?_eq_getElem h]
 simp only [Option.getD_some, List.filter_cons, List.filter_nil, decide_eq_true_eq]
theorem Xu0 (hs' : List Hd) (v' : List Int) (ds' : Dots) (l : List Hd) (i : Nat) : (ZoM hs' v' ds' (l.take i)).length ≤ i := by
 unfold ZoM
 exact Nat.le_trans (List.length_filter_le _ _) (by rw [List.length_take]; omega)
theorem q9p {l l' : List Hd} {v v' : List Int} {ds ds' : Dots} (a : RG l v ds) (b : RG l' v' ds') (g : agreeP l l') : sortP cfH (ZoM l' v' ds' l ++ outL v ds l') = jnL l l' v v' ds ds' := by
 have e : ZoM l' v' ds' l ++ outL v ds l' = chU l v ds l' [] v' ds' := by
  unfold chU
  rw [ZNV a.nf a.len]
  congr 1
  unfold ZoM
  refine List.filter_congr fun x hx => decide_eq_decide.2 ?_
  rw [Zgc b.nf.rg, and_iff_right (b.nf.check b.len)]
  constructor
  ·rintro (q | q)
   ·exact .inr (.inr q)
   ·exact .inl ⟨x, q, rfl⟩
  ·rintro (⟨y, hy, ey⟩ | q | q)
   ·have : x = y := Prod.ext ey.symm (g x hx y hy ey.symm)
    rw [this]
    exact .inr hy
   ·cases q
   ·exact .inl q
 rw [e]
 exact YFR a b
theorem zah {h : List AB} (hz : h.map AB.freeze = h) {l s t l' s' t' : AV} {hs hs' : List Hd} {xs xs' : List Int} {ds ds' : Dots} (hl : Rd Qv4 h l hs) (hv : Rd intR h s xs) (hd : Rd dotR h t ds) (hl' : Rd Qv4 h l' hs') (hv' : Rd intR h s' xs') (hd' : Rd dotR h t' ds') (hL : hs.length ≤ 10000 ∧ hs'.length ≤ 10000) (k1 : t.capOk = true) (k2 : t'.capOk = true) (v : AV) (h' : List AB) (e : KY4 [.ag [l, s, t], .ag [l', s', t']] h = some (v, h')) :
  FnAt Tryz.prog 15 [.ag [l, s, t], .ag [l', s', t']] h v h' := by
 simp only [KY4, hl.get, hv.get, hd.get, hl'.get, hv'.get, hd'.get, Option.bind_some] at e
 rw [if_pos ⟨hL, k1, k2⟩] at e
 refine FnAt.run (by kernel_rfl) (T := ⟨[⟨31, z0u, fun _ => []⟩, ⟨53, Xbn, fun _ => []⟩, ⟨54, Xm2, fun _ => []⟩, ⟨55, T_un, fun _ => []⟩, ⟨56, X3z, fun _ => []⟩, ⟨105, QZN, fun _ => []⟩, ⟨58, K3Y, wsS⟩], []⟩) ⟨⟨Xz3, QaF, Q21, XcO, Xx5, qFN, YgO, trivial⟩, trivial⟩ Tryz.func15 sw15 fun ho hh => ?_
 simp only [Xtq, J9R, Bool.and_eq_true] at ho
 have f1 := hl.fx ho.1.1 (sz := 34) rfl
 have f2 := hv.fx ho.1.2.1 (sz := 1) rfl
 have f3 := hd.fx ho.1.2.2.1 (sz := 2) rfl
 have f4 := hl'.fx ho.2.1.1 (sz := 34) rfl
 have f5 := hv'.fx ho.2.1.2.1 (sz := 1) rfl
 have f6 := hd'.fx ho.2.1.2.2.1 (sz := 2) rfl
 have hL1 : (hs.length ≤ 1000000) = True := eq_true (by omega)
 have hL2 : (hs'.length ≤ 1000000) = True := eq_true (by omega)
 have up : ∀ (t : AV), t.ok (fun i => decide (i < h.length)) = true → ∀ c, t.ok (fun i => decide (i < h.length + c)) = true := fun t ht c => AV.ok_mono (fun i q => by simp only [decide_eq_true_eq] at q ⊢; omega) t ht
 have rn : ∀ (t : AV), t.ok (fun i => decide (i < h.length)) = true → ∀ sel, Wk (t.ren (selN h.length sel)) t := fun t ht sel => Wk.ren (fun i hi => q8q hi) ht
 have fo := fun c => And.intro (up l ho.1.1 c) (And.intro (up s ho.1.2.1 c) (And.intro (up t ho.1.2.2.1 c) (And.intro (up l' ho.2.1.1 c) (And.intro (up s' ho.2.1.2.1 c) (up t' ho.2.1.2.2.1 c)))))
 have fr := fun sel => And.intro (rn l ho.1.1 sel) (And.intro (rn s ho.1.2.1 sel) (And.intro (rn t ho.1.2.2.1 sel) (And.intro (rn l' ho.2.1.1 sel) (And.intro (rn s' ho.2.1.2.1 sel) (rn t' ho.2.1.2.2.1 sel)))))
 have wag : ∀ sel, Wk (.ag [l.ren (selN h.length sel), s.ren (selN h.length sel), t.ren (selN h.length sel), l'.ren (selN h.length sel), s'.ren (selN h.length sel), t'.ren (selN h.length sel)]) (.ag [l, s, t, l', s', t']) = True := fun sel => eq_true (zBL ⟨rn l ho.1.1 sel, rn s ho.1.2.1 sel, rn t ho.1.2.2.1 sel, rn l' ho.2.1.1 sel, rn s' ho.2.1.2.1 sel, rn t' ho.2.1.2.2.1 sel, trivial⟩)
 have nfo : AV.nf.one = true := rfl
 have zw01 : IntKind.i64.wrap ((0 : Int) + 1) = 1 := by decide
 have zw12 : IntKind.i64.wrap ((1 : Int) + 1) = 2 := by decide
 unfold w15
 simp only [X7h, KtT, YUc, YOT, XuP, if_true, if_false, ↓reduceIte, Nat.reduceAdd, Nat.reduceSub, Nat.reduceLeDiff, Nat.reduceEqDiff, Nat.reduceMul, Nat.reduceLT, Int.reduceLT, Int.reduceLE, Int.reduceEq, CO.tmps, Opd.tmps, optT, Nat.reducePow, Nat.reduceDiv, Nat.reduceMod, f1, f2, f3, f4, f5, f6]
 refine QZq (S := Nat) (fun i => 2 - i) (fun i => tp 2 ++ [.p (h.length + 0) 0, .p (h.length + 1) 0, .p (h.length + 2) 0] ++ tp 15 ++ [.ag [l, s, t, l', s', t'], .i .i64 i] ++ tp 66) (fun _ => h ++ [.blk false true [l, s, t], .blk false true [l', s', t'], .blk false true [.ns, .ns, .ns]]) (fun i => i ≤ 2 ∧ (1 ≤ i → KwK hs xs ds = 0) ∧ (2 ≤ i → KwK hs' xs' ds' = 0)) 0 ⟨by omega, fun q => by omega, fun q => by omega⟩ (Bt.wk (by simp only [YUc, XuP, if_true, if_false, reduceIte, Nat.reduceAdd, Nat.reduceSub, Nat.reduceLeDiff, Nat.reduceEqDiff, Nat.reduceMul, Nat.reduceLT, Int.reduceLT, Int.reduceLE, Int.reduceEq])) fun i hi => ?_
 obtain ⟨hi2, hc0, hc1⟩ := hi
 have ix0 : ixaV 2 3 true (.ag [l, s, t, l', s', t']) (.i .i64 0) = some (.ag [l, s, t]) := rfl
 have ix1 : ixaV 2 3 true (.ag [l, s, t, l', s', t']) (.i .i64 1) = some (.ag [l', s', t']) := rfl
 by_cases i0 : i = 0
 ·subst i0
  by_cases c0 : KwK hs xs ds = 0
  ·simp only [YUc, YOT, XuP, if_true, if_false, ↓reduceIte, Nat.reduceAdd, Nat.reduceSub, Nat.reduceLeDiff, Nat.reduceEqDiff, Nat.reduceMul, Nat.reduceLT, Int.reduceLT, Int.reduceLE, Int.reduceEq, CO.tmps, Opd.tmps, optT, Nat.reducePow, Nat.reduceDiv, Nat.reduceMod, f1, f2, f3, f4, f5, f6, X4f, ix0, z0u, c0, hL1, zw01, ne_eq, not_false_eq_true, not_true_eq_false, decide_true, decide_false]
   exact ⟨1, ⟨by decide, by simp, fun q => absurd q (by decide)⟩, by decide, Bt.sel [0, 1, 2] hh (by decide) (by simp only [qpt, FrSel, BlkSel, AV.ren, renL, AV.ok, okL, Option.some.injEq, exists_eq_left', List.length_cons, List.length_nil, Nat.reduceAdd, Nat.reduceLT, reduceCtorEq, implies_true, exists_eq', fo, fr]) (by simp only [qpt, FrSel, BlkSel, AV.ren, renL, AV.ok, okL, Option.some.injEq, exists_eq_left', List.length_cons, List.length_nil, Nat.reduceAdd, Nat.reduceLT, reduceCtorEq, implies_true, exists_eq', fo, fr, wag, Int.natCast_one])⟩
  ·have c0' := eq_false c0
   rw [if_pos c0] at e
   cases e
   simp only [YUc, YOT, XuP, if_true, if_false, ↓reduceIte, Nat.reduceAdd, Nat.reduceSub, Nat.reduceLeDiff, Nat.reduceEqDiff, Nat.reduceMul, Nat.reduceLT, Int.reduceLT, Int.reduceLE, Int.reduceEq, CO.tmps, Opd.tmps, optT, Nat.reducePow, Nat.reduceDiv, Nat.reduceMod, f1, f2, f3, f4, f5, f6, X4f, ix0, z0u, c0', hL1, zw01, ne_eq, not_false_eq_true, not_true_eq_false, decide_true, decide_false]
   exact Bt.drop _ hh rfl (by simp only [zEw, Xtq, XSh, J9R, JoD, ok_i, Bool.and_true])
 by_cases i1 : i = 1
 ·subst i1
  have c0 := hc0 (Nat.le_refl _)
  rw [if_neg (not_not_intro c0)] at e
  by_cases c1 : KwK hs' xs' ds' = 0
  ·simp only [YUc, YOT, XuP, if_true, if_false, ↓reduceIte, Nat.reduceAdd, Nat.reduceSub, Nat.reduceLeDiff, Nat.reduceEqDiff, Nat.reduceMul, Nat.reduceLT, Int.reduceLT, Int.reduceLE, Int.reduceEq, CO.tmps, Opd.tmps, optT, Nat.reducePow, Nat.reduceDiv, Nat.reduceMod, f1, f2, f3, f4, f5, f6, X4f, ix1, z0u, c1, hL2, zw12, ne_eq, Int.natCast_one, not_false_eq_true, not_true_eq_false, decide_true, decide_false]
   exact ⟨2, ⟨by decide, fun _ => c0, by simp⟩, by decide, Bt.sel [0, 1, 2] hh (by decide) (by simp only [qpt, FrSel, BlkSel, AV.ren, renL, AV.ok, okL, Option.some.injEq, exists_eq_left', List.length_cons, List.length_nil, Nat.reduceAdd, Nat.reduceLT, reduceCtorEq, implies_true, exists_eq', fo, fr]) (by simp only [qpt, FrSel, BlkSel, AV.ren, renL, AV.ok, okL, Option.some.injEq, exists_eq_left', List.length_cons, List.length_nil, Nat.reduceAdd, Nat.reduceLT, reduceCtorEq, implies_true, exists_eq', fo, fr, wag, Int.cast_ofNat_Int])⟩
  ·have c1' := eq_false c1
   rw [if_pos c1] at e
   cases e
   simp only [YUc, YOT, XuP, if_true, if_false, ↓reduceIte, Nat.reduceAdd, Nat.reduceSub, Nat.reduceLeDiff, Nat.reduceEqDiff, Nat.reduceMul, Nat.reduceLT, Int.reduceLT, Int.reduceLE, Int.reduceEq, CO.tmps, Opd.tmps, optT, Nat.reducePow, Nat.reduceDiv, Nat.reduceMod, f1, f2, f3, f4, f5, f6, X4f, ix1, z0u, c1', hL2, zw12, ne_eq, Int.natCast_one, not_false_eq_true, not_true_eq_false, decide_true, decide_false]
   exact Bt.drop _ hh rfl (by simp only [zEw, Xtq, XSh, J9R, JoD, ok_i, Bool.and_true])
 obtain rfl : i = 2 := by omega
 have c0 := hc0 (by decide)
 have c1 := hc1 (by decide)
 clear hc0 hc1
 rw [if_neg (not_not_intro c0), if_neg (not_not_intro c1)] at e
 have ra := XFj.1 c0
 have rb := XFj.1 c1
 have cs := ra.nf.check ra.len
 have cs' := rb.nf.check rb.len
 by_cases ga : agreeP hs hs'
 case neg =>
  have ga' := eq_false ga
  rw [if_pos ga] at e
  cases e
  simp only [YUc, YOT, XuP, if_true, if_false, ↓reduceIte, Nat.reduceAdd, Nat.reduceSub, Nat.reduceLeDiff, Nat.reduceEqDiff, Nat.reduceMul, Nat.reduceLT, Int.reduceLT, Int.reduceLE, Int.reduceEq, CO.tmps, Opd.tmps, optT, Nat.reducePow, Nat.reduceDiv, Nat.reduceMod, f1, f2, f3, f4, f5, f6, Int.cast_ofNat_Int, Xbn, ga', not_false_eq_true, not_true_eq_false, decide_true, decide_false]
  exact Bt.drop _ hh rfl (by simp only [zEw, Xtq, XSh, J9R, JoD, ok_i, Bool.and_true])
 have ga' := eq_true ga
 rw [if_neg (not_not_intro ga)] at e
 by_cases g : (Zjv xs xs' ds ds').2.length ≤ 4096
 case neg =>
  have g' := eq_false g
  rw [if_pos g] at e
  cases e
  simp only [YUc, YOT, XuP, if_true, if_false, ↓reduceIte, Nat.reduceAdd, Nat.reduceSub, Nat.reduceLeDiff, Nat.reduceEqDiff, Nat.reduceMul, Nat.reduceLT, Int.reduceLT, Int.reduceLE, Int.reduceEq, CO.tmps, Opd.tmps, optT, Nat.reducePow, Nat.reduceDiv, Nat.reduceMod, f1, f2, f3, f4, f5, f6, Int.cast_ofNat_Int, Xbn, ga', Xm2, cs, cs', g', k1, k2, ne_eq, not_false_eq_true, not_true_eq_false, decide_true, decide_false]
  exact Bt.drop _ hh rfl (by simp only [zEw, Xtq, XSh, J9R, JoD, ok_i, Bool.and_true])
 have g' := eq_true g
 rw [if_neg (not_not_intro g)] at e
 cases e
 simp only [YUc, YOT, XuP, if_true, if_false, ↓reduceIte, Nat.reduceAdd, Nat.reduceSub, Nat.reduceLeDiff, Nat.reduceEqDiff, Nat.reduceMul, Nat.reduceLT, Int.reduceLT, Int.reduceLE, Int.reduceEq, CO.tmps, Opd.tmps, optT, Nat.reducePow, Nat.reduceDiv, Nat.reduceMod, f1, f2, f3, f4, f5, f6, Int.cast_ofNat_Int, Xbn, ga', Xm2, T_un, nfo, true_and, cs, cs', g', k1, k2, hl.isSl, hv.isSl, hd.isSl, hl'.isSl, hv'.isSl, hd'.isSl, ne_eq, not_false_eq_true, not_true_eq_false, decide_true, decide_false, zN7 hh, X9n hz, Zf3 hz, QwR hz]
 generalize hJ : Zjv xs xs' ds ds' = J at *
 obtain ⟨jv, jd⟩ := J
 dsimp only at *
 have hm : ∃ Lm : Nat → List Hd, Lm 0 = [] ∧ Lm 1 = ZoM hs' xs' ds' hs ∧ Lm 2 = ZoM hs' xs' ds' hs ++ outL xs ds hs' := ⟨fun n => if n = 0 then [] else if n = 1 then ZoM hs' xs' ds' hs else ZoM hs' xs' ds' hs ++ outL xs ds hs', rfl, rfl, rfl⟩
 obtain ⟨Lm, m0, m1, m2⟩ := hm
 have hS : ∃ Sm : Nat → AV, Sm 0 = .ns ∧ Sm 1 = apS Qv4 (h.length + 9) (ZoM hs' xs' ds' hs) ∧ Sm 2 = rsl Qv4 (h.length + 9) (ZoM hs' xs' ds' hs ++ outL xs ds hs') := ⟨fun n => if n = 0 then .ns else if n = 1 then apS Qv4 (h.length + 9) (ZoM hs' xs' ds' hs) else rsl Qv4 (h.length + 9) (ZoM hs' xs' ds' hs ++ outL xs ds hs'), rfl, rfl, rfl⟩
 obtain ⟨Sm, S0, S1, S2⟩ := hS
 have ao : ∀ (n : Nat) (L : List Hd), (apS Qv4 (n + 9) L).ok (fun i => decide (i < n + 11)) = true := fun n L => X9u _ _ _ (by simp)
 have ao2 : ∀ (n : Nat) (L : List Hd), (apS Qv4 (n + 9) L).ok (fun i => decide (i < n + 10)) = true := fun n L => X9u _ _ _ (by simp)
 have apW : ∀ (n : Nat) (L : List Hd), Wk (rsl Qv4 n L) (apS Qv4 n L) = True := fun n L => eq_true (qEC n L)
 have wg2 : ∀ sel, Wk (.ag [l.ren (selN h.length sel), .f (.func 56) [] [.p (h.length + 7) 0, .p (h.length + 1) 0], l'.ren (selN h.length sel), .f (.func 105) [] [.p (h.length + 8) 0]]) (.ag [l, .f (.func 56) [] [.p (h.length + 7) 0, .p (h.length + 1) 0], l', .f (.func 105) [] [.p (h.length + 8) 0]]) = True := fun sel => eq_true (zBL ⟨rn l ho.1.1 sel, Wk.refl _, rn l' ho.2.1.1 sel, Wk.refl _, trivial⟩)
 refine QZq (S := Nat) (fun i => 2 - i) (fun i => tp 4 ++ [.p (h.length + 2) 0] ++ tp 4 ++ [.p (h.length + 5) 0] ++ tp 3 ++ [Sm i] ++ tp 49 ++ [.ag [l, (.f (.func 56) [] [.p (h.length + 7) 0, .p (h.length + 1) 0]), l', (.f (.func 105) [] [.p (h.length + 8) 0])], .i .i64 i] ++ tp 23) (fun i => h ++ [.blk false true [l, s, t], .blk false true [l', s', t'], .blk false true [.ns, .ns, .ns], resB intR true jv, resB dotR true jd, .blk false true [rsl intR (h.length + 3) jv, rsl dotR (h.length + 4) jd], .blk false true [s', t'], .blk false true [.f (.func 105) [] [.p (h.length + 6) 0]], .blk false true [s, t], resB Qv4 true (Lm i)]) (fun i => i ≤ 2) 0 (by decide) ?_ fun i hi => ?_
 ·dsimp only
  rw [m0, S0]
  show Bt _ _ _ _ _ (h ++ ([.blk false true [l, s, t], .blk false true [l', s', t'], .blk false true [.ns, .ns, .ns], resB intR true jv, resB dotR true jd, .blk false true [rsl intR (h.length + 3) jv, rsl dotR (h.length + 4) jd], .blk false true [s', t'], .blk false true [.f (.func 105) [] [.p (h.length + 6) 0]], .blk false true [s, t]] ++ List.replicate 1 .dead))
  rw [← List.append_assoc]
  exact Bt.trans (Bt.wk (by simp only [YUc, XuP, if_true, if_false, reduceIte, Nat.reduceAdd, Nat.reduceSub, Nat.reduceLeDiff, Nat.reduceEqDiff, Nat.reduceMul, Nat.reduceLT, Int.reduceLT, Int.reduceLE, Int.reduceEq])) (Bt.pad _ _ 1)
 have la0 := JKI xs ds hs'
 by_cases i0 : i = 0
 ·subst i0
  have zw := zw01
  have ix : ixaV 2 2 true (.ag [l, (.f (.func 56) [] [.p (h.length + 7) 0, .p (h.length + 1) 0]), l', (.f (.func 105) [] [.p (h.length + 8) 0])]) (.i .i64 0) = some (.ag [l, (.f (.func 56) [] [.p (h.length + 7) 0, .p (h.length + 1) 0])]) := rfl
  simp only [S0, m0, YUc, YOT, XuP, if_true, if_false, ↓reduceIte, Nat.reduceAdd, Nat.reduceSub, Nat.reduceLeDiff, Nat.reduceEqDiff, Nat.reduceMul, Nat.reduceLT, Int.reduceLT, Int.reduceLE, Int.reduceEq, CO.tmps, Opd.tmps, optT, Nat.reducePow, Nat.reduceDiv, Nat.reduceMod, f1, f2, f3, f4, f5, f6, X4f, ix, nfo, true_and, List.length_cons, List.length_nil]
  refine QZq (S := Nat) (fun j => hs.length - j) (fun j => tp 4 ++ [.p (h.length + 2) 0] ++ tp 4 ++ [.p (h.length + 5) 0] ++ tp 3 ++ [apS Qv4 (h.length + 9) (ZoM hs' xs' ds' (hs.take j))] ++ tp 1 ++ [.p (h.length + 10) 0] ++ tp 47 ++ [.ag [l, (.f (.func 56) [] [.p (h.length + 7) 0, .p (h.length + 1) 0]), l', (.f (.func 105) [] [.p (h.length + 8) 0])], .i .i64 0] ++ tp 3 ++ [l, .i .i64 hs.length, .i .i64 j] ++ tp 17) (fun j => h ++ [.blk false true [l, s, t], .blk false true [l', s', t'], .blk false true [.ns, .ns, .ns], resB intR true jv, resB dotR true jd, .blk false true [rsl intR (h.length + 3) jv, rsl dotR (h.length + 4) jd], .blk false true [s', t'], .blk false true [.f (.func 105) [] [.p (h.length + 6) 0]], .blk false true [s, t], resB Qv4 true (ZoM hs' xs' ds' (hs.take j)), .blk false true [l, (.f (.func 56) [] [.p (h.length + 7) 0, .p (h.length + 1) 0])]]) (fun j => j ≤ hs.length) 0 (Nat.zero_le _) ?_ fun j hj => ?_
  ·dsimp only
   rw [show ZoM hs' xs' ds' (hs.take 0) = [] from rfl, qY6]
   exact Bt.wk (by simp only [YUc, XuP, if_true, if_false, reduceIte, Nat.reduceAdd, Nat.reduceSub, Nat.reduceLeDiff, Nat.reduceEqDiff, Nat.reduceMul, Nat.reduceLT, Int.reduceLT, Int.reduceLE, Int.reduceEq])
  by_cases gj : j < hs.length
  ·have gj' := eq_true gj
   have e1 : IntKind.i64.wrap ((j : Int) + 1) = ((j + 1 : Nat) : Int) := ZPp (by unfold In64; omega)
   have hst := ZPN hs' xs' ds' gj
   have lo := Xu0 hs' xs' ds' hs j
   have lo2 := lo
   have lO : (ZoM hs' xs' ds' (hs.take j)).length ≤ 100000 := by omega
   generalize hx : hs.getD j Qv4.d = x at *
   by_cases hq : ¬ (ZmB xs' ds' = 0 ∧ YC2 xs' ds' x.1) ∨ x ∈ hs'
   ·have hq' := eq_true hq
    have hst2 : ZoM hs' xs' ds' (hs.take (j + 1)) = (ZoM hs' xs' ds' (hs.take j)) ++ [x] := by rw [hst, if_pos hq]
    generalize hO : ZoM hs' xs' ds' (hs.take j) = O at *
    by_cases hB : O = []
    ·have z3 : (1 * 48 ≤ 140737488355328 ∧ 1 ≤ maxLen) = True := eq_true ⟨by decide, by unfold maxLen; omega⟩
     simp only [hB, qY6, YUc, YOT, XuP, if_true, if_false, ↓reduceIte, Nat.reduceAdd, Nat.reduceSub, Nat.reduceLeDiff, Nat.reduceEqDiff, Nat.reduceMul, Nat.reduceLT, Int.reduceLT, Int.reduceLE, Int.reduceEq, CO.tmps, Opd.tmps, optT, Nat.reducePow, Nat.reduceDiv, Nat.reduceMod, f1, f2, f3, f4, f5, f6, gj', hx, e1, X3z, QZN, XMj, hq', z3, J11, YiU, zqp, zso, Zcr, qdy, List.length_cons, List.length_nil, ne_eq, not_false_eq_true, not_true_eq_false, decide_true, decide_false, zN7 hh, X9n hz, Zf3 hz, QwR hz]
     refine ⟨j + 1, gj, by dsimp only; omega, ?_⟩
     simp only [hst2, hB, List.nil_append, QUa, zHR]
     exact Bt.sel [0, 1, 2, 3, 4, 5, 6, 7, 8, 13, 10] hh (by decide) (by simp only [qpt, FrSel, BlkSel, AV.ren, renL, AV.ok, okL, Option.some.injEq, exists_eq_left', List.length_cons, List.length_nil, Nat.reduceAdd, Nat.reduceLT, reduceCtorEq, implies_true, exists_eq', fo, fr]) (by simp only [qpt, FrSel, BlkSel, AV.ren, renL, AV.ok, okL, Option.some.injEq, exists_eq_left', List.length_cons, List.length_nil, Nat.reduceAdd, Nat.reduceLT, reduceCtorEq, implies_true, exists_eq', fo, fr, wg2, J7Z])
    ·have hlB : O.length ≠ 0 := fun q => hB (List.eq_nil_of_length_eq_zero q)
     have gr : ∀ id, apS Qv4 id O = rsl Qv4 id O := fun id => ZtS _ hlB
     have fa := fun L k ys hb => z4z (h := h) (p := h.length) rfl (r := Qv4) (sz := 34) rfl L k O 48 1 ys hlB hb (by decide) (by omega) (by unfold maxLen; omega)
     simp only [gr, YUc, YOT, XuP, if_true, if_false, ↓reduceIte, Nat.reduceAdd, Nat.reduceSub, Nat.reduceLeDiff, Nat.reduceEqDiff, Nat.reduceMul, Nat.reduceLT, Int.reduceLT, Int.reduceLE, Int.reduceEq, CO.tmps, Opd.tmps, optT, Nat.reducePow, Nat.reduceDiv, Nat.reduceMod, f1, f2, f3, f4, f5, f6, gj', hx, e1, X3z, QZN, XMj, hq', fa, J11, YiU, zqp, zso, Zcr, qdy, List.length_cons, List.length_nil, ne_eq, not_false_eq_true, not_true_eq_false, decide_true, decide_false, zN7 hh, X9n hz, Zf3 hz, QwR hz]
     refine ⟨j + 1, gj, by dsimp only; omega, ?_⟩
     simp only [hst2, zfM, XJH]
     exact Bt.sel [0, 1, 2, 3, 4, 5, 6, 7, 8, 13, 10] hh (by decide) (by simp only [qpt, FrSel, BlkSel, AV.ren, renL, AV.ok, okL, Option.some.injEq, exists_eq_left', List.length_cons, List.length_nil, Nat.reduceAdd, Nat.reduceLT, reduceCtorEq, implies_true, exists_eq', fo, fr]) (by simp only [qpt, FrSel, BlkSel, AV.ren, renL, AV.ok, okL, Option.some.injEq, exists_eq_left', List.length_cons, List.length_nil, Nat.reduceAdd, Nat.reduceLT, reduceCtorEq, implies_true, exists_eq', fo, fr, wg2, J7Z])
   ·have hq' := eq_false hq
    have hst2 : ZoM hs' xs' ds' (hs.take (j + 1)) = (ZoM hs' xs' ds' (hs.take j)) := by rw [hst, if_neg hq, List.append_nil]
    simp only [YUc, YOT, XuP, if_true, if_false, ↓reduceIte, Nat.reduceAdd, Nat.reduceSub, Nat.reduceLeDiff, Nat.reduceEqDiff, Nat.reduceMul, Nat.reduceLT, Int.reduceLT, Int.reduceLE, Int.reduceEq, CO.tmps, Opd.tmps, optT, Nat.reducePow, Nat.reduceDiv, Nat.reduceMod, f1, f2, f3, f4, f5, f6, gj', hx, e1, X3z, QZN, XMj, hq', J11, YiU, zqp, zso, Zcr, qdy, List.length_cons, List.length_nil, ne_eq, not_false_eq_true, not_true_eq_false, decide_true, decide_false, zN7 hh, X9n hz, Zf3 hz, QwR hz]
    refine ⟨j + 1, gj, by dsimp only; omega, ?_⟩
    simp only [hst2]
    exact Bt.sel [0, 1, 2, 3, 4, 5, 6, 7, 8, 9, 10] hh (by decide) (by simp only [qpt, FrSel, BlkSel, AV.ren, renL, AV.ok, okL, Option.some.injEq, exists_eq_left', List.length_cons, List.length_nil, Nat.reduceAdd, Nat.reduceLT, reduceCtorEq, implies_true, exists_eq', fo, fr]) (by simp only [qpt, FrSel, BlkSel, AV.ren, renL, AV.ok, okL, Option.some.injEq, exists_eq_left', List.length_cons, List.length_nil, Nat.reduceAdd, Nat.reduceLT, reduceCtorEq, implies_true, exists_eq', fo, fr, wg2, ao, J7Z])
  ·obtain rfl : j = hs.length := by omega
   have gj' := eq_false gj
   simp only [List.take_length, YUc, YOT, XuP, if_true, if_false, ↓reduceIte, Nat.reduceAdd, Nat.reduceSub, Nat.reduceLeDiff, Nat.reduceEqDiff, Nat.reduceMul, Nat.reduceLT, Int.reduceLT, Int.reduceLE, Int.reduceEq, CO.tmps, Opd.tmps, optT, Nat.reducePow, Nat.reduceDiv, Nat.reduceMod, f1, f2, f3, f4, f5, f6, gj', zw]
   refine ⟨1, by decide, by decide, ?_⟩
   simp only [m1, S1, Int.natCast_one, Int.cast_ofNat_Int]
   exact Bt.sel [0, 1, 2, 3, 4, 5, 6, 7, 8, 9] hh (by decide) (by simp only [qpt, FrSel, BlkSel, AV.ren, renL, AV.ok, okL, Option.some.injEq, exists_eq_left', List.length_cons, List.length_nil, Nat.reduceAdd, Nat.reduceLT, reduceCtorEq, implies_true, exists_eq', fo, fr]) (by simp only [qpt, FrSel, BlkSel, AV.ren, renL, AV.ok, okL, Option.some.injEq, exists_eq_left', List.length_cons, List.length_nil, Nat.reduceAdd, Nat.reduceLT, reduceCtorEq, implies_true, exists_eq', fo, fr, wg2, ao, ao2, apW, J7Z])
 by_cases i1 : i = 1
 ·subst i1
  have zw := zw12
  have ix : ixaV 2 2 true (.ag [l, (.f (.func 56) [] [.p (h.length + 7) 0, .p (h.length + 1) 0]), l', (.f (.func 105) [] [.p (h.length + 8) 0])]) (.i .i64 1) = some (.ag [l', (.f (.func 105) [] [.p (h.length + 8) 0])]) := rfl
  simp only [S1, m1, Int.natCast_one, YUc, YOT, XuP, if_true, if_false, ↓reduceIte, Nat.reduceAdd, Nat.reduceSub, Nat.reduceLeDiff, Nat.reduceEqDiff, Nat.reduceMul, Nat.reduceLT, Int.reduceLT, Int.reduceLE, Int.reduceEq, CO.tmps, Opd.tmps, optT, Nat.reducePow, Nat.reduceDiv, Nat.reduceMod, f1, f2, f3, f4, f5, f6, X4f, ix, nfo, true_and, List.length_cons, List.length_nil]
  refine QZq (S := Nat) (fun j => hs'.length - j) (fun j => tp 4 ++ [.p (h.length + 2) 0] ++ tp 4 ++ [.p (h.length + 5) 0] ++ tp 3 ++ [apS Qv4 (h.length + 9) (ZoM hs' xs' ds' hs ++ outL xs ds (hs'.take j))] ++ tp 1 ++ [.p (h.length + 10) 0] ++ tp 47 ++ [.ag [l, (.f (.func 56) [] [.p (h.length + 7) 0, .p (h.length + 1) 0]), l', (.f (.func 105) [] [.p (h.length + 8) 0])], .i .i64 1] ++ tp 3 ++ [l', .i .i64 hs'.length, .i .i64 j] ++ tp 17) (fun j => h ++ [.blk false true [l, s, t], .blk false true [l', s', t'], .blk false true [.ns, .ns, .ns], resB intR true jv, resB dotR true jd, .blk false true [rsl intR (h.length + 3) jv, rsl dotR (h.length + 4) jd], .blk false true [s', t'], .blk false true [.f (.func 105) [] [.p (h.length + 6) 0]], .blk false true [s, t], resB Qv4 true (ZoM hs' xs' ds' hs ++ outL xs ds (hs'.take j)), .blk false true [l', (.f (.func 105) [] [.p (h.length + 8) 0])]]) (fun j => j ≤ hs'.length) 0 (Nat.zero_le _) ?_ fun j hj => ?_
  ·dsimp only
   rw [show outL xs ds (hs'.take 0) = [] from rfl, List.append_nil]
   exact Bt.wk (by simp only [YUc, XuP, if_true, if_false, reduceIte, Nat.reduceAdd, Nat.reduceSub, Nat.reduceLeDiff, Nat.reduceEqDiff, Nat.reduceMul, Nat.reduceLT, Int.reduceLT, Int.reduceLE, Int.reduceEq])
  by_cases gj : j < hs'.length
  ·have gj' := eq_true gj
   have e1 : IntKind.i64.wrap ((j : Int) + 1) = ((j + 1 : Nat) : Int) := ZPp (by unfold In64; omega)
   have hst := YiZ xs ds gj
   have lo := qh8 xs ds hs' j
   have lo3 := Xu0 hs' xs' ds' hs hs.length
   rw [List.take_length] at lo3
   have lO : (ZoM hs' xs' ds' hs ++ outL xs ds (hs'.take j)).length ≤ 100000 := by rw [List.length_append]; omega
   generalize hx : hs'.getD j Qv4.d = x at *
   by_cases hq : ¬ (ZmB xs ds = 0 ∧ YC2 xs ds x.1)
   ·have hq' := eq_true hq
    have hst2 : ZoM hs' xs' ds' hs ++ outL xs ds (hs'.take (j + 1)) = (ZoM hs' xs' ds' hs ++ outL xs ds (hs'.take j)) ++ [x] := by rw [hst, if_pos hq, List.append_assoc]
    generalize hO : ZoM hs' xs' ds' hs ++ outL xs ds (hs'.take j) = O at *
    by_cases hB : O = []
    ·have z3 : (1 * 48 ≤ 140737488355328 ∧ 1 ≤ maxLen) = True := eq_true ⟨by decide, by unfold maxLen; omega⟩
     simp only [hB, qY6, YUc, YOT, XuP, if_true, if_false, ↓reduceIte, Nat.reduceAdd, Nat.reduceSub, Nat.reduceLeDiff, Nat.reduceEqDiff, Nat.reduceMul, Nat.reduceLT, Int.reduceLT, Int.reduceLE, Int.reduceEq, CO.tmps, Opd.tmps, optT, Nat.reducePow, Nat.reduceDiv, Nat.reduceMod, f1, f2, f3, f4, f5, f6, gj', hx, e1, X3z, QZN, XMj, hq', z3, J11, YiU, zqp, zso, Zcr, qdy, List.length_cons, List.length_nil, ne_eq, not_false_eq_true, not_true_eq_false, decide_true, decide_false, zN7 hh, X9n hz, Zf3 hz, QwR hz]
     refine ⟨j + 1, gj, by dsimp only; omega, ?_⟩
     simp only [hst2, hB, List.nil_append, QUa, zHR]
     exact Bt.sel [0, 1, 2, 3, 4, 5, 6, 7, 8, 13, 10] hh (by decide) (by simp only [qpt, FrSel, BlkSel, AV.ren, renL, AV.ok, okL, Option.some.injEq, exists_eq_left', List.length_cons, List.length_nil, Nat.reduceAdd, Nat.reduceLT, reduceCtorEq, implies_true, exists_eq', fo, fr]) (by simp only [qpt, FrSel, BlkSel, AV.ren, renL, AV.ok, okL, Option.some.injEq, exists_eq_left', List.length_cons, List.length_nil, Nat.reduceAdd, Nat.reduceLT, reduceCtorEq, implies_true, exists_eq', fo, fr, wg2, J7Z])
    ·have hlB : O.length ≠ 0 := fun q => hB (List.eq_nil_of_length_eq_zero q)
     have gr : ∀ id, apS Qv4 id O = rsl Qv4 id O := fun id => ZtS _ hlB
     have fa := fun L k ys hb => z4z (h := h) (p := h.length) rfl (r := Qv4) (sz := 34) rfl L k O 48 1 ys hlB hb (by decide) (by omega) (by unfold maxLen; omega)
     simp only [gr, YUc, YOT, XuP, if_true, if_false, ↓reduceIte, Nat.reduceAdd, Nat.reduceSub, Nat.reduceLeDiff, Nat.reduceEqDiff, Nat.reduceMul, Nat.reduceLT, Int.reduceLT, Int.reduceLE, Int.reduceEq, CO.tmps, Opd.tmps, optT, Nat.reducePow, Nat.reduceDiv, Nat.reduceMod, f1, f2, f3, f4, f5, f6, gj', hx, e1, X3z, QZN, XMj, hq', fa, J11, YiU, zqp, zso, Zcr, qdy, List.length_cons, List.length_nil, ne_eq, not_false_eq_true, not_true_eq_false, decide_true, decide_false, zN7 hh, X9n hz, Zf3 hz, QwR hz]
     refine ⟨j + 1, gj, by dsimp only; omega, ?_⟩
     simp only [hst2, zfM, XJH]
     exact Bt.sel [0, 1, 2, 3, 4, 5, 6, 7, 8, 13, 10] hh (by decide) (by simp only [qpt, FrSel, BlkSel, AV.ren, renL, AV.ok, okL, Option.some.injEq, exists_eq_left', List.length_cons, List.length_nil, Nat.reduceAdd, Nat.reduceLT, reduceCtorEq, implies_true, exists_eq', fo, fr]) (by simp only [qpt, FrSel, BlkSel, AV.ren, renL, AV.ok, okL, Option.some.injEq, exists_eq_left', List.length_cons, List.length_nil, Nat.reduceAdd, Nat.reduceLT, reduceCtorEq, implies_true, exists_eq', fo, fr, wg2, J7Z])
   ·have hq' := eq_false hq
    have hst2 : ZoM hs' xs' ds' hs ++ outL xs ds (hs'.take (j + 1)) = (ZoM hs' xs' ds' hs ++ outL xs ds (hs'.take j)) := by rw [hst, if_neg hq, List.append_nil]
    simp only [YUc, YOT, XuP, if_true, if_false, ↓reduceIte, Nat.reduceAdd, Nat.reduceSub, Nat.reduceLeDiff, Nat.reduceEqDiff, Nat.reduceMul, Nat.reduceLT, Int.reduceLT, Int.reduceLE, Int.reduceEq, CO.tmps, Opd.tmps, optT, Nat.reducePow, Nat.reduceDiv, Nat.reduceMod, f1, f2, f3, f4, f5, f6, gj', hx, e1, X3z, QZN, XMj, hq', J11, YiU, zqp, zso, Zcr, qdy, List.length_cons, List.length_nil, ne_eq, not_false_eq_true, not_true_eq_false, decide_true, decide_false, zN7 hh, X9n hz, Zf3 hz, QwR hz]
    refine ⟨j + 1, gj, by dsimp only; omega, ?_⟩
    simp only [hst2]
    exact Bt.sel [0, 1, 2, 3, 4, 5, 6, 7, 8, 9, 10] hh (by decide) (by simp only [qpt, FrSel, BlkSel, AV.ren, renL, AV.ok, okL, Option.some.injEq, exists_eq_left', List.length_cons, List.length_nil, Nat.reduceAdd, Nat.reduceLT, reduceCtorEq, implies_true, exists_eq', fo, fr]) (by simp only [qpt, FrSel, BlkSel, AV.ren, renL, AV.ok, okL, Option.some.injEq, exists_eq_left', List.length_cons, List.length_nil, Nat.reduceAdd, Nat.reduceLT, reduceCtorEq, implies_true, exists_eq', fo, fr, wg2, ao, J7Z])
  ·obtain rfl : j = hs'.length := by omega
   have gj' := eq_false gj
   simp only [List.take_length, YUc, YOT, XuP, if_true, if_false, ↓reduceIte, Nat.reduceAdd, Nat.reduceSub, Nat.reduceLeDiff, Nat.reduceEqDiff, Nat.reduceMul, Nat.reduceLT, Int.reduceLT, Int.reduceLE, Int.reduceEq, CO.tmps, Opd.tmps, optT, Nat.reducePow, Nat.reduceDiv, Nat.reduceMod, f1, f2, f3, f4, f5, f6, gj', zw]
   refine ⟨2, by decide, by decide, ?_⟩
   simp only [m2, S2, Int.natCast_one, Int.cast_ofNat_Int]
   exact Bt.sel [0, 1, 2, 3, 4, 5, 6, 7, 8, 9] hh (by decide) (by simp only [qpt, FrSel, BlkSel, AV.ren, renL, AV.ok, okL, Option.some.injEq, exists_eq_left', List.length_cons, List.length_nil, Nat.reduceAdd, Nat.reduceLT, reduceCtorEq, implies_true, exists_eq', fo, fr]) (by simp only [qpt, FrSel, BlkSel, AV.ren, renL, AV.ok, okL, Option.some.injEq, exists_eq_left', List.length_cons, List.length_nil, Nat.reduceAdd, Nat.reduceLT, reduceCtorEq, implies_true, exists_eq', fo, fr, wg2, ao, ao2, apW, J7Z])
 obtain rfl : i = 2 := by omega
 have lU : (ZoM hs' xs' ds' hs ++ outL xs ds hs').length ≤ 1000000 := by
  have := Xu0 hs' xs' ds' hs hs.length
  rw [List.take_length] at this
  rw [List.length_append]; omega
 have lU' := eq_true lU
 have lU2 : ((ZoM hs' xs' ds' hs ++ outL xs ds hs').length ≤ maxLen) = True := eq_true (by unfold maxLen; omega)
 have hJn := q9p ra rb ga
 have so := fun L k hk => X0b (h := h) L k (ZoM hs' xs' ds' hs ++ outL xs ds hs') hk lU
 simp only [S2, m2, YUc, YOT, XuP, if_true, if_false, ↓reduceIte, Nat.reduceAdd, Nat.reduceSub, Nat.reduceLeDiff, Nat.reduceEqDiff, Nat.reduceMul, Nat.reduceLT, Int.reduceLT, Int.reduceLE, Int.reduceEq, CO.tmps, Opd.tmps, optT, Nat.reducePow, Nat.reduceDiv, Nat.reduceMod, f1, f2, f3, f4, f5, f6, Int.cast_ofNat_Int, so, hJn, qGt, Ju7, ZTH, zn7, zN7 hh, X9n hz, Zf3 hz, QwR hz]
 exact Bt.sel [9, 3, 4] hh (by decide) (by simp only [qpt, FrSel, BlkSel, AV.ren, renL, AV.ok, okL, Option.some.injEq, exists_eq_left', List.length_cons, List.length_nil, Nat.reduceAdd, Nat.reduceLT, reduceCtorEq, implies_true, exists_eq']) (by simp only [qpt, FrSel, BlkSel, AV.ren, renL, AV.ok, okL, Option.some.injEq, exists_eq_left', List.length_cons, List.length_nil, Nat.reduceAdd, Nat.reduceLT, reduceCtorEq, implies_true, exists_eq'])
theorem qPs : Spec Tryz.prog 15 KY4 := by
 intro args h v h' e
 unfold KY4 at e
 split at e
 ·rename_i l s t l' s' t'
  obtain ⟨hs, hl, e⟩ := Ksy e
  obtain ⟨xs, hv, e⟩ := Ksy e
  obtain ⟨ds, hd, e⟩ := Ksy e
  obtain ⟨hs', hl', e⟩ := Ksy e
  obtain ⟨xs', hv', e⟩ := Ksy e
  obtain ⟨ds', hd', e⟩ := Ksy e
  split at e
  ·rename_i hL
   have key0 : ∀ v, (∀ h : List AB, Rd Qv4 h l hs → Rd intR h s xs → Rd dotR h t ds → Rd Qv4 h l' hs' → Rd intR h s' xs' → Rd dotR h t' ds' → KY4 [.ag [l, s, t], .ag [l', s', t']] h = some (v, h)) → FnC Tryz.prog 15 [.ag [l, s, t], .ag [l', s', t']] h v h := fun v q => FnAt.c (FnAt.frz0 fun hz => zah hz hl.frz hv.frz hd.frz hl'.frz hv'.frz hd'.frz hL.1 hL.2.1 hL.2.2 _ _ (q _ hl.frz hv.frz hd.frz hl'.frz hv'.frz hd'.frz))
   split at e
   ·rename_i c
    cases e
    refine key0 _ fun h hl hv hd hl' hv' hd' => ?_
    simp only [KY4, hl.get, hv.get, hd.get, hl'.get, hv'.get, hd'.get, Option.bind_some]
    rw [if_pos hL, if_pos c]
   ·rename_i c
    split at e
    ·rename_i c1
     cases e
     refine key0 _ fun h hl hv hd hl' hv' hd' => ?_
     simp only [KY4, hl.get, hv.get, hd.get, hl'.get, hv'.get, hd'.get, Option.bind_some]
     rw [if_pos hL, if_neg c, if_pos c1]
    ·rename_i c1
     split at e
     ·rename_i c2
      cases e
      refine key0 _ fun h hl hv hd hl' hv' hd' => ?_
      simp only [KY4, hl.get, hv.get, hd.get, hl'.get, hv'.get, hd'.get, Option.bind_some]
      rw [if_pos hL, if_neg c, if_neg c1, if_pos c2]
     ·rename_i c2
      split at e
      ·rename_i c3
       cases e
       refine key0 _ fun h hl hv hd hl' hv' hd' => ?_
       simp only [KY4, hl.get, hv.get, hd.get, hl'.get, hv'.get, hd'.get, Option.bind_some]
       rw [if_pos hL, if_neg c, if_neg c1, if_neg c2, if_pos c3]
      ·rename_i c3
       cases e
       refine FnAt.c (FnAt.frz fun hz => zah hz hl.frz hv.frz hd.frz hl'.frz hv'.frz hd'.frz hL.1 hL.2.1 hL.2.2 _ _ ?_)
       simp only [KY4, hl.frz.get, hv.frz.get, hd.frz.get, hl'.frz.get, hv'.frz.get, hd'.frz.get, Option.bind_some, List.length_map]
       rw [if_pos hL, if_neg c, if_neg c1, if_neg c2, if_neg c3]
  ·cases e
 ·cases e
end Go.Proofs.YtfaccliekejngaaGreat
end
section
namespace Go.Proofs.YtfaccliekejngaaGreat
set_option maxRecDepth 100000
set_option maxHeartbeats 8000000
def AV.kn : AV → Bool
 | .sl _ _ 0 _ (some 0) => false
 | _ => true
def cvV {α : Type} (r : Row α) (a : AV) (id : Nat) (l : List α) : AV := if l.length = 0 then (if a.isNs = true then .ns else .sl id 0 0 0 none) else rsl r id l
def cvB {α : Type} (r : Row α) (a : AV) (l : List α) : AB := if l.length = 0 then (if a.isNs = true then .dead else .blk true true []) else resB r true l
noncomputable def Qz9 {α : Type} (r : Row α) : List AV → List AB → Option (AV × List AB)
 | [a], h => (getS r h a).bind fun xs => if xs.length ≤ 1000000 ∧ a.kn = true then some (cvV r a h.length xs, h ++ [cvB r a xs]) else none
 | _, _ => none
theorem YAe : Spec Tryz.prog 72 (Qz9 dotR) := by
 intro args h v h' e
 unfold Qz9 at e
 split at e
 ·rename_i a
  obtain ⟨xs, ha, e⟩ := Ksy e
  split at e
  ·rename_i hl
   cases e
   have hs := ha.isSl
   have hlen := ha.len
   refine FnAt.c (FnAt.run (by kernel_rfl) (T := ⟨[], []⟩) ⟨trivial, trivial⟩ Tryz.func72 sw72 fun ho hh => ?_)
   simp only [Xtq, Bool.and_eq_true] at ho
   have fa := ha.fx ho.1 (sz := 2) rfl
   have fs := ha.src (sz := 2) rfl
   obtain ⟨hl1, hk⟩ := hl
   cases a <;> first | (cases hs; done) | skip
   ·rename_i id off len cap k
    have hq : YxE (.sl id off len cap k) .ns = some false := by
     rw [qcJ, if_neg]
     rintro ⟨rfl, rfl⟩
     cases hk
    unfold w72
    by_cases h0 : xs.length = 0
    ·have hc : cvV dotR (.sl id off len cap k) h.length xs = .sl (h.length + 0) 0 0 0 none := by unfold cvV; rw [if_pos h0]; rfl
     have hb : cvB dotR (.sl id off len cap k) xs = .blk true true [] := by unfold cvB; rw [if_pos h0]; rfl
     rw [hc, hb]
     simp only [X7h, KtT, YUc, XuP, simprocAttr, fa, fs, h0, hq]
     exact Bt.eq rfl rfl
    ·have hc : cvV dotR (.sl id off len cap k) h.length xs = rsl dotR h.length xs := by unfold cvV; rw [if_neg h0]
     have hb : cvB dotR (.sl id off len cap k) xs = resB dotR true xs := by unfold cvB; rw [if_neg h0]
     rw [hc, hb]
     simp only [X7h, KtT, YUc, XuP, simprocAttr, fa, fs, h0, hq]
     exact ⟨⟨by omega, by unfold maxLen; omega⟩, Bt.one 1 hh (fun h => absurd h h0) (by simp) (fun _ => ⟨rfl, rfl⟩)⟩
   ·have h0 : xs.length = 0 := by simp only [lenV, Option.some.injEq] at hlen; omega
    have hc : cvV dotR .se h.length xs = .sl (h.length + 0) 0 0 0 none := by unfold cvV; rw [if_pos h0]; rfl
    have hb : cvB dotR .se xs = .blk true true [] := by unfold cvB; rw [if_pos h0]; rfl
    rw [hc, hb]
    unfold w72
    simp only [X7h, KtT, YUc, XuP, simprocAttr, fa, fs, h0]
    exact Bt.eq rfl rfl
   ·have h0 : xs.length = 0 := by simp only [lenV, Option.some.injEq] at hlen; omega
    have hc : cvV dotR .ns h.length xs = .ns := by unfold cvV; rw [if_pos h0]; rfl
    have hb : cvB dotR .ns xs = .dead := by unfold cvB; rw [if_pos h0]; rfl
    rw [hc, hb]
    unfold w72
    simp only [X7h, KtT, YUc, XuP, simprocAttr]
    rw [List.append_nil]
    exact Bt.pad _ _ 1
  ·cases e
 ·cases e
theorem zCB : Spec Tryz.prog 73 (Qz9 Qv4) := by
 intro args h v h' e
 unfold Qz9 at e
 split at e
 ·rename_i a
  obtain ⟨xs, ha, e⟩ := Ksy e
  split at e
  ·rename_i hl
   cases e
   have hs := ha.isSl
   have hlen := ha.len
   refine FnAt.c (FnAt.run (by kernel_rfl) (T := ⟨[], []⟩) ⟨trivial, trivial⟩ Tryz.func73 sw73 fun ho hh => ?_)
   simp only [Xtq, Bool.and_eq_true] at ho
   have fa := ha.fx ho.1 (sz := 34) rfl
   have fs := ha.src (sz := 34) rfl
   obtain ⟨hl1, hk⟩ := hl
   cases a <;> first | (cases hs; done) | skip
   ·rename_i id off len cap k
    have hq : YxE (.sl id off len cap k) .ns = some false := by
     rw [qcJ, if_neg]
     rintro ⟨rfl, rfl⟩
     cases hk
    unfold w73
    by_cases h0 : xs.length = 0
    ·have hc : cvV Qv4 (.sl id off len cap k) h.length xs = .sl (h.length + 0) 0 0 0 none := by unfold cvV; rw [if_pos h0]; rfl
     have hb : cvB Qv4 (.sl id off len cap k) xs = .blk true true [] := by unfold cvB; rw [if_pos h0]; rfl
     rw [hc, hb]
     simp only [X7h, KtT, YUc, XuP, simprocAttr, fa, fs, h0, hq, Yoo]
     exact Bt.eq rfl rfl
    ·have hc : cvV Qv4 (.sl id off len cap k) h.length xs = rsl Qv4 h.length xs := by unfold cvV; rw [if_neg h0]
     have hb : cvB Qv4 (.sl id off len cap k) xs = resB Qv4 true xs := by unfold cvB; rw [if_neg h0]
     rw [hc, hb]
     simp only [X7h, KtT, YUc, XuP, simprocAttr, fa, fs, h0, hq, Yoo]
     exact ⟨⟨by omega, by unfold maxLen; omega⟩, Bt.one 1 hh (fun h => absurd h h0) (by simp) (fun _ => ⟨rfl, rfl⟩)⟩
   ·have h0 : xs.length = 0 := by simp only [lenV, Option.some.injEq] at hlen; omega
    have hc : cvV Qv4 .se h.length xs = .sl (h.length + 0) 0 0 0 none := by unfold cvV; rw [if_pos h0]; rfl
    have hb : cvB Qv4 .se xs = .blk true true [] := by unfold cvB; rw [if_pos h0]; rfl
    rw [hc, hb]
    unfold w73
    simp only [X7h, KtT, YUc, XuP, simprocAttr, fa, fs, h0, Yoo]
    exact Bt.eq rfl rfl
   ·have h0 : xs.length = 0 := by simp only [lenV, Option.some.injEq] at hlen; omega
    have hc : cvV Qv4 .ns h.length xs = .ns := by unfold cvV; rw [if_pos h0]; rfl
    have hb : cvB Qv4 .ns xs = .dead := by unfold cvB; rw [if_pos h0]; rfl
    rw [hc, hb]
    unfold w73
    simp only [X7h, KtT, YUc, XuP, simprocAttr]
    rw [List.append_nil]
    exact Bt.pad _ _ 1
  ·cases e
 ·cases e
noncomputable def addE (hs : List Hd) (v : List Int) (ds : Dots) (d : Int × Int) : Int :=
 if KwK hs v ds ≠ 0 then KwK hs v ds else if YC2 v ds d then 19 else if ¬ qu3 d then 3 else if ¬ (mkO v ds d).2.length ≤ 4096 then 10 else 0
noncomputable def XNE : List AV → List AB → Option (AV × List AB)
 | [.ag [l, s, t], .ag [.i .i64 a, .i .i64 b], y], h => (getS Qv4 h l).bind fun hs => (getS intR h s).bind fun v => (getS dotR h t).bind fun ds => (getI y).bind fun i =>
   if hs.length ≤ 100000 ∧ l.kn = true ∧ t.kn = true then
    if addE hs v ds (a, b) ≠ 0 then some (.tu [.ag [.ns, .ns, .ns], .i .i64 (addE hs v ds (a, b))], h)
    else some (.tu [.ag [rsl Qv4 h.length (layG J9g hs ((a, b), i)), rsl intR (h.length + 1) (mkO v ds (a, b)).1, rsl dotR (h.length + 2) (mkO v ds (a, b)).2], .i .i64 0], h ++ [resB Qv4 true (layG J9g hs ((a, b), i)), resB intR true (mkO v ds (a, b)).1, resB dotR true (mkO v ds (a, b)).2])
   else none
 | _, _ => none
theorem z01 {α : Type} {r : Row α} {sz by_ : Nat} (hz : r.sz = sz) (hb : by_ ≤ 48) {h : List AB} {t : AV} {ds : List α} (hd : Rd r h t ds) (hL : ds.length ≤ 100000) (hk : t.kn = true) :
  (ds = [] ∧ (∀ L, Qz9 r [t] (h ++ L) = some (.ns, h ++ (L ++ [.dead]))) ∧ (∀ L ys, appW (h ++ L) true sz by_ .ns 1 ys = some (.sl (h.length + L.length) 0 1 1 (some sz), h ++ (L ++ [.blk true true ys]))) ∧ (∀ id x, rsl r id (ds ++ [x]) = .sl id 0 1 1 (some sz)) ∧ (∀ x, resB r true (ds ++ [x]) = .blk true true (r.f x)) ∧ ∀ x L k, ownC L k = some (r.f x) → getS r (h ++ L) (.sl (h.length + k) 0 1 1 (some sz)) = some (ds ++ [x])) ∨
  (ds = [] ∧ (∀ L, Qz9 r [t] (h ++ L) = some (.sl (h.length + L.length) 0 0 0 none, h ++ (L ++ [.blk true true []]))) ∧ (∀ L k ys, flB true L k → appW (h ++ L) true sz by_ (.sl (h.length + k) 0 0 0 none) 1 ys = some (.sl (h.length + L.length) 0 1 1 (some sz), h ++ (L ++ [.blk true true ys]))) ∧ (∀ id x, rsl r id (ds ++ [x]) = .sl id 0 1 1 (some sz)) ∧ (∀ x, resB r true (ds ++ [x]) = .blk true true (r.f x)) ∧ ∀ x L k, ownC L k = some (r.f x) → getS r (h ++ L) (.sl (h.length + k) 0 1 1 (some sz)) = some (ds ++ [x])) ∨
  (ds.length ≠ 0 ∧ (∀ L, Qz9 r [t] (h ++ L) = some (rsl r (h.length + L.length) ds, h ++ (L ++ [resB r true ds]))) ∧ (∀ L k ys, ownM r ds L k → appW (h ++ L) true sz by_ (rsl r (h.length + k) ds) 1 ys = some (.sl (h.length + L.length) 0 (ds.length + 1) (ds.length + 1) (some sz), h ++ (qd6 L k ++ [.blk true true (r.cells ds ++ ys)]))) ∧ (∀ id x, rsl r id (ds ++ [x]) = .sl id 0 (ds.length + 1) (ds.length + 1) (some sz)) ∧ (∀ x, resB r true (ds ++ [x]) = .blk true true (r.cells ds ++ r.f x)) ∧ ∀ x L k, ownC L k = some (r.cells ds ++ r.f x) → getS r (h ++ L) (.sl (h.length + k) 0 (ds.length + 1) (ds.length + 1) (some sz)) = some (ds ++ [x])) := by
 subst hz
 have key : ∀ L, Qz9 r [t] (h ++ L) = some (cvV r t (h.length + L.length) ds, h ++ (L ++ [cvB r t ds])) := fun L => by
  simp only [Qz9, (hd.app L).get, Option.bind_some]
  rw [if_pos ⟨by omega, hk⟩, List.length_append, List.append_assoc]
 by_cases h0 : ds.length = 0
 ·have e0 := List.eq_nil_of_length_eq_zero h0
  subst e0
  have q1 : ∀ id x, rsl r id ([] ++ [x]) = .sl id 0 1 1 (some r.sz) := fun id x => ZMu id x
  have q2 : ∀ x, resB r true ([] ++ [x]) = .blk true true (r.f x) := fun x => by rw [XJH]; simp [Row.cells]
  have q3 : ∀ x L k, ownC L k = some (r.f x) → getS r (h ++ L) (.sl (h.length + k) 0 1 1 (some r.sz)) = some ([] ++ [x]) := fun x L k q => (QYM (r := r) (n := 1) (l := [x]) (by rw [q]; simp [Row.cells]) (by unfold maxLen; simp) (by simp)).get
  by_cases hn : t.isNs = true
  ·refine .inl ⟨rfl, fun L => ?_, fun L ys => ?_, q1, q2, q3⟩
   ·rw [key]
    unfold cvV cvB
    rw [if_pos h0, if_pos hn, if_pos h0, if_pos hn]
   ·unfold appW
    dsimp only
    rw [if_neg Nat.one_ne_zero, if_pos ⟨by omega, by unfold maxLen; omega⟩, List.length_append, List.append_assoc]
  ·refine .inr (.inl ⟨rfl, fun L => ?_, fun L k ys hf => ?_, q1, q2, q3⟩)
   ·rw [key]
    unfold cvV cvB
    rw [if_pos h0, if_neg hn, if_pos h0, if_neg hn]
   ·rw [YrC L k true r.sz by_ 1 ys hf, if_neg Nat.one_ne_zero, if_pos ⟨by omega, by unfold maxLen; omega⟩]
 ·refine .inr (.inr ⟨h0, fun L => ?_, fun L k ys hm => ?_, fun id x => K3g id ds x, fun x => XJH _ ds x, fun x L k q => ?_⟩)
  ·rw [key]
   unfold cvV cvB
   rw [if_neg h0, if_neg h0]
  ·exact z4z (h := h) (p := h.length) rfl (r := r) (sz := r.sz) rfl L k ds by_ 1 ys h0 hm (by decide) (Nat.le_trans (Nat.mul_le_mul_left _ hb) (by omega)) (by unfold maxLen; omega)
  ·have := (QYM (h := h) (r := r) (n := ds.length + 1) (c := ds.length + 1) (kk := some r.sz) (l := ds ++ [x]) (L := L) (k := k) (by rw [q, Q2p]; simp [Row.cells]) (by unfold maxLen; rw [List.length_append]; simp; omega) (by simp)).get
   rw [List.take_of_length_le (by simp)] at this
   exact this
theorem KRm {h : List AB} (hz : h.map AB.freeze = h) {l s t : AV} {a b : Int} {i : Dg} {hs : List Hd} {xs : List Int} {ds : Dots} (hl : Rd Qv4 h l hs) (hv : Rd intR h s xs) (hd : Rd dotR h t ds) (hL : hs.length ≤ 100000) (k1 : l.kn = true) (k2 : t.kn = true) (v : AV) (h' : List AB) (e : XNE [.ag [l, s, t], .ag [.i .i64 a, .i .i64 b], .ag (idR.f i)] h = some (v, h')) :
  FnAt Tryz.prog 24 [.ag [l, s, t], .ag [.i .i64 a, .i .i64 b], .ag (idR.f i)] h v h' := by
 simp only [XNE, hl.get, hv.get, hd.get, zJQ, Option.bind_some] at e
 rw [if_pos ⟨hL, k1, k2⟩] at e
 refine FnAt.run (by kernel_rfl) (T := ⟨[⟨31, z0u, fun _ => []⟩, ⟨70, JH4, fun _ => []⟩, ⟨72, Qz9 dotR, fun _ => []⟩, ⟨73, Qz9 Qv4, fun _ => []⟩, ⟨71, Q04, fun _ => []⟩, ⟨58, K3Y, wsS⟩], []⟩) ⟨⟨Xz3, q69, YAe, zCB, KV9, YgO, trivial⟩, trivial⟩ Tryz.func24 sw24 fun ho hh => ?_
 simp only [Xtq, J9R, Bool.and_eq_true] at ho
 have f1 := hl.fx ho.1.1 (sz := 34) rfl
 have f2 := hv.fx ho.1.2.1 (sz := 1) rfl
 have f3 := hd.fx ho.1.2.2.1 (sz := 2) rfl
 have hL1 : (hs.length ≤ 1000000) = True := eq_true (by omega)
 unfold w24
 by_cases c0 : KwK hs xs ds = 0
 case neg =>
  have hE : addE hs xs ds (a, b) = KwK hs xs ds := by unfold addE; rw [if_pos c0]
  rw [hE, if_pos c0] at e
  cases e
  have c0' := eq_false c0
  simp only [X7h, KtT, YUc, YOT, XuP, simprocAttr, CO.tmps, Opd.tmps, optT, Nat.reducePow, Nat.reduceDiv, Nat.reduceMod, f1, f2, f3, z0u, c0', hL1, XRz, JUx, Q42, qdy, ne_eq, not_false_eq_true, not_true_eq_false, decide_true, decide_false, zN7 hh, X9n hz, Zf3 hz, QwR hz]
  exact Bt.drop _ hh rfl (by simp only [zEw, Xtq, XSh, J9R, JoD, ok_i, Bool.and_true])
 have rg := XFj.1 c0
 have cs := rg.nf.check rg.len
 by_cases c1 : YC2 xs ds (a, b)
 ·have hE : addE hs xs ds (a, b) = 19 := by unfold addE; rw [if_neg (not_not_intro c0), if_pos c1]
  rw [hE, if_pos (by decide)] at e
  cases e
  have c1' := eq_true c1
  simp only [X7h, KtT, YUc, YOT, XuP, simprocAttr, CO.tmps, Opd.tmps, optT, Nat.reducePow, Nat.reduceDiv, Nat.reduceMod, f1, f2, f3, z0u, JH4, c0, cs, c1', hL1, XRz, JUx, Q42, qdy, ne_eq, not_false_eq_true, not_true_eq_false, decide_true, decide_false, zN7 hh, X9n hz, Zf3 hz, QwR hz]
  exact Bt.drop _ hh rfl (by simp only [zEw, Xtq, XSh, J9R, JoD, ok_i, Bool.and_true])
 have c1' := eq_false c1
 have lds := rg.len
 have hrg : YoU xs (ds ++ [(a, b)]) ↔ qu3 (a, b) := ⟨fun q => q.2.2 _ (List.mem_append.2 (.inr (.head _))), fun q => ⟨rg.nf.rg.1, rg.nf.rg.2.1, fun x hx => by
  rcases List.mem_append.1 hx with z | z
  ·exact rg.nf.rg.2.2 x z
  ·rw [List.mem_singleton.1 z]; exact q⟩⟩
 have g7 : ((ds ++ [(a, b)]).length ≤ 100000) = True := eq_true (by rw [List.length_append]; simp; omega)
 have g8 : (ds ++ [(a, b)]).length ≤ maxLen := by unfold maxLen; rw [List.length_append]; simp; omega
 have gm : fmO xs (ds ++ [(a, b)]) = mkO xs ds (a, b) := rfl
 have f01 : dotR.f (a, b) = [.i .i64 a, .i .i64 b] := X5L (a, b)
 have cd := z01 (r := dotR) (sz := 2) (by_ := 16) rfl (by decide) hd (by omega) k2
 have ch := z01 (r := Qv4) (sz := 34) (by_ := 48) rfl (by decide) hl hL k1
 by_cases c2 : qu3 (a, b)
 case neg =>
  have hE : addE hs xs ds (a, b) = 3 := by unfold addE; rw [if_neg (not_not_intro c0), if_neg c1, if_pos c2]
  rw [hE, if_pos (by decide)] at e
  cases e
  have c2' := eq_false fun z => c2 (hrg.1 z)
  rcases cd with ⟨e0, eT, fT, rT, bT, gT⟩ | ⟨e0, eT, fT, rT, bT, gT⟩ | ⟨e0, eT, fT, rT, bT, gT⟩
  all_goals
   have gd := gT (a, b)
   rw [f01] at gd
   simp only [X7h, KtT, YUc, YOT, XuP, simprocAttr, CO.tmps, Opd.tmps, optT, Nat.reducePow, Nat.reduceDiv, Nat.reduceMod, f1, f2, f3, z0u, JH4, Q04, eT, fT, gd, c0, cs, c1', c2', g7, hL1, XRz, JUx, Q42, qdy, ne_eq, not_false_eq_true, not_true_eq_false, decide_true, decide_false, zN7 hh, X9n hz, Zf3 hz, QwR hz]
   exact Bt.drop _ hh rfl (by simp only [zEw, Xtq, XSh, J9R, JoD, ok_i, Bool.and_true])
 have c2' := eq_true (hrg.2 c2)
 generalize hM : mkO xs ds (a, b) = M at *
 by_cases c3 : M.2.length ≤ 4096
 case neg =>
  have hE : addE hs xs ds (a, b) = 10 := by unfold addE; rw [if_neg (not_not_intro c0), if_neg c1, if_neg (not_not_intro c2), hM, if_pos c3]
  rw [hE, if_pos (by decide)] at e
  cases e
  have c3' := eq_false c3
  rcases cd with ⟨e0, eT, fT, rT, bT, gT⟩ | ⟨e0, eT, fT, rT, bT, gT⟩ | ⟨e0, eT, fT, rT, bT, gT⟩
  all_goals
   have gd := gT (a, b)
   rw [f01] at gd
   simp only [X7h, KtT, YUc, YOT, XuP, simprocAttr, CO.tmps, Opd.tmps, optT, Nat.reducePow, Nat.reduceDiv, Nat.reduceMod, f1, f2, f3, z0u, JH4, Q04, eT, fT, gd, gm, c0, cs, c1', c2', c3', g7, hL1, XRz, JUx, Q42, qdy, ne_eq, not_false_eq_true, not_true_eq_false, decide_true, decide_false, zN7 hh, X9n hz, Zf3 hz, QwR hz]
   exact Bt.drop _ hh rfl (by simp only [zEw, Xtq, XSh, J9R, JoD, ok_i, Bool.and_true])
 have c3' := eq_true c3
 have hE : addE hs xs ds (a, b) = 0 := by unfold addE; rw [if_neg (not_not_intro c0), if_neg c1, if_neg (not_not_intro c2), hM, if_neg (not_not_intro c3)]
 rw [hE, if_neg (not_not_intro rfl)] at e
 cases e
 have hlay : sortP cfH (hs ++ [((a, b), i)]) = layG J9g hs ((a, b), i) := KcG rg.rise fun y hy e => c1 (by
  have := rg.sn y hy
  rw [e] at this
  exact (Zgc rg.nf.rg _).2 this)
 have so0 : ∀ (L : List AB) (k : Nat), L[k]? = some (resB Qv4 true (hs ++ [((a, b), i)])) → K3Y [rsl Qv4 (h.length + k) (hs ++ [((a, b), i)])] (h ++ L) = some (rsl Qv4 (h.length + k) (layG J9g hs ((a, b), i)), h ++ L.set k (resB Qv4 true (layG J9g hs ((a, b), i)))) := fun L k q => by
  have h1 : (h ++ L)[h.length + k]? = some (resB Qv4 true (hs ++ [((a, b), i)])) := by rw [Qzw]; exact q
  have hn : (hs ++ [((a, b), i)]).length ≤ 1000000 := by rw [List.length_append]; simp; omega
  have g := (Qgo h1 (by unfold maxLen; omega)).get
  simp only [K3Y, g, Option.bind_some, Ju7]
  rw [if_pos ⟨hn, rfl, h1⟩, qIW, hlay]
 have fx : Qv4.f ((a, b), i) = .i .i64 a :: .i .i64 b :: idR.f i := XjB _
 rcases cd with ⟨e0, eT, fT, rT, bT, gT⟩ | ⟨e0, eT, fT, rT, bT, gT⟩ | ⟨e0, eT, fT, rT, bT, gT⟩ <;> rcases ch with ⟨e2, eL, fL, rL, bL, _⟩ | ⟨e2, eL, fL, rL, bL, _⟩ | ⟨e2, eL, fL, rL, bL, _⟩
 all_goals
  have gd := gT (a, b)
  rw [f01] at gd
  have so := so0
  simp only [rL, bL, fx] at so
  simp only [X7h, KtT, YUc, YOT, XuP, simprocAttr, CO.tmps, Opd.tmps, optT, Nat.reducePow, Nat.reduceDiv, Nat.reduceMod, f1, f2, f3, z0u, JH4, Q04, eT, fT, gd, gm, eL, fL, so, wsS, c0, cs, c1', c2', c3', g7, hL1, XRz, JUx, Q42, qdy, ne_eq, not_false_eq_true, not_true_eq_false, decide_true, decide_false, zN7 hh, X9n hz, Zf3 hz, QwR hz]
  exact ⟨Jmd _ _, Jmd _ _, Jmd _ _, Bt.sel [12, 7, 8] hh (by decide) (by simp only [qpt, FrSel, BlkSel, AV.ren, renL, AV.ok, okL, Option.some.injEq, exists_eq_left', List.length_cons, List.length_nil, Nat.reduceAdd, Nat.reduceLT, reduceCtorEq, implies_true, exists_eq']) (by simp only [qpt, FrSel, BlkSel, AV.ren, renL, AV.ok, okL, Option.some.injEq, exists_eq_left', List.length_cons, List.length_nil, Nat.reduceAdd, Nat.reduceLT, reduceCtorEq, implies_true, exists_eq'])⟩
theorem JO8 : Spec Tryz.prog 24 XNE := by
 intro args h v h' e
 unfold XNE at e
 split at e
 ·rename_i l s t a b y
  obtain ⟨hs, hl, e⟩ := Ksy e
  obtain ⟨xs, hv, e⟩ := Ksy e
  obtain ⟨ds, hd, e⟩ := Ksy e
  obtain ⟨i, hi, e2⟩ := qAn e
  clear e
  subst hi
  split at e2
  ·rename_i hL
   split at e2
   ·rename_i c
    cases e2
    refine FnAt.c (FnAt.frz0 fun hz => KRm hz hl.frz hv.frz hd.frz hL.1 hL.2.1 hL.2.2 _ _ ?_)
    simp only [XNE, hl.frz.get, hv.frz.get, hd.frz.get, zJQ, Option.bind_some]
    rw [if_pos hL, if_pos c]
   ·rename_i c
    cases e2
    refine FnAt.c (FnAt.frz fun hz => KRm hz hl.frz hv.frz hd.frz hL.1 hL.2.1 hL.2.2 _ _ ?_)
    simp only [XNE, hl.frz.get, hv.frz.get, hd.frz.get, zJQ, Option.bind_some, List.length_map]
    rw [if_pos hL, if_neg c]
  ·cases e2
 ·cases e
end Go.Proofs.YtfaccliekejngaaGreat
end
section
namespace Go.Proofs.YtfaccliekejngaaGreat
set_option maxRecDepth 100000
set_option maxHeartbeats 4000000
def zTG : List AV → List AB → Option (AV × List AB)
 | [], h => some (.b true, h)
 | _, _ => none
end Go.Proofs.YtfaccliekejngaaGreat
end
section
namespace Go.Proofs.YtfaccliekejngaaGreat
set_option maxRecDepth 100000
set_option maxHeartbeats 4000000
def dgB (n : Int) : Dg := ⟨UInt8.ofInt n :: List.replicate 31 0, by simp⟩
theorem zYy {n : Int} (h : 0 ≤ n ∧ n < 256) : idR.f (dgB n) = .i .u8 n :: List.replicate 31 (.i .u8 0) := by
 have e : ((UInt8.ofInt n).toNat : Int) = n := by
  simp [UInt8.ofInt]
  omega
 show u8A (UInt8.ofInt n) :: (List.replicate 31 (0 : UInt8)).map u8A = _
 unfold u8A
 rw [e]
 rfl
end Go.Proofs.YtfaccliekejngaaGreat
end
