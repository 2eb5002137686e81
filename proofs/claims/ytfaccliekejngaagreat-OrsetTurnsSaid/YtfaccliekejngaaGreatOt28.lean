/- Part 28 of what the laws' proofs rest on. No condition. -/
import Derived.Test.YtfaccliekejngaaGreatOt27
set_option linter.all false
section
namespace Go.Proofs.YtfaccliekejngaaGreat
set_option maxRecDepth 100000
set_option maxHeartbeats 8000000
noncomputable def zRe : List AV → List AB → Option (AV × List AB)
 | [.ag [l, s, t], y], h => (getS qjO h l).bind fun hs => (getS intR h s).bind fun v => (getS dotR h t).bind fun ds => (getI y).bind fun i => some (.b (decide (Kq6 hs v ds = 0 ∧ ∃ x ∈ hs, x.2 = i)), h)
 | _, _ => none
theorem Z5r : Spec Tryz.prog 34 zRe := by
 intro args h v h' e
 unfold zRe at e
 split at e
 ·rename_i l s t y
  obtain ⟨hs, hl, e⟩ := YI8 e
  obtain ⟨xs, hv, e⟩ := YI8 e
  obtain ⟨ds, hd, e⟩ := YI8 e
  obtain ⟨X, hX, e2⟩ := Kky e
  clear e
  subst hX
  cases e2
  refine FnAt.c (FnAt.frz0 fun hz => ?_)
  replace hl := hl.frz
  replace hv := hv.frz
  replace hd := hd.frz
  generalize h.map AB.freeze = h at *
  refine FnAt.run (by kernel_rfl) (T := ⟨[⟨32, Q1I, fun _ => []⟩], []⟩) ⟨⟨JxU, trivial⟩, trivial⟩ Tryz.func34 sw34 fun ho hh => ?_
  simp only [qMC, JAX, Bool.and_eq_true] at ho
  have f1 := hl.fx ho.1.1 (sz := 34) rfl
  have f2 := hv.fx ho.1.2.1 (sz := 1) rfl
  have f3 := hd.fx ho.1.2.2.1 (sz := 2) rfl
  have f7 := zxg hl
  unfold w34
  simp only [XH8, QN9, X1r, X5W, zVq, simprocAttr, CO.tmps, Opd.tmps, optT, Nat.reducePow, Nat.reduceDiv, Nat.reduceMod, f1, f2, f3, Ydx, XwU, Kb6, Ke3]
  refine YHj (S := Nat) (fun i => hs.length - i) (fun i => tp 2 ++ [.p (h.length + 0) 0, .p (h.length + 1) 0] ++ tp 1 ++ [.i .i64 i] ++ tp 20) (fun _ => h ++ [.blk false true [l, s, t], .blk true true (idR.f X)]) (fun i => i ≤ hs.length ∧ ∀ x ∈ hs.take i, x.2 ≠ X) 0 ⟨Nat.zero_le _, fun x hx => by simp at hx⟩ (Bt.wk (by simp only [X1r, zVq, simprocAttr])) fun i hi => ?_
  by_cases g1 : i < hs.length
  ·have g1' := eq_true g1
   have e1 : IntKind.i64.wrap ((i : Int) + 1) = ((i + 1 : Nat) : Int) := ZL4 (by have := hl.2; unfold maxLen at this; unfold In64; omega)
   have hxm := q44 g1
   have htk := YAh g1
   generalize hx : hs.getD i qjO.d = x at *
   by_cases c0 : Kq6 hs xs ds = 0
   ·by_cases q : x.2 = X
    ·have q' := eq_true q
     simp only [X1r, X5W, zVq, simprocAttr, CO.tmps, Opd.tmps, optT, Nat.reducePow, Nat.reduceDiv, Nat.reduceMod, f1, f2, f3, f7, g1', hx, e1, Q1I, c0, q', QLO, Zph, Ydx, XwU, Kb6, Ke3, ne_eq, not_false_eq_true, not_true_eq_false, decide_true, decide_false, true_and, QNE hh, QFK hz, K9V hz, Ksi hz]
     exact Bt.dropB _ hh (decide_eq_true ⟨x, hxm, q⟩).symm
    ·have q' := eq_false q
     simp only [X1r, X5W, zVq, simprocAttr, CO.tmps, Opd.tmps, optT, Nat.reducePow, Nat.reduceDiv, Nat.reduceMod, f1, f2, f3, f7, g1', hx, e1, Q1I, c0, q', QLO, Zph, Ydx, XwU, Kb6, Ke3, ne_eq, not_false_eq_true, not_true_eq_false, decide_true, decide_false, true_and, QNE hh, QFK hz, K9V hz, Ksi hz]
     refine ⟨i + 1, ⟨g1, fun y hy => ?_⟩, by dsimp only; omega, Bt.wk (by simp only [X1r, zVq, simprocAttr])⟩
     rcases (htk y).1 hy with w | w
     ·exact hi.2 y w
     ·rw [w]; exact q
   ·have c0' := eq_false c0
    simp only [X1r, X5W, zVq, simprocAttr, CO.tmps, Opd.tmps, optT, Nat.reducePow, Nat.reduceDiv, Nat.reduceMod, f1, f2, f3, f7, g1', hx, e1, Q1I, c0', ne_eq, not_false_eq_true, not_true_eq_false, decide_true, decide_false]
    exact Bt.dropB _ hh rfl
  ·obtain rfl : i = hs.length := by omega
   have g1' := eq_false g1
   have hn := hi.2
   rw [List.take_length] at hn
   simp only [X1r, X5W, zVq, simprocAttr, CO.tmps, Opd.tmps, optT, Nat.reducePow, Nat.reduceDiv, Nat.reduceMod, f1, f2, f3, g1', decide_false]
   exact Bt.dropB _ hh (decide_eq_false fun z => z.2.elim fun x q => hn x q.1 q.2).symm
 ·cases e
theorem J05 {h : List AB} (hz : h.map AB.freeze = h) {l s t : AV} {X : Dg} {hs : List Hd} {xs : List Int} {ds : Dots} (hl : Rd qjO h l hs) (hv : Rd intR h s xs) (hd : Rd dotR h t ds) (hL : hs.length ≤ 100000 ∧ xs.length ≤ 1000000 ∧ ds.length ≤ 1000000) (v : AV) (h' : List AB) (e : qBn [.ag [l, s, t], .ag (idR.f X)] h = some (v, h')) :
  FnAt Tryz.prog 27 [.ag [l, s, t], .ag (idR.f X)] h v h' := by
 simp only [qBn, hl.get, hv.get, hd.get, ZK2, Option.bind_some] at e
 rw [if_pos hL] at e
 refine FnAt.run (by kernel_rfl) (T := ⟨[⟨32, Q1I, fun _ => []⟩, ⟨34, zRe, fun _ => []⟩, ⟨62, q7G, fun _ => []⟩], []⟩) ⟨⟨JxU, Z5r, qVE, trivial⟩, trivial⟩ Tryz.func27 sw27 fun ho hh => ?_
 simp only [qMC, JAX, Bool.and_eq_true] at ho
 have f1 := hl.fx ho.1.1 (sz := 34) rfl
 have f2 := hv.fx ho.1.2.1 (sz := 1) rfl
 have f3 := hd.fx ho.1.2.2.1 (sz := 2) rfl
 have f7 := zxg hl
 have hL2 := eq_true hL.2.1
 have hL3 := eq_true hL.2.2
 have up : ∀ (t : AV), t.ok (fun i => decide (i < h.length)) = true → ∀ c, t.ok (fun i => decide (i < h.length + c)) = true := fun t ht c => AV.ok_mono (fun i q => by simp only [decide_eq_true_eq] at q ⊢; omega) t ht
 have rn : ∀ (t : AV), t.ok (fun i => decide (i < h.length)) = true → ∀ sel, Wk (t.ren (selN h.length sel)) t := fun t ht sel => Wk.ren (fun i hi => Xdk hi) ht
 have fo := fun c => And.intro (up l ho.1.1 c) (And.intro (up s ho.1.2.1 c) (up t ho.1.2.2.1 c))
 have fr := fun sel => And.intro (rn l ho.1.1 sel) (And.intro (rn s ho.1.2.1 sel) (rn t ho.1.2.2.1 sel))
 unfold w27
 by_cases c0 : Kq6 hs xs ds = 0
 case neg =>
  have c0' := eq_false c0
  rw [if_pos c0] at e
  cases e
  simp only [XH8, QN9, X1r, X5W, zVq, simprocAttr, CO.tmps, Opd.tmps, optT, Nat.reducePow, Nat.reduceDiv, Nat.reduceMod, f1, f2, f3, Q1I, c0', Ydx, XwU, Kb6, Ke3, ne_eq, not_false_eq_true, not_true_eq_false, decide_true, decide_false]
  exact Bt.drop _ hh rfl (by simp only [ZVg, qMC, YI0, JAX, Yiy, ok_i, Bool.and_true])
 rw [if_neg (not_not_intro c0)] at e
 by_cases c1 : ∃ x ∈ hs, x.2 = X
 case neg =>
  have c1' := eq_false c1
  rw [if_pos c1] at e
  cases e
  simp only [XH8, QN9, X1r, X5W, zVq, simprocAttr, CO.tmps, Opd.tmps, optT, Nat.reducePow, Nat.reduceDiv, Nat.reduceMod, f1, f2, f3, Q1I, zRe, ZK2, c0, c1', and_false, Ydx, XwU, Kb6, Ke3, ne_eq, not_false_eq_true, not_true_eq_false, decide_true, decide_false]
  exact Bt.drop _ hh rfl (by simp only [ZVg, qMC, YI0, JAX, Yiy, ok_i, Bool.and_true])
 have c1' := eq_true c1
 rw [if_neg (not_not_intro c1)] at e
 cases e
 have ak := fun (n : Nat) (L : List Hd) => And.intro (ZrU (r := qjO) (fun i => decide (i < n + 7)) (n + 6) L (by simp)) (ZrU (r := qjO) (fun i => decide (i < n + 9)) (n + 6) L (by simp))
 have mm1 : (1 * 48 ≤ 140737488355328 ∧ 1 ≤ maxLen) = True := eq_true ⟨by decide, by unfold maxLen; omega⟩
 simp only [XH8, QN9, X1r, X5W, zVq, simprocAttr, CO.tmps, Opd.tmps, optT, Nat.reducePow, Nat.reduceDiv, Nat.reduceMod, f1, f2, f3, Q1I, zRe, q7G, ZK2, c0, c1', hL2, hL3, and_self, Ydx, XwU, Kb6, Ke3, ne_eq, not_false_eq_true, not_true_eq_false, decide_true, decide_false]
 refine YHj (S := Nat) (fun j => hs.length - j) (fun j => tp 2 ++ [.p (h.length + 0) 0, .p (h.length + 1) 0, .p (h.length + 2) 0] ++ tp 2 ++ [.p (h.length + 5) 0, .i .i64 j] ++ tp 43) (fun j => h ++ [.blk false true [l, s, t], .blk true true (idR.f X), .blk false true [.ns, .ns, .ns], resB intR true xs, resB dotR true ds, .blk false true [apS qjO (h.length + 6) (delL X (hs.take j)), rsl intR (h.length + 3) xs, rsl dotR (h.length + 4) ds], resB qjO true (delL X (hs.take j))]) (fun j => j ≤ hs.length) 0 (Nat.zero_le _) ?_ fun j hj => ?_
 ·show Bt _ _ _ _ _ (h ++ ([.blk false true [l, s, t], .blk true true (idR.f X), .blk false true [.ns, .ns, .ns], resB intR true xs, resB dotR true ds, .blk false true [.ns, rsl intR (h.length + 3) xs, rsl dotR (h.length + 4) ds]] ++ List.replicate 1 .dead))
  rw [← List.append_assoc]
  exact Bt.trans (Bt.wk (by simp only [X1r, zVq, simprocAttr])) (Bt.pad _ _ 1)
 by_cases gj : j < hs.length
 ·have gj' := eq_true gj
  have e1 : IntKind.i64.wrap ((j : Int) + 1) = ((j + 1 : Nat) : Int) := ZL4 (by unfold In64; omega)
  have h1 := Xc5 X gj
  have l1 : (delL X (hs.take j)).length ≤ j := Nat.le_trans (Yfa X _) (by rw [List.length_take]; omega)
  generalize hx : hs.getD j qjO.d = x at *
  generalize ho1 : delL X (hs.take j) = O at *
  by_cases q : x.2 = X
  ·have q' := eq_true q
   rw [if_neg (not_not_intro q), List.append_nil] at h1
   simp only [X1r, X5W, zVq, simprocAttr, CO.tmps, Opd.tmps, optT, Nat.reducePow, Nat.reduceDiv, Nat.reduceMod, f1, f2, f3, f7, gj', hx, e1, q', QLO, Zph, Ydx, XwU, Kb6, KJo, XEe, zp7, ZOt, Ke3, ne_eq, not_false_eq_true, not_true_eq_false, decide_true, decide_false, true_and, QNE hh, QFK hz, K9V hz, Ksi hz]
   refine ⟨j + 1, gj, by dsimp only; omega, ?_⟩
   simp only [h1]
   exact Bt.sel [0, 1, 2, 3, 4, 5, 6] hh (by decide) (by simp only [q9C, FrSel, BlkSel, AV.ren, renL, AV.ok, okL, Option.some.injEq, exists_eq_left', List.length_cons, List.length_nil, Nat.reduceAdd, Nat.reduceLT, reduceCtorEq, implies_true, exists_eq', fo, fr, ak, YuL]) (by simp only [q9C, FrSel, BlkSel, AV.ren, renL, AV.ok, okL, Option.some.injEq, exists_eq_left', List.length_cons, List.length_nil, Nat.reduceAdd, Nat.reduceLT, reduceCtorEq, implies_true, exists_eq', fo, fr, ak, YuL])
  ·have q' := eq_false q
   rw [if_pos q] at h1
   by_cases hB : O = []
   ·simp only [hB, ZLN, X1r, X5W, zVq, simprocAttr, CO.tmps, Opd.tmps, optT, Nat.reducePow, Nat.reduceDiv, Nat.reduceMod, f1, f2, f3, f7, gj', hx, e1, q', mm1, QLO, Zph, Ydx, XwU, Kb6, KJo, XEe, zp7, ZOt, Ke3, ne_eq, not_false_eq_true, not_true_eq_false, decide_true, decide_false, true_and, QNE hh, QFK hz, K9V hz, Ksi hz]
    refine ⟨j + 1, gj, by dsimp only; omega, ?_⟩
    simp only [h1, hB, List.nil_append, J8D, KvS]
    exact Bt.sel [0, 1, 2, 3, 4, 5, 8] hh (by decide) (by simp only [q9C, FrSel, BlkSel, AV.ren, renL, AV.ok, okL, Option.some.injEq, exists_eq_left', List.length_cons, List.length_nil, Nat.reduceAdd, Nat.reduceLT, reduceCtorEq, implies_true, exists_eq', fo, fr, ak, YuL]) (by simp only [q9C, FrSel, BlkSel, AV.ren, renL, AV.ok, okL, Option.some.injEq, exists_eq_left', List.length_cons, List.length_nil, Nat.reduceAdd, Nat.reduceLT, reduceCtorEq, implies_true, exists_eq', fo, fr, ak, YuL])
   ·have hlB : O.length ≠ 0 := fun z => hB (List.eq_nil_of_length_eq_zero z)
    have gr : ∀ id, apS qjO id O = rsl qjO id O := fun id => J0z _ hlB
    have fb := fun L k ys hb => KDi (h := h) (p := h.length) rfl (r := qjO) (sz := 34) rfl L k O 48 1 ys hlB hb (by decide) (by omega) (by unfold maxLen; omega)
    simp only [gr, X1r, X5W, zVq, simprocAttr, CO.tmps, Opd.tmps, optT, Nat.reducePow, Nat.reduceDiv, Nat.reduceMod, f1, f2, f3, f7, gj', hx, e1, q', fb, QLO, Zph, Ydx, XwU, Kb6, KJo, XEe, zp7, ZOt, Ke3, ne_eq, not_false_eq_true, not_true_eq_false, decide_true, decide_false, true_and, QNE hh, QFK hz, K9V hz, Ksi hz]
    refine ⟨j + 1, gj, by dsimp only; omega, ?_⟩
    simp only [h1, XlZ, zbl]
    exact Bt.sel [0, 1, 2, 3, 4, 5, 8] hh (by decide) (by simp only [q9C, FrSel, BlkSel, AV.ren, renL, AV.ok, okL, Option.some.injEq, exists_eq_left', List.length_cons, List.length_nil, Nat.reduceAdd, Nat.reduceLT, reduceCtorEq, implies_true, exists_eq', fo, fr, ak, YuL]) (by simp only [q9C, FrSel, BlkSel, AV.ren, renL, AV.ok, okL, Option.some.injEq, exists_eq_left', List.length_cons, List.length_nil, Nat.reduceAdd, Nat.reduceLT, reduceCtorEq, implies_true, exists_eq', fo, fr, ak, YuL])
 ·obtain rfl : j = hs.length := by omega
  have gj' := eq_false gj
  simp only [List.take_length, X1r, X5W, zVq, simprocAttr, CO.tmps, Opd.tmps, optT, Nat.reducePow, Nat.reduceDiv, Nat.reduceMod, f1, f2, f3, gj']
  refine Bt.trans XLX ?_
  exact Bt.sel [6, 3, 4] hh (by decide) (by simp only [q9C, FrSel, BlkSel, AV.ren, renL, AV.ok, okL, Option.some.injEq, exists_eq_left', List.length_cons, List.length_nil, Nat.reduceAdd, Nat.reduceLT, reduceCtorEq, implies_true, exists_eq']) (by simp only [q9C, FrSel, BlkSel, AV.ren, renL, AV.ok, okL, Option.some.injEq, exists_eq_left', List.length_cons, List.length_nil, Nat.reduceAdd, Nat.reduceLT, reduceCtorEq, implies_true, exists_eq'])
theorem Qim : Spec Tryz.prog 27 qBn := by
 intro args h v h' e
 unfold qBn at e
 split at e
 ·rename_i l s t y
  obtain ⟨hs, hl, e⟩ := YI8 e
  obtain ⟨xs, hv, e⟩ := YI8 e
  obtain ⟨ds, hd, e⟩ := YI8 e
  obtain ⟨i, hi, e2⟩ := Kky e
  clear e
  subst hi
  split at e2
  ·rename_i hL
   split at e2
   ·rename_i c
    cases e2
    refine FnAt.c (FnAt.frz0 fun hz => J05 hz hl.frz hv.frz hd.frz hL _ _ ?_)
    simp only [qBn, hl.frz.get, hv.frz.get, hd.frz.get, ZK2, Option.bind_some]
    rw [if_pos hL, if_pos c]
   ·rename_i c
    split at e2
    ·rename_i c1
     cases e2
     refine FnAt.c (FnAt.frz0 fun hz => J05 hz hl.frz hv.frz hd.frz hL _ _ ?_)
     simp only [qBn, hl.frz.get, hv.frz.get, hd.frz.get, ZK2, Option.bind_some]
     rw [if_pos hL, if_neg c, if_pos c1]
    ·rename_i c1
     cases e2
     refine FnAt.c (FnAt.frz fun hz => J05 hz hl.frz hv.frz hd.frz hL _ _ ?_)
     simp only [qBn, hl.frz.get, hv.frz.get, hd.frz.get, ZK2, Option.bind_some, List.length_map]
     rw [if_pos hL, if_neg c, if_neg c1]
  ·cases e2
 ·cases e
end Go.Proofs.YtfaccliekejngaaGreat
end
section
namespace Go.Proofs.YtfaccliekejngaaGreat
set_option maxRecDepth 100000
set_option maxHeartbeats 8000000
def rCl (p q : Nat) (v v' : List Int) (ds ds' : Dots) : List AV := [.sl p 0 (topI (fmR (XF1 v v' 16) (layR (ds ++ ds'))).1 16) 16 none, rsl dotR q (fmR (XF1 v v' 16) (layR (ds ++ ds'))).2]
def rClB (v v' : List Int) (ds ds' : Dots) : List AB := [.blk true true (intR.cells (fmR (XF1 v v' 16) (layR (ds ++ ds'))).1), resB dotR true (fmR (XF1 v v' 16) (layR (ds ++ ds'))).2]
end Go.Proofs.YtfaccliekejngaaGreat
end
section
namespace Go.Proofs.YtfaccliekejngaaGreat
set_option maxRecDepth 100000
set_option maxHeartbeats 8000000
theorem JLs {d : Int × Int} : J6E [] [d] ↔ KG5 d :=
 ⟨fun q => q.2.2 d (List.mem_singleton.2 rfl), fun q => ⟨by simp, fun n hn => (by cases hn), fun x hx => (by rw [List.mem_singleton.1 hx]; exact q)⟩⟩
theorem Z8o {d : Int × Int} (hd : KG5 d) : NF (fmO [] [d]).1 (fmO [] [d]).2 := NF.fm (JLs.2 hd)
theorem qGy {d : Int × Int} (hd : KG5 d) : (fmO [] [d]).2.length ≤ 1 := Qhv (JLs.2 hd)
theorem XnA {d : Int × Int} (hd : KG5 d) (e : Int × Int) : inC (fmO [] [d]).1 (fmO [] [d]).2 e ↔ e = d := by
 rw [JRq (JLs.2 hd)]
 unfold inC
 rw [List.mem_singleton]
 constructor
 ·rintro ⟨h1, h2 | h2⟩
  ·rw [J4U [] _ (.inr (by have := h1.1; simp; omega))] at h2
   have := h1.2.2.1
   omega
  ·exact h2
 ·rintro rfl
  exact ⟨hd, .inr rfl⟩
theorem QLS {v : List Int} {ds : Dots} (a : NF v ds) {d : Int × Int} (hd : KG5 d) : zbr v (fmO [] [d]).1 ds (fmO [] [d]).2 = mkO v ds d := by
 have := (QaH a (Z8o hd)).ext (zC5 a hd) fun e => by
  rw [QoG a (Z8o hd), qD9 a hd, XnA hd]
 exact this
theorem Z8n (a b : Int) (i : Dg) : (AV.i .i64 a :: AV.i .i64 b :: idR.f i) = qjO.f ((a, b), i) := (YA0 ((a, b), i)).symm
noncomputable def qha : List AV → List AB → Option (AV × List AB)
 | [.ag [l, s, t], .ag [.i .i64 a, .i .i64 b], y], h => (getS qjO h l).bind fun hs => (getS intR h s).bind fun v => (getS dotR h t).bind fun ds => (getI y).bind fun i =>
   if hs.length ≤ 100000 ∧ l.capOk = true then
    if addE hs v ds (a, b) ≠ 0 then some (.tu [.ag [.ns, .ns, .ns], .i .i64 (addE hs v ds (a, b))], h)
    else some (.tu [.ag (rsl qjO h.length (layG KBL hs ((a, b), i)) :: rCl (h.length + 1) (h.length + 2) v (fmO [] [(a, b)]).1 ds (fmO [] [(a, b)]).2), .i .i64 0], h ++ (resB qjO true (layG KBL hs ((a, b), i)) :: rClB v (fmO [] [(a, b)]).1 ds (fmO [] [(a, b)]).2))
   else none
 | _, _ => none
theorem J2e {h : List AB} (hz : h.map AB.freeze = h) {l s t : AV} {a b : Int} {i : Dg} {hs : List Hd} {xs : List Int} {ds : Dots} (hl : Rd qjO h l hs) (hv : Rd intR h s xs) (hd : Rd dotR h t ds) (hL : hs.length ≤ 100000) (hc : l.capOk = true) (v : AV) (h' : List AB) (e : qha [.ag [l, s, t], .ag [.i .i64 a, .i .i64 b], .ag (idR.f i)] h = some (v, h')) :
  FnAt Tryz.prog 25 [.ag [l, s, t], .ag [.i .i64 a, .i .i64 b], .ag (idR.f i)] h v h' := by
 simp only [qha, hl.get, hv.get, hd.get, ZK2, Option.bind_some] at e
 rw [if_pos ⟨hL, hc⟩] at e
 refine FnAt.run (by kernel_rfl) (T := ⟨[⟨32, Q1I, fun _ => []⟩, ⟨74, Yci, fun _ => []⟩, ⟨63, zEW, fun _ => []⟩, ⟨75, KfK, fun _ => []⟩, ⟨76, YKJ, fun _ => []⟩], []⟩) ⟨⟨JxU, q8x, QKM, Xqv, qZC, trivial⟩, trivial⟩ Tryz.func25 sw25 fun ho hh => ?_
 simp only [qMC, JAX, Bool.and_eq_true] at ho
 have f1 := hl.fx ho.1.1 (sz := 34) rfl
 have f2 := hv.fx ho.1.2.1 (sz := 1) rfl
 have f3 := hd.fx ho.1.2.2.1 (sz := 2) rfl
 have rd : ∀ (L : List AB) (k : Nat) (kk : Option Nat), ownC L k = some [.i .i64 a, .i .i64 b] → getS dotR (h ++ L) (.sl (h.length + k) 0 1 1 kk) = some [(a, b)] := fun L k kk hL =>
  (Xc0 (r := dotR) (h := h) (L := L) (k := k) (c := 1) (kk := kk) (l := [(a, b)]) (by rw [hL]; rfl) (by unfold maxLen; simp)).get
 unfold w25
 by_cases c0 : Kq6 hs xs ds = 0
 case neg =>
  have g := eq_false c0
  have we : addE hs xs ds (a, b) = Kq6 hs xs ds := by unfold addE; rw [if_pos c0]
  rw [if_pos (show addE hs xs ds (a, b) ≠ 0 from by rw [we]; exact c0), we] at e
  cases e
  simp only [XH8, QN9, X1r, X5W, zVq, simprocAttr, CO.tmps, Opd.tmps, optT, Nat.reducePow, Nat.reduceDiv, Nat.reduceMod, f1, f2, f3, Ydx, XwU, Kb6, Ke3, Q1I, Yci, zEW, KfK, YKJ, QNE hh, QFK hz, K9V hz, Ksi hz, ne_eq, not_false_eq_true, not_true_eq_false, decide_true, decide_false, g]
  exact Bt.drop _ hh rfl (by simp only [ZVg, qMC, YI0, JAX, Yiy, ok_i, Bool.and_true])
 have k0 := (zvk c0).1
 have ra := zFp.1 c0
 by_cases c1 : KG5 (a, b)
 case neg =>
  have g := eq_false (mt JLs.1 c1)
  have c3 : ¬ YlY xs ds (a, b) := fun q => c1 ((QbQ ra.nf.rg _).1 q).1
  have we : addE hs xs ds (a, b) = 3 := by unfold addE; rw [if_neg (not_not_intro c0), if_neg c3, if_pos c1]
  rw [if_pos (show addE hs xs ds (a, b) ≠ 0 from by rw [we]; decide), we] at e
  cases e
  simp only [XH8, QN9, X1r, X5W, zVq, simprocAttr, CO.tmps, Opd.tmps, optT, Nat.reducePow, Nat.reduceDiv, Nat.reduceMod, f1, f2, f3, Ydx, XwU, Kb6, Ke3, Q1I, Yci, zEW, KfK, YKJ, QNE hh, QFK hz, K9V hz, Ksi hz, ne_eq, not_false_eq_true, not_true_eq_false, decide_true, decide_false, c0, rd, zlS, List.length_cons, List.length_nil, g]
  exact Bt.drop _ hh rfl (by simp only [ZVg, qMC, YI0, JAX, Yiy, ok_i, Bool.and_true])
 have g1 := eq_true (JLs.2 c1)
 have l1 := qGy c1
 have g2 : ((fmO [] [(a, b)]).2.length ≤ 4096) = True := eq_true (by omega)
 have n1 := Z8o c1
 have k1 := n1.check (by omega)
 have oj := QLS ra.nf c1
 have km := Zdb ra.nf.rg n1.rg
 have e1 := fun (L : List AB) (k : Nat) (hL : ownC L k = some (intR.cells (fmR [] (layR [(a, b)])).1)) => KDG (h := h) (JLs.2 c1) L k hL
 have e2 : (fmR [] (layR [(a, b)])).2 = (fmO [] [(a, b)]).2 := rfl
 have e3 : fmO (XF1 xs (fmO [] [(a, b)]).1 16) (ds ++ (fmO [] [(a, b)]).2) = mkO xs ds (a, b) := oj
 by_cases c3 : YlY xs ds (a, b)
 case pos =>
  have g := eq_true c3
  have we : addE hs xs ds (a, b) = 19 := by unfold addE; rw [if_neg (not_not_intro c0), if_pos c3]
  rw [if_pos (show addE hs xs ds (a, b) ≠ 0 from by rw [we]; decide), we] at e
  cases e
  simp only [XH8, QN9, X1r, X5W, zVq, simprocAttr, CO.tmps, Opd.tmps, optT, Nat.reducePow, Nat.reduceDiv, Nat.reduceMod, f1, f2, f3, Ydx, XwU, Kb6, Ke3, Q1I, Yci, zEW, KfK, YKJ, QNE hh, QFK hz, K9V hz, Ksi hz, ne_eq, not_false_eq_true, not_true_eq_false, decide_true, decide_false, c0, rd, zlS, List.length_cons, List.length_nil, g1, g2, k0, true_and, and_self, g]
  exact Bt.drop _ hh rfl (by simp only [ZVg, qMC, YI0, JAX, Yiy, ok_i, Bool.and_true])
 have g3 := eq_false c3
 have m1 : ((fmO [] [(a, b)]).2.length ≤ 1000000) = True := eq_true (by omega)
 by_cases c6 : (mkO xs ds (a, b)).2.length ≤ 4096
 case neg =>
  have g := eq_false c6
  have we : addE hs xs ds (a, b) = 10 := by unfold addE; rw [if_neg (not_not_intro c0), if_neg c3, if_neg (not_not_intro c1), if_pos c6]
  rw [if_pos (show addE hs xs ds (a, b) ≠ 0 from by rw [we]; decide), we] at e
  cases e
  simp only [XH8, QN9, X1r, X5W, zVq, simprocAttr, CO.tmps, Opd.tmps, optT, Nat.reducePow, Nat.reduceDiv, Nat.reduceMod, f1, f2, f3, Ydx, XwU, Kb6, Ke3, Q1I, Yci, zEW, KfK, YKJ, QNE hh, QFK hz, K9V hz, Ksi hz, ne_eq, not_false_eq_true, not_true_eq_false, decide_true, decide_false, c0, rd, zlS, List.length_cons, List.length_nil, g1, g2, k0, k1, e1, e2, e3, YaF, qPj, m1, true_and, and_false, g3, g]
  exact Bt.drop _ hh rfl (by simp only [ZVg, qMC, YI0, JAX, Yiy, ok_i, Bool.and_true])
 have g := eq_true c6
 have we : addE hs xs ds (a, b) = 0 := by unfold addE; rw [if_neg (not_not_intro c0), if_neg c3, if_neg (not_not_intro c1), if_neg (not_not_intro c6)]
 rw [if_neg (not_not_intro we)] at e
 cases e
 have l3 := eq_true hL
 have l4 : (∀ z ∈ hs, z.1 ≠ (a, b)) = True := eq_true fun z hz' q => c3 ((QbQ ra.nf.rg _).2 (q ▸ ra.sn z hz'))
 simp only [rCl, rClB]
 simp only [XH8, QN9, X1r, X5W, zVq, simprocAttr, CO.tmps, Opd.tmps, optT, Nat.reducePow, Nat.reduceDiv, Nat.reduceMod, f1, f2, f3, Ydx, XwU, Kb6, Zph, Ke3, Q1I, Yci, zEW, KfK, YKJ, KDg, Z8n, KJo, zp7, XEe, QNE hh, QFK hz, K9V hz, Ksi hz, ne_eq, not_false_eq_true, not_true_eq_false, decide_true, decide_false, c0, rd, zlS, List.length_cons, List.length_nil, g1, g2, k0, k1, e1, e2, e3, YaF, qPj, true_and, and_false, and_self, hc, l3, l4, m1, g3, g]
 exact Bt.sel [11, 8, 9] hh (by decide) (by simp only [q9C, FrSel, BlkSel, AV.ren, renL, AV.ok, okL, Option.some.injEq, exists_eq_left', List.length_cons, List.length_nil, Nat.reduceAdd, Nat.reduceLT, reduceCtorEq, implies_true, exists_eq']) (by simp only [q9C, FrSel, BlkSel, AV.ren, renL, AV.ok, okL, Option.some.injEq, exists_eq_left', List.length_cons, List.length_nil, Nat.reduceAdd, Nat.reduceLT, reduceCtorEq, implies_true, exists_eq'])
theorem JKc : Spec Tryz.prog 25 qha := by
 intro args h v h' e
 unfold qha at e
 split at e
 ·rename_i l s t a b y
  obtain ⟨hs, hl, e⟩ := YI8 e
  obtain ⟨xs, hv, e⟩ := YI8 e
  obtain ⟨ds, hd, e⟩ := YI8 e
  obtain ⟨i, hi, e2⟩ := Kky e
  clear e
  subst hi
  split at e2
  ·rename_i hL
   split at e2
   ·rename_i c
    cases e2
    refine FnAt.c (FnAt.frz0 fun hz => J2e hz hl.frz hv.frz hd.frz hL.1 hL.2 _ _ ?_)
    simp only [qha, hl.frz.get, hv.frz.get, hd.frz.get, ZK2, Option.bind_some]
    rw [if_pos hL, if_pos c]
   ·rename_i c
    cases e2
    refine FnAt.c (FnAt.frz fun hz => J2e hz hl.frz hv.frz hd.frz hL.1 hL.2 _ _ ?_)
    simp only [qha, hl.frz.get, hv.frz.get, hd.frz.get, ZK2, Option.bind_some, List.length_map]
    rw [if_pos hL, if_neg c]
  ·cases e2
 ·cases e
end Go.Proofs.YtfaccliekejngaaGreat
end
section
namespace Go.Proofs.YtfaccliekejngaaGreat
set_option maxRecDepth 100000
set_option maxHeartbeats 16000000
theorem KRG {α : Type} {r : Row α} {h L : List AB} {l : List α} {k : Nat} (hk : ownM r l L k) (hl : l.length ≤ 1000000) : XeO r [rsl r (h.length + k) l] (h ++ L) = some (.tu [], h ++ Ycl L k) := by
 have h1 : (h ++ L)[h.length + k]? = some (resB r true l) := by rw [Yn6]; exact ZLZ l L k hk
 have := qte (r := r) (h := h ++ L) h1 hl []
 rw [List.append_nil, List.append_nil, zpT, ← ZII] at this
 exact this
theorem ZEh {h : List AB} (hz : h.map AB.freeze = h) {l1 s1 t1 : AV} {la : List Hd} {va : List Int} {da : Dots} (hl1 : Rd qjO h l1 la) (hs1 : Rd intR h s1 va) (ht1 : Rd dotR h t1 da) (hc : l1.capOk = true) (x y : Int) (i : Dg) :
  FnAt Tryz.prog 4 [.ag [l1, s1, t1], .ag [.i .i64 x, .i .i64 y], .ag (idR.f i)] h (.b true) h := by
 refine FnAt.run (by kernel_rfl) (T := ⟨[⟨12, X2U, fun _ => []⟩, ⟨10, zan, fun _ => []⟩, ⟨13, Klb, fun _ => []⟩, ⟨24, JrT, fun _ => []⟩, ⟨25, qha, fun _ => []⟩, ⟨26, qBn, fun _ => []⟩, ⟨27, qBn, fun _ => []⟩, ⟨28, QrX, fun _ => []⟩, ⟨30, QrX, fun _ => []⟩, ⟨19, Kdw, fun _ => []⟩, ⟨29, JuR, fun _ => []⟩, ⟨31, X7Q, fun _ => []⟩, ⟨32, Q1I, fun _ => []⟩, ⟨33, zSr, fun _ => []⟩, ⟨34, zRe, fun _ => []⟩, ⟨21, Yph, fun _ => []⟩, ⟨35, XeO idR, fun _ => []⟩], []⟩) ⟨⟨X6o, X7R, Jeb, QaM, JKc, JOs, Qim, qVO, qSV, QeN, Q5j, zRg, JxU, J2q, Z5r, Xrt, QQQ, trivial⟩, trivial⟩ Tryz.func4 sw4 fun ho hh => ?_
 simp only [qMC, JAX, Bool.and_eq_true] at ho
 have f1 := hl1.fx ho.1.1 (sz := 34) rfl
 have f2 := hs1.fx ho.1.2.1 (sz := 1) rfl
 have f3 := ht1.fx ho.1.2.2.1 (sz := 2) rfl
 have q1 := fun (L : List AB) (k : Nat) (hL : ownC L k = some (qjO.cells la)) => (Xc0 (h := h) (r := qjO) (c := la.length) (kk := kz qjO la) hL hl1.2).get
 have q2 := fun (L : List AB) (k : Nat) (hL : ownC L k = some (dotR.cells da)) => (Xc0 (h := h) (r := dotR) (c := da.length) (kk := kz dotR da) hL ht1.2).get
 have kH := fun (id n c : Nat) => eq_true (qsW (r := qjO) (by decide) la id n c)
 have kD := fun (id n c : Nat) => eq_true (qsW (r := dotR) (by decide) da id n c)
 unfold w4
 by_cases La : 20 < la.length ∨ 20 < va.length ∨ 30 < da.length
 ·have g := eq_true La
  simp (maxSteps := 4000000) only [XH8, QN9, X1r, X5W, zVq, simprocAttr, CO.tmps, Opd.tmps, optT, Nat.reducePow, Nat.reduceDiv, Nat.reduceMod, f1, f2, f3, q1, q2, kH, kD, zan, X2U, Klb, JrT, qha, rCl, rClB, qBn, QrX, Kdw, JuR, X7Q, Q1I, zSr, zRe, JMY, ZCZ, ZGB, KRG, ZK2, Ydx, XwU, Kb6, Zph, Ke3, QNE hh, QFK hz, K9V hz, Ksi hz, ne_eq, not_false_eq_true, not_true_eq_false, decide_true, decide_false, KGT, beq_self_eq_true, and_self, eq_self, zlS, g]
  exact Bt.dropB _ hh rfl
 have ga := eq_false La
 have m1 : (la.length ≤ 1000000) = True := eq_true (by omega)
 have m2 : (va.length ≤ 1000000) = True := eq_true (by omega)
 have m3 : (da.length ≤ 1000000) = True := eq_true (by omega)
 have m4 : (la.length ≤ 100000) = True := eq_true (by omega)
 by_cases ca : Kq6 la va da = 0
 case neg =>
  have g := eq_false ca
  have hE : addE la va da (x, y) = Kq6 la va da := by unfold addE; rw [if_pos ca]
  simp (maxSteps := 4000000) only [XH8, QN9, X1r, X5W, zVq, simprocAttr, CO.tmps, Opd.tmps, optT, Nat.reducePow, Nat.reduceDiv, Nat.reduceMod, f1, f2, f3, q1, q2, kH, kD, zan, X2U, Klb, JrT, qha, rCl, rClB, qBn, QrX, Kdw, JuR, X7Q, Q1I, zSr, zRe, JMY, ZCZ, ZGB, KRG, ZK2, Ydx, XwU, Kb6, Zph, Ke3, QNE hh, QFK hz, K9V hz, Ksi hz, ne_eq, not_false_eq_true, not_true_eq_false, decide_true, decide_false, KGT, beq_self_eq_true, and_self, eq_self, zlS, hc, ga, m1, m2, m3, m4, qPj, hE, g, false_and]
  exact Bt.dropB _ hh rfl
 have ra := zFp.1 ca
 have m7 : ((dgsL la).length ≤ 1000000) = True := eq_true (by have := qPx la; omega)
 have m8 : ((delL i la).length ≤ 1000000) = True := eq_true (by have := Yfa i la; omega)
 by_cases hp : ∃ z ∈ la, z.2 = i
 case pos =>
  have p := eq_true hp
  by_cases wE : addE la va da (x, y) = 0
  case neg =>
   have g := eq_false wE
   simp (maxSteps := 4000000) only [XH8, QN9, X1r, X5W, zVq, simprocAttr, CO.tmps, Opd.tmps, optT, Nat.reducePow, Nat.reduceDiv, Nat.reduceMod, f1, f2, f3, q1, q2, kH, kD, zan, X2U, Klb, JrT, qha, rCl, rClB, qBn, QrX, Kdw, JuR, X7Q, Q1I, zSr, zRe, JMY, ZCZ, ZGB, KRG, ZK2, Ydx, XwU, Kb6, Zph, Ke3, QNE hh, QFK hz, K9V hz, Ksi hz, ne_eq, not_false_eq_true, not_true_eq_false, decide_true, decide_false, KGT, beq_self_eq_true, and_self, eq_self, zlS, hc, ga, m1, m2, m3, m4, qPj, ca, m7, m8, p, g, true_and, and_false]
   exact Bt.dropB _ hh rfl
  have hd := (zHz wE).2.2.1
  have n1 := Z8o hd
  have km := Zdb ra.nf.rg n1.rg
  have e3 : fmO (XF1 va (fmO [] [(x, y)]).1 16) (da ++ (fmO [] [(x, y)]).2) = mkO va da (x, y) := QLS ra.nf hd
  have e2 : (fmR (XF1 va (fmO [] [(x, y)]).1 16) (layR (da ++ (fmO [] [(x, y)]).2))).2 = (mkO va da (x, y)).2 := by have q := congrArg Prod.snd e3; exact q
  have e1 := fun (L : List AB) (k : Nat) (hL : ownC L k = some (intR.cells (fmR (XF1 va (fmO [] [(x, y)]).1 16) (layR (da ++ (fmO [] [(x, y)]).2))).1)) => KDG (h := h) km L k hL
  rw [e3] at e1
  have n5 := Qmz ra.nf hd
  have n6 := (zC5 ra.nf hd).rg.1
  have o5 : ((mkO va da (x, y)).1.length ≤ 1000000) = True := eq_true (by omega)
  have o6 : ((mkO va da (x, y)).2.length ≤ 1000000) = True := eq_true (by omega)
  have o7 : ((layG KBL la ((x, y), i)).length ≤ 1000000) = True := eq_true (by rw [qso]; omega)
  simp (maxSteps := 4000000) only [XH8, QN9, X1r, X5W, zVq, simprocAttr, CO.tmps, Opd.tmps, optT, Nat.reducePow, Nat.reduceDiv, Nat.reduceMod, f1, f2, f3, q1, q2, kH, kD, zan, X2U, Klb, JrT, qha, rCl, rClB, qBn, QrX, Kdw, JuR, X7Q, Q1I, zSr, zRe, JMY, ZCZ, ZGB, KRG, ZK2, Ydx, XwU, Kb6, Zph, Ke3, QNE hh, QFK hz, K9V hz, Ksi hz, ne_eq, not_false_eq_true, not_true_eq_false, decide_true, decide_false, KGT, beq_self_eq_true, and_self, eq_self, zlS, hc, ga, m1, m2, m3, m4, qPj, ca, m7, m8, p, wE, e1, e2, e3, o5, o6, o7, true_and, and_false]
  exact Bt.dropB _ hh rfl
 case neg =>
  have p := eq_false hp
  by_cases wE : addE la va da (x, y) = 0
  case neg =>
   have g := eq_false wE
   simp (maxSteps := 4000000) only [XH8, QN9, X1r, X5W, zVq, simprocAttr, CO.tmps, Opd.tmps, optT, Nat.reducePow, Nat.reduceDiv, Nat.reduceMod, f1, f2, f3, q1, q2, kH, kD, zan, X2U, Klb, JrT, qha, rCl, rClB, qBn, QrX, Kdw, JuR, X7Q, Q1I, zSr, zRe, JMY, ZCZ, ZGB, KRG, ZK2, Ydx, XwU, Kb6, Zph, Ke3, QNE hh, QFK hz, K9V hz, Ksi hz, ne_eq, not_false_eq_true, not_true_eq_false, decide_true, decide_false, KGT, beq_self_eq_true, and_self, eq_self, zlS, hc, ga, m1, m2, m3, m4, qPj, ca, m7, m8, p, g, true_and, and_false]
   exact Bt.dropB _ hh rfl
  have hd := (zHz wE).2.2.1
  have n1 := Z8o hd
  have km := Zdb ra.nf.rg n1.rg
  have e3 : fmO (XF1 va (fmO [] [(x, y)]).1 16) (da ++ (fmO [] [(x, y)]).2) = mkO va da (x, y) := QLS ra.nf hd
  have e2 : (fmR (XF1 va (fmO [] [(x, y)]).1 16) (layR (da ++ (fmO [] [(x, y)]).2))).2 = (mkO va da (x, y)).2 := by have q := congrArg Prod.snd e3; exact q
  have e1 := fun (L : List AB) (k : Nat) (hL : ownC L k = some (intR.cells (fmR (XF1 va (fmO [] [(x, y)]).1 16) (layR (da ++ (fmO [] [(x, y)]).2))).1)) => KDG (h := h) km L k hL
  rw [e3] at e1
  have n5 := Qmz ra.nf hd
  have n6 := (zC5 ra.nf hd).rg.1
  have o5 : ((mkO va da (x, y)).1.length ≤ 1000000) = True := eq_true (by omega)
  have o6 : ((mkO va da (x, y)).2.length ≤ 1000000) = True := eq_true (by omega)
  have o7 : ((layG KBL la ((x, y), i)).length ≤ 1000000) = True := eq_true (by rw [qso]; omega)
  simp (maxSteps := 4000000) only [XH8, QN9, X1r, X5W, zVq, simprocAttr, CO.tmps, Opd.tmps, optT, Nat.reducePow, Nat.reduceDiv, Nat.reduceMod, f1, f2, f3, q1, q2, kH, kD, zan, X2U, Klb, JrT, qha, rCl, rClB, qBn, QrX, Kdw, JuR, X7Q, Q1I, zSr, zRe, JMY, ZCZ, ZGB, KRG, ZK2, Ydx, XwU, Kb6, Zph, Ke3, QNE hh, QFK hz, K9V hz, Ksi hz, ne_eq, not_false_eq_true, not_true_eq_false, decide_true, decide_false, KGT, beq_self_eq_true, and_self, eq_self, zlS, hc, ga, m1, m2, m3, m4, qPj, ca, m7, m8, p, wE, e1, e2, e3, o5, o6, o7, true_and, and_false]
  exact Bt.dropB _ hh rfl
end Go.Proofs.YtfaccliekejngaaGreat
end
