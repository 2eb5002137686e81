/- Part 20 of what the laws' proofs rest on. No condition. -/
import Derived.Test.YtcncpbcbedfakaaGreatRp19
set_option linter.all false
section
namespace Go.Proofs.YtcncpbcbedfakaaGreat
set_option maxRecDepth 100000
set_option maxHeartbeats 4000000
noncomputable def zad : List AV → List AB → Option (AV × List AB)
 | [a, b], h => (getS Qv2 h a).bind fun xs => (getS Qv2 h b).bind fun ys => some (.b (decide (xs = ys)), h)
 | _, _ => none
theorem z9A : Spec Tryz.prog 42 zad := by
 intro args h v h' e
 unfold zad at e
 split at e
 ·rename_i a b
  obtain ⟨xs, ha, e⟩ := Ksw e
  obtain ⟨ys, hb, e⟩ := Ksw e
  cases e
  refine FnAt.c (FnAt.frz0 fun hz => ?_)
  replace ha := ha.frz
  replace hb := hb.frz
  generalize h.map AB.freeze = h at *
  refine FnAt.run (by kernel_rfl) (T := ⟨[], []⟩) ⟨trivial, trivial⟩ Tryz.func42 sw42 fun ho hh => ?_
  simp only [Xto, Bool.and_eq_true] at ho
  have fa := ha.fx ho.1 (sz := 34) rfl
  have fb := hb.fx ho.2.1 (sz := 34) rfl
  unfold w42
  simp only [X7f, KtR, YUa, XuN, simprocAttr, fa, fb]
  refine KUy (S := Nat) (fun i => xs.length - i) (fun i => [a, b] ++ tp 3 ++ [.b (decide (xs.length = ys.length ∧ xs.take i = ys.take i)), .i .i64 i] ++ tp 24) (fun i => xs.length = ys.length → i ≤ xs.length) 0 (fun _ => Nat.zero_le _) (by simp only [YUa, XuN, simprocAttr, List.take_zero]) fun i hi => ?_
  simp only [YUa, XuN, simprocAttr, fa, fb]
  refine ⟨fun h1 => ⟨fun h2 => ?_, fun h2 => ?_⟩, fun h1 => ?_⟩
  ·have h3 : i < ys.length := by omega
   have e1 : IntKind.i64.wrap ((i : Int) + 1) = ((i + 1 : Nat) : Int) := ZPn (by have := ha.2; unfold maxLen at this; unfold In64; omega)
   simp only [YUa, YOR, XuN, simprocAttr, CO.tmps, Opd.tmps, optT, Nat.reducePow, Nat.reduceDiv, Nat.reduceMod, fa, fb, h2, h3, Xjy, YiS, Nat.zero_lt_one, e1]
   refine ⟨i + 1, fun _ => h2, by omega, ?_, Wk.refl _⟩
   have e2 : (xs.length = ys.length ∧ xs.take (i + 1) = ys.take (i + 1)) = (xs.getD i Qv2.d = ys.getD i Qv2.d) := propext (by rw [and_iff_right h1.1]; exact KPN _ h2 h3 h1.2)
   simp only [e2, Khc]
  ·exact Bt.eq (by simp only [AV.b.injEq, decide_eq_decide]; exact q1W (by omega)) (List.append_nil h)
  ·exact Bt.eq (by simp only [AV.b.injEq, decide_eq_decide]; exact iff_of_false h1 (Qn5 h1)) (List.append_nil h)
 ·cases e
noncomputable def XSX : List AV → List AB → Option (AV × List AB)
 | [a, b], h => (getS idR h a).bind fun xs => (getS idR h b).bind fun ys => some (.b (decide (xs = ys)), h)
 | _, _ => none
theorem qb5 : Spec Tryz.prog 23 XSX := by
 intro args h v h' e
 unfold XSX at e
 split at e
 ·rename_i a b
  obtain ⟨xs, ha, e⟩ := Ksw e
  obtain ⟨ys, hb, e⟩ := Ksw e
  cases e
  refine FnAt.c (FnAt.frz0 fun hz => ?_)
  replace ha := ha.frz
  replace hb := hb.frz
  generalize h.map AB.freeze = h at *
  refine FnAt.run (by kernel_rfl) (T := ⟨[], []⟩) ⟨trivial, trivial⟩ Tryz.func23 sw23 fun ho hh => ?_
  simp only [Xto, Bool.and_eq_true] at ho
  have fa := ha.fx ho.1 (sz := 32) rfl
  have fb := hb.fx ho.2.1 (sz := 32) rfl
  unfold w23
  simp only [X7f, KtR, YUa, XuN, simprocAttr, fa, fb]
  refine KUy (S := Nat) (fun i => xs.length - i) (fun i => [a, b] ++ tp 3 ++ [.b (decide (xs.length = ys.length ∧ xs.take i = ys.take i)), .i .i64 i] ++ tp 24) (fun i => xs.length = ys.length → i ≤ xs.length) 0 (fun _ => Nat.zero_le _) (by simp only [YUa, XuN, simprocAttr, List.take_zero]) fun i hi => ?_
  simp only [YUa, XuN, simprocAttr, fa, fb]
  refine ⟨fun h1 => ⟨fun h2 => ?_, fun h2 => ?_⟩, fun h1 => ?_⟩
  ·have h3 : i < ys.length := by omega
   have e1 : IntKind.i64.wrap ((i : Int) + 1) = ((i + 1 : Nat) : Int) := ZPn (by have := ha.2; unfold maxLen at this; unfold In64; omega)
   simp only [YUa, YOR, XuN, simprocAttr, CO.tmps, Opd.tmps, optT, Nat.reducePow, Nat.reduceDiv, Nat.reduceMod, fa, fb, h2, h3, Y6p, Jmb, Nat.zero_lt_one, e1]
   refine ⟨i + 1, fun _ => h2, by omega, ?_, Wk.refl _⟩
   have e2 : (xs.length = ys.length ∧ xs.take (i + 1) = ys.take (i + 1)) = (xs.getD i idR.d = ys.getD i idR.d) := propext (by rw [and_iff_right h1.1]; exact KPN _ h2 h3 h1.2)
   simp only [e2, Khc]
  ·exact Bt.eq (by simp only [AV.b.injEq, decide_eq_decide]; exact q1W (by omega)) (List.append_nil h)
  ·exact Bt.eq (by simp only [AV.b.injEq, decide_eq_decide]; exact iff_of_false h1 (Qn5 h1)) (List.append_nil h)
 ·cases e
noncomputable def QWB : List AV → List AB → Option (AV × List AB)
 | [.ag [l, v, d], .ag [l', v', d']], h => (getS Qv2 h l).bind fun hs => (getS intR h v).bind fun xs => (getS dotR h d).bind fun ds => (getS Qv2 h l').bind fun hs' => (getS intR h v').bind fun xs' => (getS dotR h d').bind fun ds' =>
   some (.b (decide (hs = hs' ∧ xs = xs' ∧ ds = ds')), h)
 | _, _ => none
noncomputable def YkC : List AV → List AB → Option (AV × List AB)
 | [.ag [l, v, d]], h => (getS Qv2 h l).bind fun hs => (getS intR h v).bind fun xs => (getS dotR h d).bind fun ds => if hs.length ≤ 1000000 ∧ xs.length ≤ 1000000 ∧ ds.length ≤ 1000000 then
   some (.ag [rsl Qv2 h.length hs, rsl intR (h.length + 1) xs, rsl dotR (h.length + 2) ds], h ++ [resB Qv2 true hs, resB intR true xs, resB dotR true ds]) else none
 | _, _ => none
noncomputable def Zjc : List AV → List AB → Option (AV × List AB)
 | [.ag [l, s, t]], h => (getS Qv2 h l).bind fun hs => (getS intR h s).bind fun v => (getS dotR h t).bind fun ds => some (.b (decide (20 < hs.length ∨ 20 < v.length ∨ 30 < ds.length)), h)
 | _, _ => none
end Go.Proofs.YtcncpbcbedfakaaGreat
end
section
namespace Go.Proofs.YtcncpbcbedfakaaGreat
set_option maxRecDepth 100000
set_option maxHeartbeats 4000000
theorem Yf9 {α : Type} (r : Row α) (m : Bool) : resB r m [] = .dead := _root_.id rfl
theorem qna {α : Type} (r : Row α) (id : Nat) : rsl r id [] = .sl id 0 0 0 (some 0) := _root_.id rfl
theorem Jmh : Spec Tryz.prog 14 QWB := by
 intro args h v h' e
 unfold QWB at e
 split at e
 ·rename_i l s t l' s' t'
  obtain ⟨hs, hl, e⟩ := Ksw e
  obtain ⟨xs, hv, e⟩ := Ksw e
  obtain ⟨ds, hd, e⟩ := Ksw e
  obtain ⟨hs', hl', e⟩ := Ksw e
  obtain ⟨xs', hv', e⟩ := Ksw e
  obtain ⟨ds', hd', e⟩ := Ksw e
  cases e
  refine FnAt.c (FnAt.run (by kernel_rfl) (T := ⟨[⟨42, zad, fun _ => []⟩, ⟨30, Qd2, fun _ => []⟩], []⟩) ⟨⟨z9A, qVt, trivial⟩, trivial⟩ Tryz.func14 sw14 fun ho hh => ?_)
  simp only [Xto, J9P, Bool.and_eq_true] at ho
  have f1 := hl.fx ho.1.1 (sz := 34) rfl
  have f2 := hv.fx ho.1.2.1 (sz := 1) rfl
  have f3 := hd.fx ho.1.2.2.1 (sz := 2) rfl
  have f4 := hl'.fx ho.2.1.1 (sz := 34) rfl
  have f5 := hv'.fx ho.2.1.2.1 (sz := 1) rfl
  have f6 := hd'.fx ho.2.1.2.2.1 (sz := 2) rfl
  unfold w14
  simp only [X7f, KtR, YUa, YOR, XuN, simprocAttr, CO.tmps, Opd.tmps, optT, Nat.reducePow, Nat.reduceDiv, Nat.reduceMod, f1, f2, f3, f4, f5, f6, zad, Qd2]
  refine ⟨fun h1 => Bt.dropB _ hh (by simp [h1]), fun h1 => Bt.dropB _ hh (by simp [h1])⟩
 ·cases e
theorem JJC : Spec Tryz.prog 9 Zjc := by
 intro args h v h' e
 unfold Zjc at e
 split at e
 ·rename_i l s t
  obtain ⟨hs, hl, e⟩ := Ksw e
  obtain ⟨xs, hv, e⟩ := Ksw e
  obtain ⟨ds, hd, e⟩ := Ksw e
  cases e
  refine FnAt.c (FnAt.run (by kernel_rfl) (T := ⟨[⟨16, qBl, fun _ => []⟩], []⟩) ⟨⟨zma, trivial⟩, trivial⟩ Tryz.func9 sw9 fun ho hh => ?_)
  simp only [Xto, J9P, Bool.and_eq_true] at ho
  have f1 := hl.fx ho.1.1 (sz := 34) rfl
  have f2 := hv.fx ho.1.2.1 (sz := 1) rfl
  have f3 := hd.fx ho.1.2.2.1 (sz := 2) rfl
  unfold w9
  simp only [X7f, KtR, YUa, YOR, XuN, simprocAttr, CO.tmps, Opd.tmps, optT, Nat.reducePow, Nat.reduceDiv, Nat.reduceMod, f1, f2, f3, qBl]
  refine ⟨fun q => Bt.dropB _ hh (decide_eq_true (.inl (by omega))).symm, fun q => Bt.dropB _ hh (decide_eq_decide.2 ?_)⟩
  omega
 ·cases e
theorem QT6 : Spec Tryz.prog 11 YkC := by
 intro args h v h' e
 unfold YkC at e
 split at e
 ·rename_i l s t
  obtain ⟨hs, hl, e⟩ := Ksw e
  obtain ⟨xs, hv, e⟩ := Ksw e
  obtain ⟨ds, hd, e⟩ := Ksw e
  split at e
  ·rename_i hL
   cases e
   refine FnAt.c (FnAt.frz fun hz => ?_)
   rw [show h.length = (h.map AB.freeze).length from (List.length_map _).symm]
   replace hl := hl.frz
   replace hv := hv.frz
   replace hd := hd.frz
   generalize h.map AB.freeze = h at *
   refine FnAt.run (by kernel_rfl) (T := ⟨[⟨17, KAb, fun _ => []⟩], []⟩) ⟨⟨KGT, trivial⟩, trivial⟩ Tryz.func11 sw11 fun ho hh => ?_
   simp only [Xto, J9P, Bool.and_eq_true] at ho
   have f1 := hl.fx ho.1.1 (sz := 34) rfl
   have f2 := hv.fx ho.1.2.1 (sz := 1) rfl
   have f3 := hd.fx ho.1.2.2.1 (sz := 2) rfl
   have u1 := hl.src (sz := 34) rfl
   obtain ⟨g1, g2, g3⟩ := hL
   have z1 : (hs.length * 48 ≤ 140737488355328 ∧ hs.length ≤ maxLen) = True := eq_true ⟨by omega, by unfold maxLen; omega⟩
   unfold w11
   by_cases h0 : hs.length = 0
   ·have hx : hs = [] := List.eq_nil_of_length_eq_zero h0
    subst hx
    simp only [X7f, KtR, YUa, YOR, XuN, simprocAttr, CO.tmps, Opd.tmps, optT, Nat.reducePow, Nat.reduceDiv, Nat.reduceMod, f1, f2, f3, u1, KAb, g2, g3, List.length_nil, z0C, zN5 hh, X9l hz, Zf1 hz, QwP hz]
    refine Bt.trans (Bt.wk1 (zBJ (l' := [.sl (h.length + 2) 0 0 0 (some 0), rsl intR (h.length + 3) xs, rsl dotR (h.length + 4) ds]) ⟨Wk.empty (h.length + 2) 0 _ _ _ _, Wk.refl _, Wk.refl _, trivial⟩)) ?_
    exact Bt.sel [2, 3, 4] hh (by decide) (by simp only [qpr, FrSel, BlkSel, AV.ren, renL, AV.ok, okL, Option.some.injEq, exists_eq_left', List.length_cons, List.length_nil, Nat.reduceAdd, Nat.reduceLT, reduceCtorEq, implies_true, exists_eq', Yf9]) (by simp only [qpr, FrSel, BlkSel, AV.ren, renL, AV.ok, okL, Option.some.injEq, exists_eq_left', List.length_cons, List.length_nil, Nat.reduceAdd, Nat.reduceLT, reduceCtorEq, implies_true, exists_eq', qna])
   ·have h0' := eq_false h0
    simp only [X7f, KtR, YUa, YOR, XuN, simprocAttr, CO.tmps, Opd.tmps, optT, Nat.reducePow, Nat.reduceDiv, Nat.reduceMod, f1, f2, f3, u1, KAb, g2, g3, h0', z1, Yom, zN5 hh, X9l hz, Zf1 hz, QwP hz]
    rw [zPP _ h0, JwT _ h0]
    exact Bt.sel [3, 4, 5] hh (by decide) (by simp only [qpr, FrSel, BlkSel, AV.ren, renL, AV.ok, okL, Option.some.injEq, exists_eq_left', List.length_cons, List.length_nil, Nat.reduceAdd, Nat.reduceLT, reduceCtorEq, implies_true, exists_eq']) (by simp only [qpr, FrSel, BlkSel, AV.ren, renL, AV.ok, okL, Option.some.injEq, exists_eq_left', List.length_cons, List.length_nil, Nat.reduceAdd, Nat.reduceLT, reduceCtorEq, implies_true, exists_eq', J7X])
  ·cases e
 ·cases e
end Go.Proofs.YtcncpbcbedfakaaGreat
end
