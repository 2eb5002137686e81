/- Part 27 of what the laws' proofs rest on. No condition. -/
import Derived.Test.YtcncpbcbedfakaaGreatRp26
set_option linter.all false
section
namespace Go.Proofs.YtcncpbcbedfakaaGreat
set_option maxRecDepth 100000
set_option maxHeartbeats 4000000
def ixaV (k sz : Nat) (agg : Bool) : AV → AV → Option AV
 | .ag l, .i _ n => if 0 ≤ n ∧ n < k then (if agg then some (.ag ((l.drop (n.toNat * sz)).take sz)) else l[n.toNat * sz]?) else none
 | _, _ => none
theorem X4d {T : Env} {fr : List AV} {h : List AB} (k sz : Nat) (agg : Bool) (x i : Opd) : opR T (.ixa k sz agg x i) fr h = (ixaV k sz agg (x.ev fr) (i.ev fr)).map (·, h) := by
 show (match x.ev fr, i.ev fr with | .ag l, .i _ n => _ | _, _ => _) = _
 unfold ixaV
 split
 ·split
  ·split <;> rfl
  ·rfl
 ·rfl
noncomputable def Z0F : List AV → List AB → Option (AV × List AB)
 | [s, f], h => if s.isNs = true then qNd [.ns, f] h else Xrz [s, f] h
 | _, _ => none
def wsA : List AV → List Nat
 | [s, _] => idOf s
 | _ => []
theorem qay : Spec Tryz.prog 45 Z0F := by
 intro args h v h' e
 unfold Z0F at e
 split at e
 ·rename_i s f
  split at e
  ·rename_i hn
   have : s = .ns := by cases s <;> first | rfl | cases hn
   subst this
   exact qDM _ _ _ _ e
  ·exact Zss _ _ _ _ e
 ·cases e
theorem QPo {α : Type} {r : Row α} (id : Nat) (l : List α) : (rsl r id l).isNs = false := by unfold rsl; split <;> rfl
noncomputable def jnL (l l' : List Hd) (v v' : List Int) (ds ds' : Dots) : List Hd := YCh cfH (jnU l l' v v' ds ds')
theorem zPa {l l' : List Hd} {v v' : List Int} {ds ds' : Dots} (a : RG l v ds) (b : RG l' v' ds') : Jn l l' v v' ds ds' (jnL l l' v v' ds ds') := ⟨YsF (qH5 a b), fun x => Jir _ x⟩
open Classical in
noncomputable def KY2 : List AV → List AB → Option (AV × List AB)
 | [.ag [l, s, t], .ag [l', s', t']], h => (getS Qv2 h l).bind fun hs => (getS intR h s).bind fun v => (getS dotR h t).bind fun ds => (getS Qv2 h l').bind fun hs' => (getS intR h s').bind fun v' => (getS dotR h t').bind fun ds' =>
   if (hs.length ≤ 10000 ∧ hs'.length ≤ 10000) ∧ t.capOk = true ∧ t'.capOk = true then
    if KwI hs v ds ≠ 0 then some (.tu [.ag [.ns, .ns, .ns], .i .i64 (KwI hs v ds)], h)
    else if KwI hs' v' ds' ≠ 0 then some (.tu [.ag [.ns, .ns, .ns], .i .i64 (KwI hs' v' ds')], h)
    else if ¬ KRX hs hs' then some (.tu [.ag [.ns, .ns, .ns], .i .i64 9], h)
    else if ¬ (Zjt v v' ds ds').2.length ≤ 4096 then some (.tu [.ag [.ns, .ns, .ns], .i .i64 10], h)
    else some (.tu [.ag [rsl Qv2 h.length (jnL hs hs' v v' ds ds'), rsl intR (h.length + 1) (Zjt v v' ds ds').1, rsl dotR (h.length + 2) (Zjt v v' ds ds').2], .i .i64 0], h ++ [resB Qv2 true (jnL hs hs' v v' ds ds'), resB intR true (Zjt v v' ds ds').1, resB dotR true (Zjt v v' ds ds').2])
   else none
 | _, _ => none
theorem Z0N (f : AV) : wsA [.ns, f] = [] := _root_.id rfl
theorem Q5o {α : Type} {r : Row α} (i : Nat) (l : List α) (f : AV) : wsA [rsl r i l, f] = [i] := Ju5 i l
theorem JCI (h L : List AB) (k : Nat) (cs : List AV) : bxc (h ++ L) (h.length + k) cs = h ++ L.set k (.blk false true cs) := qIW L k _
theorem zWL {h : List AB} {l v d : AV} {hs : List Hd} {vs : List Int} {ds : Dots} (h1 : Rd Qv2 h l hs) (h2 : Rd intR h v vs) (h3 : Rd dotR h d ds) (hL : hs.length ≤ 100000) (L : List AB) (a b : Nat) (b1 : bxL L a = some l) (b2 : ownC L b = some [v, d]) :
  Z0F [.ns, .f (.func 81) [] [.p (h.length + a) 0, .p (h.length + b) 0]] (h ++ L) = some (apS Qv2 (h.length + L.length) (outL vs ds hs), h ++ (L ++ [resB Qv2 true (outL vs ds hs)])) := by
 unfold Z0F
 dsimp only
 rw [if_pos (show AV.ns.isNs = true from rfl)]
 simp only [qNd, XL8 b1 b2 (h1.app L).get (h2.app L).get (h3.app L).get, Option.bind_some]
 rw [if_pos hL, List.length_append, List.append_assoc]
open Classical in
theorem X4Z {h : List AB} {l v d : AV} {hs : List Hd} {vs : List Int} {ds : Dots} (h1 : Rd Qv2 h l hs) (h2 : Rd intR h v vs) (h3 : Rd dotR h d ds) (hL : hs.length ≤ 100000) {o : List Hd} (h0 : o ≠ []) (ho : o.length ≤ 100000) (L : List AB) (k a b : Nat) (hk : L[k]? = some (resB Qv2 true o)) (b1 : bxL (L.set k .dead) a = some l) (b2 : ownC (L.set k .dead) b = some [v, d]) :
  Z0F [rsl Qv2 (h.length + k) o, .f (.func 81) [] [.p (h.length + a) 0, .p (h.length + b) 0]] (h ++ L) = if outL vs ds hs = [] then some (rsl Qv2 (h.length + k) o, h ++ L) else some (apS Qv2 (h.length + L.length) (o ++ outL vs ds hs), h ++ (L.set k .dead ++ [resB Qv2 true (o ++ outL vs ds hs)])) := by
 have e : Z0F [rsl Qv2 (h.length + k) o, .f (.func 81) [] [.p (h.length + a) 0, .p (h.length + b) 0]] (h ++ L) = Xrz [rsl Qv2 (h.length + k) o, .f (.func 81) [] [.p (h.length + a) 0, .p (h.length + b) 0]] (h ++ L) := by
  unfold Z0F
  dsimp only
  rw [QPo, if_neg (by decide)]
 have hk2 : (h ++ L)[h.length + k]? = some (resB Qv2 true o) := by rw [zn7]; exact hk
 have hg := (Qgm hk2 (by unfold maxLen; omega)).get
 rw [e]
 simp only [Xrz, Ju5, hg, Option.bind_some, qIW]
 rw [if_pos ⟨trivial, h0, hk2, ho⟩, XL8 b1 b2 (h1.app _).get (h2.app _).get (h3.app _).get]
 simp only [Option.bind_some]
 rw [if_pos hL, List.length_append, List.append_assoc]
theorem YlY {α : Type} {p : α → Prop} [DecidablePred p] {l : List α} (h : idx p l < 0) : ¬ ∃ x ∈ l, p x := fun q => by
 have := (J0H p l).2 q
 omega
theorem Y36 {α : Type} (p : α → Prop) [DecidablePred p] (d : α) : ∀ (l : List α) (n : Nat), 0 ≤ qVz p l n → ∃ j, j < l.length ∧ qVz p l n = ((n + j : Nat) : Int) ∧ p (l.getD j d)
 | [], n, h => by simp [qVz] at h
 | a :: l, n, h => by
  unfold qVz at h ⊢
  split
  ·rename_i q
   exact ⟨0, by simp, by simp, by simpa using q⟩
  ·rename_i q
   rw [if_neg q] at h
   obtain ⟨j, h1, h2, h3⟩ := Y36 p d l (n + 1) h
   exact ⟨j + 1, by simpa using h1, by rw [h2]; congr 1; omega, by simpa using h3⟩
theorem KjE {α : Type} {p : α → Prop} [DecidablePred p] (d : α) {l : List α} (h : ¬ idx p l < 0) : ∃ j, j < l.length ∧ idx p l = (j : Int) ∧ p (l.getD j d) := by
 obtain ⟨j, h1, h2, h3⟩ := Y36 p d l 0 (by unfold idx at h; omega)
 exact ⟨j, h1, by unfold idx; rw [h2, Nat.zero_add], h3⟩
open Classical in
noncomputable def JfN (l l' : List Hd) : List Hd := l.filter fun x => decide (∃ y ∈ l', y.1 = x.1)
theorem YJU {l l' : List Hd} {i : Nat} (h : i < l.length) : JfN (l.take (i + 1)) l' = JfN (l.take i) l' ++ (if ∃ y ∈ l', y.1 = (l.getD i Qv2.d).1 then [l.getD i Qv2.d] else []) := by
 unfold JfN
 rw [List.take_succ_eq_append_getElem h, List.filter_append, List.getD_eq_getElem?_getD, List.getElem?_eq_getElem h]
 simp only [Option.getD_some, List.filter_cons, List.filter_nil, decide_eq_true_eq]
theorem J7t (l l' : List Hd) (i : Nat) : (JfN (l.take i) l').length ≤ i := Nat.le_trans (List.length_filter_le _ _) (by rw [List.length_take]; omega)
theorem Jmx {h : List AB} (hz : h.map AB.freeze = h) {l s t l' s' t' : AV} {hs hs' : List Hd} {xs xs' : List Int} {ds ds' : Dots} (hl : Rd Qv2 h l hs) (hv : Rd intR h s xs) (hd : Rd dotR h t ds) (hl' : Rd Qv2 h l' hs') (hv' : Rd intR h s' xs') (hd' : Rd dotR h t' ds') (hL : hs.length ≤ 10000 ∧ hs'.length ≤ 10000) (k1 : t.capOk = true) (k2 : t'.capOk = true) (v : AV) (h' : List AB) (e : KY2 [.ag [l, s, t], .ag [l', s', t']] h = some (v, h')) :
  FnAt Tryz.prog 12 [.ag [l, s, t], .ag [l', s', t']] h v h' := by
 simp only [KY2, hl.get, hv.get, hd.get, hl'.get, hv'.get, hd'.get, Option.bind_some] at e
 rw [if_pos ⟨hL, k1, k2⟩] at e
 refine FnAt.run (by kernel_rfl) (T := ⟨[⟨27, z0s, fun _ => []⟩, ⟨43, YlE, fun _ => []⟩, ⟨46, zyz, fun _ => []⟩, ⟨47, QQW, ws1⟩, ⟨48, Xm0, fun _ => []⟩, ⟨49, Kr3, fun _ => []⟩, ⟨45, Z0F, wsA⟩], []⟩) ⟨⟨QOB, J46, Kg6, q4a, Q2Z, zVb, qay, trivial⟩, trivial⟩ Tryz.func12 sw12 fun ho hh => ?_
 simp only [Xto, J9P, Bool.and_eq_true] at ho
 have f1 := hl.fx ho.1.1 (sz := 34) rfl
 have f2 := hv.fx ho.1.2.1 (sz := 1) rfl
 have f3 := hd.fx ho.1.2.2.1 (sz := 2) rfl
 have f4 := hl'.fx ho.2.1.1 (sz := 34) rfl
 have f5 := hv'.fx ho.2.1.2.1 (sz := 1) rfl
 have f6 := hd'.fx ho.2.1.2.2.1 (sz := 2) rfl
 have hL1 : (hs.length ≤ 1000000) = True := eq_true (by omega)
 have hL2 : (hs'.length ≤ 1000000) = True := eq_true (by omega)
 have up : ∀ (t : AV), t.ok (fun i => decide (i < h.length)) = true → ∀ c, t.ok (fun i => decide (i < h.length + c)) = true := fun t ht c => AV.ok_mono (fun i q => by simp only [decide_eq_true_eq] at q ⊢; omega) t ht
 have rn : ∀ (t : AV), t.ok (fun i => decide (i < h.length)) = true → ∀ sel, Wk (t.ren (selN h.length sel)) t := fun t ht sel => Wk.ren (fun i hi => q8q hi) ht
 have fo := fun c => And.intro (up l ho.1.1 c) (And.intro (up s ho.1.2.1 c) (And.intro (up t ho.1.2.2.1 c) (And.intro (up l' ho.2.1.1 c) (And.intro (up s' ho.2.1.2.1 c) (up t' ho.2.1.2.2.1 c)))))
 have fr := fun sel => And.intro (rn l ho.1.1 sel) (And.intro (rn s ho.1.2.1 sel) (And.intro (rn t ho.1.2.2.1 sel) (And.intro (rn l' ho.2.1.1 sel) (And.intro (rn s' ho.2.1.2.1 sel) (rn t' ho.2.1.2.2.1 sel)))))
 have wag : ∀ sel, Wk (.ag [l.ren (selN h.length sel), s.ren (selN h.length sel), t.ren (selN h.length sel), l'.ren (selN h.length sel), s'.ren (selN h.length sel), t'.ren (selN h.length sel)]) (.ag [l, s, t, l', s', t']) = True := fun sel => eq_true (zBJ ⟨rn l ho.1.1 sel, rn s ho.1.2.1 sel, rn t ho.1.2.2.1 sel, rn l' ho.2.1.1 sel, rn s' ho.2.1.2.1 sel, rn t' ho.2.1.2.2.1 sel, trivial⟩)
 have zw01 : IntKind.i64.wrap ((0 : Int) + 1) = 1 := by decide
 have zw12 : IntKind.i64.wrap ((1 : Int) + 1) = 2 := by decide
 unfold w12
 simp only [X7f, KtR, YUa, YOR, XuN, if_true, if_false, ↓reduceIte, Nat.reduceAdd, Nat.reduceSub, Nat.reduceLeDiff, Nat.reduceEqDiff, Nat.reduceMul, Nat.reduceLT, Int.reduceLT, Int.reduceLE, Int.reduceEq, CO.tmps, Opd.tmps, optT, Nat.reducePow, Nat.reduceDiv, Nat.reduceMod, f1, f2, f3, f4, f5, f6]
 refine QZo (S := Nat) (fun i => 2 - i) (fun i => tp 2 ++ [.p (h.length + 0) 0, .p (h.length + 1) 0, .p (h.length + 2) 0] ++ tp 13 ++ [.ag [l, s, t, l', s', t'], .i .i64 i] ++ tp 76) (fun _ => h ++ [.blk false true [l, s, t], .blk false true [l', s', t'], .blk false true [.ns, .ns, .ns]]) (fun i => i ≤ 2 ∧ (1 ≤ i → KwI hs xs ds = 0) ∧ (2 ≤ i → KwI hs' xs' ds' = 0)) 0 ⟨by omega, fun q => by omega, fun q => by omega⟩ (Bt.wk (by simp only [YUa, XuN, if_true, if_false, reduceIte, Nat.reduceAdd, Nat.reduceSub, Nat.reduceLeDiff, Nat.reduceEqDiff, Nat.reduceMul, Nat.reduceLT, Int.reduceLT, Int.reduceLE, Int.reduceEq])) fun i hi => ?_
 obtain ⟨hi2, hc0, hc1⟩ := hi
 have ix0 : ixaV 2 3 true (.ag [l, s, t, l', s', t']) (.i .i64 0) = some (.ag [l, s, t]) := rfl
 have ix1 : ixaV 2 3 true (.ag [l, s, t, l', s', t']) (.i .i64 1) = some (.ag [l', s', t']) := rfl
 by_cases i0 : i = 0
 ·subst i0
  by_cases c0 : KwI hs xs ds = 0
  ·simp only [YUa, YOR, XuN, if_true, if_false, ↓reduceIte, Nat.reduceAdd, Nat.reduceSub, Nat.reduceLeDiff, Nat.reduceEqDiff, Nat.reduceMul, Nat.reduceLT, Int.reduceLT, Int.reduceLE, Int.reduceEq, CO.tmps, Opd.tmps, optT, Nat.reducePow, Nat.reduceDiv, Nat.reduceMod, f1, f2, f3, f4, f5, f6, X4d, ix0, z0s, c0, hL1, zw01, ne_eq, not_false_eq_true, not_true_eq_false, decide_true, decide_false]
   exact ⟨1, ⟨by decide, by simp, fun q => absurd q (by decide)⟩, by decide, Bt.sel [0, 1, 2] hh (by decide) (by simp only [qpr, FrSel, BlkSel, AV.ren, renL, AV.ok, okL, Option.some.injEq, exists_eq_left', List.length_cons, List.length_nil, Nat.reduceAdd, Nat.reduceLT, reduceCtorEq, implies_true, exists_eq', fo, fr]) (by simp only [qpr, FrSel, BlkSel, AV.ren, renL, AV.ok, okL, Option.some.injEq, exists_eq_left', List.length_cons, List.length_nil, Nat.reduceAdd, Nat.reduceLT, reduceCtorEq, implies_true, exists_eq', fo, fr, wag, Int.natCast_one])⟩
  ·have c0' := eq_false c0
   rw [if_pos c0] at e
   cases e
   simp only [YUa, YOR, XuN, if_true, if_false, ↓reduceIte, Nat.reduceAdd, Nat.reduceSub, Nat.reduceLeDiff, Nat.reduceEqDiff, Nat.reduceMul, Nat.reduceLT, Int.reduceLT, Int.reduceLE, Int.reduceEq, CO.tmps, Opd.tmps, optT, Nat.reducePow, Nat.reduceDiv, Nat.reduceMod, f1, f2, f3, f4, f5, f6, X4d, ix0, z0s, c0', hL1, zw01, ne_eq, not_false_eq_true, not_true_eq_false, decide_true, decide_false]
   exact Bt.drop _ hh rfl (by simp only [zEu, Xto, XSf, J9P, JoB, ok_i, Bool.and_true])
 by_cases i1 : i = 1
 ·subst i1
  have c0 := hc0 (Nat.le_refl _)
  rw [if_neg (not_not_intro c0)] at e
  by_cases c1 : KwI hs' xs' ds' = 0
  ·simp only [YUa, YOR, XuN, if_true, if_false, ↓reduceIte, Nat.reduceAdd, Nat.reduceSub, Nat.reduceLeDiff, Nat.reduceEqDiff, Nat.reduceMul, Nat.reduceLT, Int.reduceLT, Int.reduceLE, Int.reduceEq, CO.tmps, Opd.tmps, optT, Nat.reducePow, Nat.reduceDiv, Nat.reduceMod, f1, f2, f3, f4, f5, f6, X4d, ix1, z0s, c1, hL2, zw12, ne_eq, Int.natCast_one, not_false_eq_true, not_true_eq_false, decide_true, decide_false]
   exact ⟨2, ⟨by decide, fun _ => c0, by simp⟩, by decide, Bt.sel [0, 1, 2] hh (by decide) (by simp only [qpr, FrSel, BlkSel, AV.ren, renL, AV.ok, okL, Option.some.injEq, exists_eq_left', List.length_cons, List.length_nil, Nat.reduceAdd, Nat.reduceLT, reduceCtorEq, implies_true, exists_eq', fo, fr]) (by simp only [qpr, FrSel, BlkSel, AV.ren, renL, AV.ok, okL, Option.some.injEq, exists_eq_left', List.length_cons, List.length_nil, Nat.reduceAdd, Nat.reduceLT, reduceCtorEq, implies_true, exists_eq', fo, fr, wag, Int.cast_ofNat_Int])⟩
  ·have c1' := eq_false c1
   rw [if_pos c1] at e
   cases e
   simp only [YUa, YOR, XuN, if_true, if_false, ↓reduceIte, Nat.reduceAdd, Nat.reduceSub, Nat.reduceLeDiff, Nat.reduceEqDiff, Nat.reduceMul, Nat.reduceLT, Int.reduceLT, Int.reduceLE, Int.reduceEq, CO.tmps, Opd.tmps, optT, Nat.reducePow, Nat.reduceDiv, Nat.reduceMod, f1, f2, f3, f4, f5, f6, X4d, ix1, z0s, c1', hL2, zw12, ne_eq, Int.natCast_one, not_false_eq_true, not_true_eq_false, decide_true, decide_false]
   exact Bt.drop _ hh rfl (by simp only [zEu, Xto, XSf, J9P, JoB, ok_i, Bool.and_true])
 obtain rfl : i = 2 := by omega
 have c0 := hc0 (by decide)
 have c1 := hc1 (by decide)
 clear hc0 hc1
 rw [if_neg (not_not_intro c0), if_neg (not_not_intro c1)] at e
 have ra := XFh.1 c0
 have rb := XFh.1 c1
 simp only [YUa, YOR, XuN, if_true, if_false, ↓reduceIte, Nat.reduceAdd, Nat.reduceSub, Nat.reduceLeDiff, Nat.reduceEqDiff, Nat.reduceMul, Nat.reduceLT, Int.reduceLT, Int.reduceLE, Int.reduceEq, CO.tmps, Opd.tmps, optT, Nat.reducePow, Nat.reduceDiv, Nat.reduceMod, f1, f2, f3, f4, f5, f6, Int.cast_ofNat_Int]
 have ih := (QfD hl')
 refine QZo (S := Nat) (fun i => hs.length - i) (fun i => tp 2 ++ [.p (h.length + 0) 0, .p (h.length + 1) 0, .p (h.length + 2) 0] ++ tp 4 ++ [.p (h.length + 3) 0, apS Qv2 (h.length + 4) (JfN (hs.take i) hs')] ++ tp 23 ++ [l, .i .i64 hs.length, .i .i64 i] ++ tp 59) (fun i => h ++ [.blk false true [l, s, t], .blk false true [l', s', t'], .blk false true [.ns, .ns, .ns], .blk false true [l, s, t, l', s', t'], resB Qv2 true (JfN (hs.take i) hs')]) (fun i => i ≤ hs.length ∧ KRX (hs.take i) hs') 0 ⟨Nat.zero_le _, fun x hx => by simp at hx⟩ ?_ fun i hi => ?_
 ·show Bt _ _ _ _ _ (h ++ ([.blk false true [l, s, t], .blk false true [l', s', t'], .blk false true [.ns, .ns, .ns], .blk false true [l, s, t, l', s', t']] ++ List.replicate 1 .dead))
  rw [← List.append_assoc]
  refine Bt.trans (Bt.wk ?_) (Bt.pad _ _ 1)
  rw [show apS Qv2 (h.length + 4) (JfN (hs.take 0) hs') = .ns from rfl]
  simp only [YUa, XuN, if_true, if_false, reduceIte, Nat.reduceAdd, Nat.reduceSub, Nat.reduceLeDiff, Nat.reduceEqDiff, Nat.reduceMul, Nat.reduceLT, Int.reduceLT, Int.reduceLE, Int.reduceEq]
 obtain ⟨hi2, hag⟩ := hi
 have lo := J7t hs hs' i
 by_cases gi : i < hs.length
 ·have gi' := eq_true gi
  have e1 : IntKind.i64.wrap ((i : Int) + 1) = ((i + 1 : Nat) : Int) := ZPn (by unfold In64; omega)
  have hst := YJU (l' := hs') gi
  have hxm : hs.getD i Qv2.d ∈ hs := by rw [List.getD_eq_getElem?_getD, List.getElem?_eq_getElem gi]; exact List.getElem_mem gi
  have htk : ∀ z, z ∈ hs.take (i + 1) ↔ z ∈ hs.take i ∨ z = hs.getD i Qv2.d := fun z => by
   rw [List.take_succ_eq_append_getElem gi, List.mem_append, List.mem_singleton, List.getD_eq_getElem?_getD, List.getElem?_eq_getElem gi]
   rfl
  generalize hx : hs.getD i Qv2.d = x at *
  generalize ho : JfN (hs.take i) hs' = o at *
  have ao : ∀ (n : Nat) (L : List Hd), (apS Qv2 (n + 4) L).ok (fun i => decide (i < n + 5)) = true := fun n L => X9s _ _ _ (by simp)
  by_cases hn : idx (fun y : Hd => y.1 = x.1) hs' < 0
  ·have hn' := eq_true hn
   have hno := YlY hn
   rw [if_neg hno, List.append_nil] at hst
   simp only [YUa, YOR, XuN, if_true, if_false, ↓reduceIte, Nat.reduceAdd, Nat.reduceSub, Nat.reduceLeDiff, Nat.reduceEqDiff, Nat.reduceMul, Nat.reduceLT, Int.reduceLT, Int.reduceLE, Int.reduceEq, CO.tmps, Opd.tmps, optT, Nat.reducePow, Nat.reduceDiv, Nat.reduceMod, f1, f2, f3, f4, f5, f6, gi', hx, zqp, zso, Zcp, qdw, List.length_cons, List.length_nil, YlE, XMh, J1Z, hn', e1, ne_eq, not_false_eq_true, not_true_eq_false, decide_true, decide_false]
   refine ⟨i + 1, ⟨gi, fun z hz y hy ez => ?_⟩, by dsimp only; omega, ?_⟩
   ·rcases (htk z).1 hz with q | q
    ·exact hag z q y hy ez
    ·exact absurd ⟨y, hy, by rw [← ez, q]⟩ hno
   ·dsimp only
    rw [hst]
    exact Bt.sel [0, 1, 2, 3, 4] hh (by decide) (by simp only [qpr, FrSel, BlkSel, AV.ren, renL, AV.ok, okL, Option.some.injEq, exists_eq_left', List.length_cons, List.length_nil, Nat.reduceAdd, Nat.reduceLT, reduceCtorEq, implies_true, exists_eq', fo, fr]) (by simp only [qpr, FrSel, BlkSel, AV.ren, renL, AV.ok, okL, Option.some.injEq, exists_eq_left', List.length_cons, List.length_nil, Nat.reduceAdd, Nat.reduceLT, reduceCtorEq, implies_true, exists_eq', fo, fr, wag, ao, J7X])
  ·have hn' := eq_false hn
   obtain ⟨j, hj, hij, hjd⟩ := KjE Qv2.d hn
   have hj' := eq_true hj
   have jn0 : ((j : Int) < 0) = False := eq_false (by omega)
   have hjm : hs'.getD j Qv2.d ∈ hs' := by rw [List.getD_eq_getElem?_getD, List.getElem?_eq_getElem hj]; exact List.getElem_mem hj
   have hyes : ∃ y ∈ hs', y.1 = x.1 := ⟨_, hjm, hjd⟩
   rw [if_pos hyes] at hst
   generalize hy : hs'.getD j Qv2.d = y at *
   by_cases hc : y.2 = x.2
   ·have hc' := eq_true hc
    have hagN : KRX (hs.take (i + 1)) hs' := fun z hz y' hy' ez => by
     rcases (htk z).1 hz with q | q
     ·exact hag z q y' hy' ez
     ·have : y' = y := rb.one hy' hjm (by rw [← ez, q, hjd])
      rw [this, q, hc]
    by_cases hB : o = []
    ·rw [hB, List.nil_append] at hst
     have z3 : (1 * 48 ≤ 140737488355328 ∧ 1 ≤ maxLen) = True := eq_true ⟨by decide, by unfold maxLen; omega⟩
     simp only [hB, qY6, YUa, YOR, XuN, if_true, if_false, ↓reduceIte, Nat.reduceAdd, Nat.reduceSub, Nat.reduceLeDiff, Nat.reduceEqDiff, Nat.reduceMul, Nat.reduceLT, Int.reduceLT, Int.reduceLE, Int.reduceEq, CO.tmps, Opd.tmps, optT, Nat.reducePow, Nat.reduceDiv, Nat.reduceMod, f1, f2, f3, f4, f5, f6, ih, gi', hx, hy, hj', zqp, zso, Zcp, qdw, List.length_cons, List.length_nil, YlE, XMh, J1Z, hij, jn0, hc', e1, Y6p, Zpc, Jmb, z3, ne_eq, not_false_eq_true, not_true_eq_false, decide_true, decide_false, zN5 hh, X9l hz, Zf1 hz, QwP hz]
     refine ⟨i + 1, ⟨gi, hagN⟩, by dsimp only; omega, ?_⟩
     dsimp only
     rw [hst]
     simp only [QT8, zHP]
     exact Bt.sel [0, 1, 2, 3, 7] hh (by decide) (by simp only [qpr, FrSel, BlkSel, AV.ren, renL, AV.ok, okL, Option.some.injEq, exists_eq_left', List.length_cons, List.length_nil, Nat.reduceAdd, Nat.reduceLT, reduceCtorEq, implies_true, exists_eq', fo, fr, wag]) (by simp only [qpr, FrSel, BlkSel, AV.ren, renL, AV.ok, okL, Option.some.injEq, exists_eq_left', List.length_cons, List.length_nil, Nat.reduceAdd, Nat.reduceLT, reduceCtorEq, implies_true, exists_eq', fo, fr, wag, J7X])
    ·have hlB : o.length ≠ 0 := fun q => hB (List.eq_nil_of_length_eq_zero q)
     have gr : ∀ id, apS Qv2 id o = rsl Qv2 id o := fun id => ZtQ _ hlB
     have fa := fun L k ys hb => z4x (h := h) (p := h.length) rfl (r := Qv2) (sz := 34) rfl L k o 48 1 ys hlB hb (by decide) (by omega) (by unfold maxLen; omega)
     simp only [gr, YUa, YOR, XuN, if_true, if_false, ↓reduceIte, Nat.reduceAdd, Nat.reduceSub, Nat.reduceLeDiff, Nat.reduceEqDiff, Nat.reduceMul, Nat.reduceLT, Int.reduceLT, Int.reduceLE, Int.reduceEq, CO.tmps, Opd.tmps, optT, Nat.reducePow, Nat.reduceDiv, Nat.reduceMod, f1, f2, f3, f4, f5, f6, ih, gi', hx, hy, hj', zqp, zso, Zcp, qdw, List.length_cons, List.length_nil, YlE, XMh, J1Z, hij, jn0, hc', e1, Y6p, Zpc, Jmb, fa, ne_eq, not_false_eq_true, not_true_eq_false, decide_true, decide_false, zN5 hh, X9l hz, Zf1 hz, QwP hz]
     refine ⟨i + 1, ⟨gi, hagN⟩, by dsimp only; omega, ?_⟩
     dsimp only
     rw [hst]
     simp only [zfM, XJF]
     exact Bt.sel [0, 1, 2, 3, 7] hh (by decide) (by simp only [qpr, FrSel, BlkSel, AV.ren, renL, AV.ok, okL, Option.some.injEq, exists_eq_left', List.length_cons, List.length_nil, Nat.reduceAdd, Nat.reduceLT, reduceCtorEq, implies_true, exists_eq', fo, fr, wag]) (by simp only [qpr, FrSel, BlkSel, AV.ren, renL, AV.ok, okL, Option.some.injEq, exists_eq_left', List.length_cons, List.length_nil, Nat.reduceAdd, Nat.reduceLT, reduceCtorEq, implies_true, exists_eq', fo, fr, wag, J7X])
   ·have hna : ¬ KRX hs hs' := fun q => hc (q x hxm y hjm hjd.symm).symm
    have hc' := eq_false hc
    rw [if_pos hna] at e
    cases e
    simp only [YUa, YOR, XuN, if_true, if_false, ↓reduceIte, Nat.reduceAdd, Nat.reduceSub, Nat.reduceLeDiff, Nat.reduceEqDiff, Nat.reduceMul, Nat.reduceLT, Int.reduceLT, Int.reduceLE, Int.reduceEq, CO.tmps, Opd.tmps, optT, Nat.reducePow, Nat.reduceDiv, Nat.reduceMod, f1, f2, f3, f4, f5, f6, ih, gi', hx, hy, hj', zqp, zso, Zcp, qdw, List.length_cons, List.length_nil, YlE, XMh, J1Z, hij, jn0, hc', e1, Y6p, Zpc, Jmb, ne_eq, not_false_eq_true, not_true_eq_false, decide_true, decide_false, zN5 hh, X9l hz, Zf1 hz, QwP hz]
    exact Bt.drop _ hh rfl (by simp only [zEu, Xto, XSf, J9P, JoB, ok_i, Bool.and_true])
 obtain rfl : i = hs.length := by omega
 have gi' := eq_false gi
 rw [List.take_length] at hag
 rw [if_neg (not_not_intro hag)] at e
 rw [List.take_length]
 rw [List.take_length] at lo
 simp only [YUa, YOR, XuN, if_true, if_false, ↓reduceIte, Nat.reduceAdd, Nat.reduceSub, Nat.reduceLeDiff, Nat.reduceEqDiff, Nat.reduceMul, Nat.reduceLT, Int.reduceLT, Int.reduceLE, Int.reduceEq, CO.tmps, Opd.tmps, optT, Nat.reducePow, Nat.reduceDiv, Nat.reduceMod, f1, f2, f3, f4, f5, f6, gi']
 generalize hb : JfN hs hs' = o0 at *
 have hm : ∃ Lm : Nat → List Hd, Lm 0 = o0 ∧ Lm 1 = o0 ++ outL xs' ds' hs ∧ Lm 2 = o0 ++ outL xs' ds' hs ++ outL xs ds hs' := ⟨fun n => if n = 0 then o0 else if n = 1 then o0 ++ outL xs' ds' hs else o0 ++ outL xs' ds' hs ++ outL xs ds hs', rfl, rfl, rfl⟩
 obtain ⟨Lm, m0, m1, m2⟩ := hm
 have hp : ∃ Pm : Nat → AB, Pm 0 = .blk false true [l, s, t, l', s', t'] ∧ Pm 1 = .blk false true [l', s', t', l, s, t] ∧ Pm 2 = .blk false true [l, s, t, l', s', t'] := ⟨fun n => if n = 1 then .blk false true [l', s', t', l, s, t] else .blk false true [l, s, t, l', s', t'], rfl, rfl, rfl⟩
 obtain ⟨Pm, p0, p1, p2⟩ := hp
 have hS : ∃ Sm : Nat → AV, Sm 0 = apS Qv2 (h.length + 4) o0 ∧ Sm 1 = apS Qv2 (h.length + 4) (Lm 1) ∧ Sm 2 = rsl Qv2 (h.length + 4) (Lm 2) := ⟨fun n => if n = 0 then apS Qv2 (h.length + 4) o0 else if n = 1 then apS Qv2 (h.length + 4) (Lm 1) else rsl Qv2 (h.length + 4) (Lm 2), rfl, rfl, rfl⟩
 obtain ⟨Sm, S0, S1, S2⟩ := hS
 have ao : ∀ (n : Nat) (L : List Hd), (apS Qv2 (n + 4) L).ok (fun i => decide (i < n + 5)) = true := fun n L => X9s _ _ _ (by simp)
 have ro : ∀ (n : Nat) (L : List Hd), (rsl Qv2 (n + 4) L).ok (fun i => decide (i < n + 5)) = true := fun n L => Y9K _ _ _ (by simp)
 have apW : ∀ (n : Nat) (L : List Hd), Wk (rsl Qv2 n L) (apS Qv2 n L) = True := fun n L => eq_true (qEA n L)
 refine QZo (S := Nat) (fun i => 2 - i) (fun i => tp 2 ++ [.p (h.length + 0) 0, .p (h.length + 1) 0, .p (h.length + 2) 0] ++ tp 4 ++ [.p (h.length + 3) 0, Sm i] ++ tp 50 ++ [.i .i64 i] ++ tp 34) (fun i => h ++ [.blk false true [l, s, t], .blk false true [l', s', t'], .blk false true [.ns, .ns, .ns], Pm i, resB Qv2 true (Lm i)]) (fun i => i ≤ 2) 0 (by decide) (by
  show Bt _ _ _ _ _ (h ++ [.blk false true [l, s, t], .blk false true [l', s', t'], .blk false true [.ns, .ns, .ns], Pm 0, resB Qv2 true (Lm 0)])
  rw [m0, p0]
  exact Bt.wk (by simp only [YUa, XuN, if_true, if_false, reduceIte, Nat.reduceAdd, Nat.reduceSub, Nat.reduceLeDiff, Nat.reduceEqDiff, Nat.reduceMul, Nat.reduceLT, Int.reduceLT, Int.reduceLE, Int.reduceEq, S0])) fun i hi => ?_
 have lo0 : o0.length ≤ 100000 := by omega
 have la0 := JKG xs' ds' hs
 have la1 := JKG xs ds hs'
 have lo1 : (o0 ++ outL xs' ds' hs).length ≤ 100000 := by rw [List.length_append]; omega
 by_cases i0 : i = 0
 ·subst i0
  rw [m0, p0]
  have zw := zw01
  by_cases hB : o0 = []
  ·have asn := zWL hl hv' hd' (by omega)
   simp only [hB, qY6, Z0N, asn, zw, S0, YUa, YOR, XuN, if_true, if_false, ↓reduceIte, Nat.reduceAdd, Nat.reduceSub, Nat.reduceLeDiff, Nat.reduceEqDiff, Nat.reduceMul, Nat.reduceLT, Int.reduceLT, Int.reduceLE, Int.reduceEq, CO.tmps, Opd.tmps, optT, Nat.reducePow, Nat.reduceDiv, Nat.reduceMod, f1, f2, f3, f4, f5, f6, zyz, QQW, hl.isSl, hv.isSl, hd.isSl, hl'.isSl, hv'.isSl, hd'.isSl, JCI, zn7, ne_eq, not_false_eq_true, not_true_eq_false, decide_true, decide_false, zN5 hh, X9l hz, Zf1 hz, QwP hz]
   refine ⟨1, by decide, by decide, ?_⟩
   simp only [m1, p1, S1, hB, List.nil_append]
   exact Bt.sel [0, 1, 2, 3, 7] hh (by decide) (by simp only [qpr, FrSel, BlkSel, AV.ren, renL, AV.ok, okL, Option.some.injEq, exists_eq_left', List.length_cons, List.length_nil, Nat.reduceAdd, Nat.reduceLT, reduceCtorEq, implies_true, exists_eq', fo, fr]) (by simp only [qpr, FrSel, BlkSel, AV.ren, renL, AV.ok, okL, Option.some.injEq, exists_eq_left', List.length_cons, List.length_nil, Nat.reduceAdd, Nat.reduceLT, reduceCtorEq, implies_true, exists_eq', fo, fr, wag, ao, ro, apW, Int.natCast_one])
  ·have hlB : (o0).length ≠ 0 := fun q => hB (List.eq_nil_of_length_eq_zero q)
   have gr : ∀ id, apS Qv2 id (o0) = rsl Qv2 id (o0) := fun id => ZtQ _ hlB
   by_cases hO : outL xs' ds' hs = []
   ·have asa := fun L k a b hk b1 b2 => (X4Z hl hv' hd' (by omega) hB lo0 L k a b hk b1 b2).trans (if_pos hO)
    simp only [gr, Q5o, asa, zw, S0, YUa, YOR, XuN, if_true, if_false, ↓reduceIte, Nat.reduceAdd, Nat.reduceSub, Nat.reduceLeDiff, Nat.reduceEqDiff, Nat.reduceMul, Nat.reduceLT, Int.reduceLT, Int.reduceLE, Int.reduceEq, CO.tmps, Opd.tmps, optT, Nat.reducePow, Nat.reduceDiv, Nat.reduceMod, f1, f2, f3, f4, f5, f6, zyz, QQW, hl.isSl, hv.isSl, hd.isSl, hl'.isSl, hv'.isSl, hd'.isSl, JCI, zn7, ne_eq, not_false_eq_true, not_true_eq_false, decide_true, decide_false, zN5 hh, X9l hz, Zf1 hz, QwP hz]
    refine ⟨1, by decide, by decide, ?_⟩
    simp only [m1, p1, S1, hO, List.append_nil, gr]
    exact Bt.sel [0, 1, 2, 3, 4] hh (by decide) (by simp only [qpr, FrSel, BlkSel, AV.ren, renL, AV.ok, okL, Option.some.injEq, exists_eq_left', List.length_cons, List.length_nil, Nat.reduceAdd, Nat.reduceLT, reduceCtorEq, implies_true, exists_eq', fo, fr]) (by simp only [qpr, FrSel, BlkSel, AV.ren, renL, AV.ok, okL, Option.some.injEq, exists_eq_left', List.length_cons, List.length_nil, Nat.reduceAdd, Nat.reduceLT, reduceCtorEq, implies_true, exists_eq', fo, fr, wag, ao, ro, apW, Int.natCast_one])
   ·have asa := fun L k a b hk b1 b2 => (X4Z hl hv' hd' (by omega) hB lo0 L k a b hk b1 b2).trans (if_neg hO)
    simp only [gr, Q5o, asa, zw, S0, YUa, YOR, XuN, if_true, if_false, ↓reduceIte, Nat.reduceAdd, Nat.reduceSub, Nat.reduceLeDiff, Nat.reduceEqDiff, Nat.reduceMul, Nat.reduceLT, Int.reduceLT, Int.reduceLE, Int.reduceEq, CO.tmps, Opd.tmps, optT, Nat.reducePow, Nat.reduceDiv, Nat.reduceMod, f1, f2, f3, f4, f5, f6, zyz, QQW, hl.isSl, hv.isSl, hd.isSl, hl'.isSl, hv'.isSl, hd'.isSl, JCI, zn7, ne_eq, not_false_eq_true, not_true_eq_false, decide_true, decide_false, zN5 hh, X9l hz, Zf1 hz, QwP hz]
    refine ⟨1, by decide, by decide, ?_⟩
    simp only [m1, p1, S1]
    exact Bt.sel [0, 1, 2, 3, 7] hh (by decide) (by simp only [qpr, FrSel, BlkSel, AV.ren, renL, AV.ok, okL, Option.some.injEq, exists_eq_left', List.length_cons, List.length_nil, Nat.reduceAdd, Nat.reduceLT, reduceCtorEq, implies_true, exists_eq', fo, fr]) (by simp only [qpr, FrSel, BlkSel, AV.ren, renL, AV.ok, okL, Option.some.injEq, exists_eq_left', List.length_cons, List.length_nil, Nat.reduceAdd, Nat.reduceLT, reduceCtorEq, implies_true, exists_eq', fo, fr, wag, ao, ro, apW, Int.natCast_one])
 by_cases i1 : i = 1
 ·subst i1
  rw [m1, p1]
  have zw := zw12
  by_cases hB : o0 ++ outL xs' ds' hs = []
  ·have asn := zWL hl' hv hd (by omega)
   simp only [hB, qY6, Z0N, asn, zw, S1, m1, Int.natCast_one, YUa, YOR, XuN, if_true, if_false, ↓reduceIte, Nat.reduceAdd, Nat.reduceSub, Nat.reduceLeDiff, Nat.reduceEqDiff, Nat.reduceMul, Nat.reduceLT, Int.reduceLT, Int.reduceLE, Int.reduceEq, CO.tmps, Opd.tmps, optT, Nat.reducePow, Nat.reduceDiv, Nat.reduceMod, f1, f2, f3, f4, f5, f6, zyz, QQW, hl.isSl, hv.isSl, hd.isSl, hl'.isSl, hv'.isSl, hd'.isSl, JCI, zn7, ne_eq, not_false_eq_true, not_true_eq_false, decide_true, decide_false, zN5 hh, X9l hz, Zf1 hz, QwP hz]
   refine ⟨2, by decide, by decide, ?_⟩
   simp only [m2, p2, S2, hB, List.nil_append]
   exact Bt.sel [0, 1, 2, 3, 7] hh (by decide) (by simp only [qpr, FrSel, BlkSel, AV.ren, renL, AV.ok, okL, Option.some.injEq, exists_eq_left', List.length_cons, List.length_nil, Nat.reduceAdd, Nat.reduceLT, reduceCtorEq, implies_true, exists_eq', fo, fr]) (by simp only [qpr, FrSel, BlkSel, AV.ren, renL, AV.ok, okL, Option.some.injEq, exists_eq_left', List.length_cons, List.length_nil, Nat.reduceAdd, Nat.reduceLT, reduceCtorEq, implies_true, exists_eq', fo, fr, wag, ao, ro, apW, Int.cast_ofNat_Int])
  ·have hlB : (o0 ++ outL xs' ds' hs).length ≠ 0 := fun q => hB (List.eq_nil_of_length_eq_zero q)
   have gr : ∀ id, apS Qv2 id (o0 ++ outL xs' ds' hs) = rsl Qv2 id (o0 ++ outL xs' ds' hs) := fun id => ZtQ _ hlB
   by_cases hO : outL xs ds hs' = []
   ·have asa := fun L k a b hk b1 b2 => (X4Z hl' hv hd (by omega) hB lo1 L k a b hk b1 b2).trans (if_pos hO)
    simp only [gr, Q5o, asa, zw, S1, m1, Int.natCast_one, YUa, YOR, XuN, if_true, if_false, ↓reduceIte, Nat.reduceAdd, Nat.reduceSub, Nat.reduceLeDiff, Nat.reduceEqDiff, Nat.reduceMul, Nat.reduceLT, Int.reduceLT, Int.reduceLE, Int.reduceEq, CO.tmps, Opd.tmps, optT, Nat.reducePow, Nat.reduceDiv, Nat.reduceMod, f1, f2, f3, f4, f5, f6, zyz, QQW, hl.isSl, hv.isSl, hd.isSl, hl'.isSl, hv'.isSl, hd'.isSl, JCI, zn7, ne_eq, not_false_eq_true, not_true_eq_false, decide_true, decide_false, zN5 hh, X9l hz, Zf1 hz, QwP hz]
    refine ⟨2, by decide, by decide, ?_⟩
    simp only [m2, p2, S2, hO, List.append_nil]
    exact Bt.sel [0, 1, 2, 3, 4] hh (by decide) (by simp only [qpr, FrSel, BlkSel, AV.ren, renL, AV.ok, okL, Option.some.injEq, exists_eq_left', List.length_cons, List.length_nil, Nat.reduceAdd, Nat.reduceLT, reduceCtorEq, implies_true, exists_eq', fo, fr]) (by simp only [qpr, FrSel, BlkSel, AV.ren, renL, AV.ok, okL, Option.some.injEq, exists_eq_left', List.length_cons, List.length_nil, Nat.reduceAdd, Nat.reduceLT, reduceCtorEq, implies_true, exists_eq', fo, fr, wag, ao, ro, apW, Int.cast_ofNat_Int])
   ·have asa := fun L k a b hk b1 b2 => (X4Z hl' hv hd (by omega) hB lo1 L k a b hk b1 b2).trans (if_neg hO)
    simp only [gr, Q5o, asa, zw, S1, m1, Int.natCast_one, YUa, YOR, XuN, if_true, if_false, ↓reduceIte, Nat.reduceAdd, Nat.reduceSub, Nat.reduceLeDiff, Nat.reduceEqDiff, Nat.reduceMul, Nat.reduceLT, Int.reduceLT, Int.reduceLE, Int.reduceEq, CO.tmps, Opd.tmps, optT, Nat.reducePow, Nat.reduceDiv, Nat.reduceMod, f1, f2, f3, f4, f5, f6, zyz, QQW, hl.isSl, hv.isSl, hd.isSl, hl'.isSl, hv'.isSl, hd'.isSl, JCI, zn7, ne_eq, not_false_eq_true, not_true_eq_false, decide_true, decide_false, zN5 hh, X9l hz, Zf1 hz, QwP hz]
    refine ⟨2, by decide, by decide, ?_⟩
    simp only [m2, p2, S2]
    exact Bt.sel [0, 1, 2, 3, 7] hh (by decide) (by simp only [qpr, FrSel, BlkSel, AV.ren, renL, AV.ok, okL, Option.some.injEq, exists_eq_left', List.length_cons, List.length_nil, Nat.reduceAdd, Nat.reduceLT, reduceCtorEq, implies_true, exists_eq', fo, fr]) (by simp only [qpr, FrSel, BlkSel, AV.ren, renL, AV.ok, okL, Option.some.injEq, exists_eq_left', List.length_cons, List.length_nil, Nat.reduceAdd, Nat.reduceLT, reduceCtorEq, implies_true, exists_eq', fo, fr, wag, ao, ro, apW, Int.cast_ofNat_Int])
 obtain rfl : i = 2 := by omega
 have hU : Lm 2 = jnU hs hs' xs xs' ds ds' := by
  rw [m2, ← hb, ZNT rb.nf rb.len, ZNT ra.nf ra.len]
  rfl
 have cs := ra.nf.check ra.len
 have cs' := rb.nf.check rb.len
 have lU : (jnU hs hs' xs xs' ds ds').length ≤ 1000000 := by rw [← hU, m2, List.length_append, List.length_append]; omega
 have lU' := eq_true lU
 have lU2 : ((jnU hs hs' xs xs' ds ds').length ≤ maxLen) = True := eq_true (by unfold maxLen; omega)
 have hsr : ∀ id, rsl Qv2 id (jnU hs hs' xs xs' ds ds') = rsl Qv2 id (jnL hs hs' xs xs' ds ds') := fun id => by unfold rsl jnL; rw [qXy]
 simp only [S2, hU, p2]
 by_cases g : (Zjt xs xs' ds ds').2.length ≤ 4096
 ·rw [if_neg (not_not_intro g)] at e
  cases e
  have g' := eq_true g
  have hJ : YCh cfH (jnU hs hs' xs xs' ds ds') = jnL hs hs' xs xs' ds ds' := rfl
  simp only [YUa, YOR, XuN, if_true, if_false, ↓reduceIte, Nat.reduceAdd, Nat.reduceSub, Nat.reduceLeDiff, Nat.reduceEqDiff, Nat.reduceMul, Nat.reduceLT, Int.reduceLT, Int.reduceLE, Int.reduceEq, CO.tmps, Opd.tmps, optT, Nat.reducePow, Nat.reduceDiv, Nat.reduceMod, f1, f2, f3, f4, f5, f6, Int.cast_ofNat_Int, Xm0, Kr3, cs, cs', g', k1, k2, lU', lU2, hJ, Ju5, ZTF, zn7, ne_eq, not_false_eq_true, not_true_eq_false, decide_true, decide_false]
  simp only [hsr]
  exact Bt.sel [4, 5, 6] hh (by decide) (by simp only [qpr, FrSel, BlkSel, AV.ren, renL, AV.ok, okL, Option.some.injEq, exists_eq_left', List.length_cons, List.length_nil, Nat.reduceAdd, Nat.reduceLT, reduceCtorEq, implies_true, exists_eq']) (by simp only [qpr, FrSel, BlkSel, AV.ren, renL, AV.ok, okL, Option.some.injEq, exists_eq_left', List.length_cons, List.length_nil, Nat.reduceAdd, Nat.reduceLT, reduceCtorEq, implies_true, exists_eq'])
 ·rw [if_pos g] at e
  cases e
  have g' := eq_false g
  simp only [YUa, YOR, XuN, if_true, if_false, ↓reduceIte, Nat.reduceAdd, Nat.reduceSub, Nat.reduceLeDiff, Nat.reduceEqDiff, Nat.reduceMul, Nat.reduceLT, Int.reduceLT, Int.reduceLE, Int.reduceEq, CO.tmps, Opd.tmps, optT, Nat.reducePow, Nat.reduceDiv, Nat.reduceMod, f1, f2, f3, f4, f5, f6, Int.cast_ofNat_Int, Xm0, cs, cs', g', k1, k2, ne_eq, not_false_eq_true, not_true_eq_false, decide_true, decide_false]
  exact Bt.drop _ hh rfl (by simp only [zEu, Xto, XSf, J9P, JoB, ok_i, Bool.and_true])
theorem ZfM : Spec Tryz.prog 12 KY2 := by
 intro args h v h' e
 unfold KY2 at e
 split at e
 ·rename_i l s t l' s' t'
  obtain ⟨hs, hl, e⟩ := Ksw e
  obtain ⟨xs, hv, e⟩ := Ksw e
  obtain ⟨ds, hd, e⟩ := Ksw e
  obtain ⟨hs', hl', e⟩ := Ksw e
  obtain ⟨xs', hv', e⟩ := Ksw e
  obtain ⟨ds', hd', e⟩ := Ksw e
  split at e
  ·rename_i hL
   have key0 : ∀ v, (∀ h : List AB, Rd Qv2 h l hs → Rd intR h s xs → Rd dotR h t ds → Rd Qv2 h l' hs' → Rd intR h s' xs' → Rd dotR h t' ds' → KY2 [.ag [l, s, t], .ag [l', s', t']] h = some (v, h)) → FnC Tryz.prog 12 [.ag [l, s, t], .ag [l', s', t']] h v h := fun v q => FnAt.c (FnAt.frz0 fun hz => Jmx hz hl.frz hv.frz hd.frz hl'.frz hv'.frz hd'.frz hL.1 hL.2.1 hL.2.2 _ _ (q _ hl.frz hv.frz hd.frz hl'.frz hv'.frz hd'.frz))
   split at e
   ·rename_i c
    cases e
    refine key0 _ fun h hl hv hd hl' hv' hd' => ?_
    simp only [KY2, hl.get, hv.get, hd.get, hl'.get, hv'.get, hd'.get, Option.bind_some]
    rw [if_pos hL, if_pos c]
   ·rename_i c
    split at e
    ·rename_i c1
     cases e
     refine key0 _ fun h hl hv hd hl' hv' hd' => ?_
     simp only [KY2, hl.get, hv.get, hd.get, hl'.get, hv'.get, hd'.get, Option.bind_some]
     rw [if_pos hL, if_neg c, if_pos c1]
    ·rename_i c1
     split at e
     ·rename_i c2
      cases e
      refine key0 _ fun h hl hv hd hl' hv' hd' => ?_
      simp only [KY2, hl.get, hv.get, hd.get, hl'.get, hv'.get, hd'.get, Option.bind_some]
      rw [if_pos hL, if_neg c, if_neg c1, if_pos c2]
     ·rename_i c2
      split at e
      ·rename_i c3
       cases e
       refine key0 _ fun h hl hv hd hl' hv' hd' => ?_
       simp only [KY2, hl.get, hv.get, hd.get, hl'.get, hv'.get, hd'.get, Option.bind_some]
       rw [if_pos hL, if_neg c, if_neg c1, if_neg c2, if_pos c3]
      ·rename_i c3
       cases e
       refine FnAt.c (FnAt.frz fun hz => Jmx hz hl.frz hv.frz hd.frz hl'.frz hv'.frz hd'.frz hL.1 hL.2.1 hL.2.2 _ _ ?_)
       simp only [KY2, hl.frz.get, hv.frz.get, hd.frz.get, hl'.frz.get, hv'.frz.get, hd'.frz.get, Option.bind_some, List.length_map]
       rw [if_pos hL, if_neg c, if_neg c1, if_neg c2, if_neg c3]
  ·cases e
 ·cases e
end Go.Proofs.YtcncpbcbedfakaaGreat
end
section
namespace Go.Proofs.YtcncpbcbedfakaaGreat
set_option maxRecDepth 100000
set_option maxHeartbeats 4000000
noncomputable instance (l l' : List Hd) : Decidable (KRX l l') := Classical.propDecidable _
end Go.Proofs.YtcncpbcbedfakaaGreat
end
section
namespace Go.Proofs.YtcncpbcbedfakaaGreat
section
variable {la lb lc : List Hd} {va vb vc : List Int} {da db dc : Dots}
theorem ZmB (l l' : List Hd) (v v' : List Int) (ds ds' : Dots) : (jnL l l' v v' ds ds').length ≤ 2 * l.length + l'.length := by
 unfold jnL
 rw [qXy]
 unfold jnU
 rw [List.length_append, List.length_append]
 refine Nat.le_trans (Nat.add_le_add (Nat.add_le_add (List.length_filter_le _ l) (show (outG v' ds' l).length ≤ l.length from List.length_filter_le _ _)) (show (outG v ds l').length ≤ l'.length from List.length_filter_le _ _)) ?_
 omega
theorem Xaa (a : RG la va da) (b : RG lb vb db) {m : List Hd} (hr : m.Pairwise J9e) (hm : ∀ x, x ∈ m ↔ x ∈ jnU la lb va vb da db) : m = jnL la lb va vb da db := Jn.uniq ⟨hr, hm⟩ (zPa a b)
theorem ZAN (a : NF va da) {d : Int × Int} (hd : qu1 d) : YoS va (da ++ [d]) := ⟨a.rg.1, a.rg.2.1, fun x hx => by
 rcases List.mem_append.1 hx with q | q
 ·exact a.rg.2.2 x q
 ·rw [List.mem_singleton.1 q]; exact hd⟩
theorem XnG (a : NF va da) {d : Int × Int} (hd : qu1 d) : NF (mkO va da d).1 (mkO va da d).2 := NF.fm (ZAN a hd)
theorem KmN (a : NF va da) {d : Int × Int} (hd : qu1 d) : (mkO va da d).2.length ≤ da.length + 1 := by
 have := zp4 (ZAN a hd)
 rw [List.length_append] at this
 exact this
end
end Go.Proofs.YtcncpbcbedfakaaGreat
end
section
namespace Go.Proofs.YtcncpbcbedfakaaGreat
set_option maxRecDepth 100000
set_option maxHeartbeats 4000000
theorem QeU {hs : List Hd} {v : List Int} {ds : Dots} {d : Int × Int} {v' : List Int} {ds' : Dots} (c1 : KwI hs v ds = 0) (c2 : qu1 d) (c3 : Zmz v' ds' = 0) (c4 : ¬ YC0 v ds d) (c5 : ¬ YC0 v' ds' d) (c6 : (Zjt v v' ds ds').2.length ≤ 4096) (c7 : (mkO (Zjt v v' ds ds').1 (Zjt v v' ds ds').2 d).2.length ≤ 4096) : wrE hs v ds d v' ds' = 0 := by
 unfold wrE
 rw [if_neg (not_not_intro c1), if_neg (not_not_intro c2), if_neg (not_not_intro c3), if_neg (fun q => q.elim c4 c5), if_neg (not_not_intro c6), if_neg (not_not_intro c7)]
end Go.Proofs.YtcncpbcbedfakaaGreat
end
section
namespace Go.Proofs.YtcncpbcbedfakaaGreat
set_option maxRecDepth 100000
set_option maxHeartbeats 4000000
def dgB (n : Int) : Dg := ⟨UInt8.ofInt n :: List.replicate 31 0, by simp⟩
theorem zYw {n : Int} (h : 0 ≤ n ∧ n < 256) : idR.f (dgB n) = .i .u8 n :: List.replicate 31 (.i .u8 0) := by
 have e : ((UInt8.ofInt n).toNat : Int) = n := by
  simp [UInt8.ofInt]
  omega
 show u8A (UInt8.ofInt n) :: (List.replicate 31 (0 : UInt8)).map u8A = _
 unfold u8A
 rw [e]
 rfl
def ZHx : List AV → List AB → Option (AV × List AB)
 | [.i .i64 a, .i .i64 b], h => some (.ag [.i .i64 a, .i .i64 b], h)
 | _, _ => none
theorem JLs : Spec Tryz.prog 34 ZHx := by
 intro args h v h' e
 unfold ZHx at e
 split at e
 ·cases e
  refine FnAt.c (FnAt.run (by kernel_rfl) (T := ⟨[], []⟩) ⟨trivial, trivial⟩ Tryz.func34 sw34 fun ho hh => ?_)
  unfold w34
  simp only [X7f, KtR, YUa, XuN, simprocAttr]
  exact Bt.drop _ hh rfl (by simp only [zEu, Xto, XSf, J9P, JoB, ok_i, Bool.and_true])
 ·cases e
def Y6U : List AV → List AB → Option (AV × List AB)
 | [.i .u8 n, .i .i64 a, .i .i64 b], h => if 0 ≤ n ∧ n < 256 then some (.ag (Qv2.f ((a, b), dgB n)), h) else none
 | _, _ => none
theorem qTk : Spec Tryz.prog 32 Y6U := by
 intro args h v h' e
 unfold Y6U at e
 split at e
 ·rename_i n a b
  split at e
  ·rename_i hn
   cases e
   refine FnAt.c (FnAt.run (by kernel_rfl) (T := ⟨[⟨34, ZHx, fun _ => []⟩], []⟩) ⟨⟨JLs, trivial⟩, trivial⟩ Tryz.func32 sw32 fun ho hh => ?_)
   unfold w32
   rw [Xjz, zYw hn]
   simp only [X7f, KtR, YUa, XuN, simprocAttr, ZHx]
   exact Bt.drop _ hh rfl (by simp only [zEu, Xto, XSf, J9P, JoB, ok_i, Bool.and_true])
  ·cases e
 ·cases e
noncomputable def ZKE : List AV → List AB → Option (AV × List AB)
 | [.i .i64 a, .i .i64 b, s], h => if YoS [a, b] [] ∧ s.isSl = true then some (.ag [s, rsl intR h.length (fmO [a, b] []).1, rsl dotR (h.length + 1) (fmO [a, b] []).2], h ++ [resB intR true (fmO [a, b] []).1, resB dotR true (fmO [a, b] []).2]) else none
 | _, _ => none
theorem zRK : Spec Tryz.prog 31 ZKE := by
 intro args h v h' e
 unfold ZKE at e
 split at e
 ·rename_i a b s
  split at e
  ·rename_i hr
   cases e
   refine FnAt.c (FnAt.run (by kernel_rfl) (T := ⟨[⟨58, Q02, fun _ => []⟩], []⟩) ⟨⟨KV7, trivial⟩, trivial⟩ Tryz.func31 sw31 fun ho hh => ?_)
   simp only [Xto, Bool.and_eq_true] at ho
   have os := ho.2.2.1
   have hr1 := eq_true hr.1
   have fs : ∀ c, s.ok (fun i => decide (i < h.length + c)) = true := fun c => AV.ok_mono (fun i q => by simp only [decide_eq_true_eq] at q ⊢; omega) s os
   have fr : ∀ sel, Wk (s.ren (selN h.length sel)) s := fun sel => Wk.ren (fun i hi => q8q hi) os
   have gu : ∀ (L : List AB) (k : Nat), ownC L k = some [.i .i64 a, .i .i64 b] → getS intR (h ++ L) (.sl (h.length + k) 0 2 2 none) = some [a, b] := fun L k q => (QYK (r := intR) (n := 2) (l := [a, b]) q (by unfold maxLen; simp) (by simp)).get
   have f0 : (([] : Dots).length ≤ 100000) = True := eq_true (Nat.zero_le _)
   have f4 : ((fmO [a, b] []).2.length ≤ 4096) = True := eq_true (Nat.le_trans (zp4 hr.1) (Nat.zero_le _))
   unfold w31
   simp only [X7f, KtR, YUa, XuN, simprocAttr, Q02, gu, f0, f4, hr1, YOD hr.2, qLb hr.2, Xbq hr.2]
   have wag : ∀ sel A B, Wk (.ag [s.ren (selN h.length sel), A, B]) (.ag [s, A, B]) = True := fun sel A B => eq_true (zBJ ⟨fr sel, Wk.refl _, Wk.refl _, trivial⟩)
   exact Bt.sel [2, 3] hh (by decide) (by simp only [qpr, FrSel, BlkSel, AV.ren, renL, AV.ok, okL, Option.some.injEq, exists_eq_left', List.length_cons, List.length_nil, Nat.reduceAdd, Nat.reduceLT, reduceCtorEq, implies_true, exists_eq']) (by simp only [qpr, FrSel, BlkSel, AV.ren, renL, AV.ok, okL, Option.some.injEq, exists_eq_left', List.length_cons, List.length_nil, Nat.reduceAdd, Nat.reduceLT, reduceCtorEq, implies_true, exists_eq', fs, fr, wag])
  ·cases e
 ·cases e
def fldV (off : Nat) (sz : Option Nat) : AV → Option AV
 | .ag l => match sz with
  | none => l[off]?
  | some n => some (.ag ((l.drop off).take n))
 | _ => none
theorem Q2m {T : Env} {fr : List AV} {h : List AB} (off : Nat) (sz : Option Nat) (x : Opd) : opR T (.fld off sz x) fr h = (fldV off sz (x.ev fr)).map (·, h) := by
 show (match x.ev fr with | .ag l => _ | _ => _) = _
 unfold fldV
 split
 ·cases sz with
  | none => rfl
  | some n => rfl
 ·rfl
noncomputable def XiX : List AV → List AB → Option (AV × List AB)
 | [.i .i64 a, .i .i64 b], h => if YoS [a, b] [] then some (.ag [rsl intR h.length (fmO [a, b] []).1, rsl dotR (h.length + 1) (fmO [a, b] []).2], h ++ [resB intR true (fmO [a, b] []).1, resB dotR true (fmO [a, b] []).2]) else none
 | _, _ => none
theorem J6p : Spec Tryz.prog 35 XiX := by
 intro args h v h' e
 unfold XiX at e
 split at e
 ·rename_i a b
  split at e
  ·rename_i hr
   cases e
   refine FnAt.c (FnAt.run (by kernel_rfl) (T := ⟨[⟨31, ZKE, fun _ => []⟩], []⟩) ⟨⟨zRK, trivial⟩, trivial⟩ Tryz.func35 sw35 fun ho hh => ?_)
   have hr1 := eq_true hr
   unfold w35
   simp only [X7f, KtR, YUa, XuN, simprocAttr, ZKE, nsSl, hr1, Q2m, fldV]
   exact Bt.sel [1, 2] hh (by decide) (by simp only [qpr, FrSel, BlkSel, AV.ren, renL, AV.ok, okL, Option.some.injEq, exists_eq_left', List.length_cons, List.length_nil, Nat.reduceAdd, Nat.reduceLT, reduceCtorEq, implies_true, exists_eq']) (by simp only [qpr, FrSel, BlkSel, AV.ren, renL, AV.ok, okL, Option.some.injEq, exists_eq_left', List.length_cons, List.length_nil, Nat.reduceAdd, Nat.reduceLT, reduceCtorEq, implies_true, exists_eq'])
  ·cases e
 ·cases e
def wrB (hs : List Hd) (v : List Int) (ds : Dots) (x : Hd) (v' : List Int) (ds' : Dots) (hw : List Hd) (vw : List Int) (dw : Dots) (er : Int) : Prop :=
 wrE hs v ds x.1 v' ds' = er ∧ ((wrE hs v ds x.1 v' ds' = 0 ∧ wrL hs v' ds' x = hw ∧ (mkO (Zjt v v' ds ds').1 (Zjt v v' ds ds').2 x.1).1 = vw ∧ (mkO (Zjt v v' ds ds').1 (Zjt v v' ds ds').2 x.1).2 = dw) ∨ (wrE hs v ds x.1 v' ds' ≠ 0 ∧ [] = hw ∧ [] = vw ∧ [] = dw))
noncomputable instance (hs : List Hd) (v : List Int) (ds : Dots) (x : Hd) (v' : List Int) (ds' : Dots) (hw : List Hd) (vw : List Int) (dw : Dots) (er : Int) : Decidable (wrB hs v ds x v' ds' hw vw dw er) := Classical.propDecidable _
noncomputable def XKO : List AV → List AB → Option (AV × List AB)
 | [.ag [l, s, t], .ag [.i .i64 a, .i .i64 b], .i .u8 n, .ag [s', t'], .ag [lw, sw, tw], .i .i64 er], h => (getS Qv2 h l).bind fun hs => (getS intR h s).bind fun v => (getS dotR h t).bind fun ds => (getS intR h s').bind fun v' => (getS dotR h t').bind fun ds' => (getS Qv2 h lw).bind fun hw => (getS intR h sw).bind fun vw => (getS dotR h tw).bind fun dw =>
   if hs.length ≤ 1000 ∧ t.capOk = true ∧ t'.capOk = true ∧ 0 ≤ n ∧ n < 256 then some (.b (decide (wrB hs v ds ((a, b), dgB n) v' ds' hw vw dw er)), h) else none
 | _, _ => none
theorem KxQ : Spec Tryz.prog 33 XKO := by
 intro args h v h' e
 unfold XKO at e
 split at e
 ·rename_i l s t a b n s' t' lw sw tw er
  obtain ⟨hs, hl, e⟩ := Ksw e
  obtain ⟨xs, hv, e⟩ := Ksw e
  obtain ⟨ds, hd, e⟩ := Ksw e
  obtain ⟨xs', hv', e⟩ := Ksw e
  obtain ⟨ds', hd', e⟩ := Ksw e
  obtain ⟨hw, hlw, e⟩ := Ksw e
  obtain ⟨vw, hvw, e⟩ := Ksw e
  obtain ⟨dw, hdw, e⟩ := Ksw e
  split at e
  ·rename_i hc
   obtain ⟨hL, k1, k2, hn⟩ := hc
   cases e
   refine FnAt.c (FnAt.run (by kernel_rfl) (T := ⟨[⟨18, Z6Z, fun _ => []⟩, ⟨14, QWB, fun _ => []⟩], []⟩) ⟨⟨Yjt, Jmh, trivial⟩, trivial⟩ Tryz.func33 sw33 fun ho hh => ?_)
   simp only [Xto, J9P, Bool.and_eq_true] at ho
   have f1 := hl.fx ho.1.1 (sz := 34) rfl
   have f2 := hv.fx ho.1.2.1 (sz := 1) rfl
   have f3 := hd.fx ho.1.2.2.1 (sz := 2) rfl
   have f4 := hv'.fx ho.2.2.2.1.1 (sz := 1) rfl
   have f5 := hd'.fx ho.2.2.2.1.2.1 (sz := 2) rfl
   have f6 := hlw.fx ho.2.2.2.2.1.1 (sz := 34) rfl
   have f7 := hvw.fx ho.2.2.2.2.1.2.1 (sz := 1) rfl
   have f8 := hdw.fx ho.2.2.2.2.1.2.2.1 (sz := 2) rfl
   have hL2 : (hs.length ≤ 100000) = True := eq_true (by omega)
   have gi : getI (.ag (.i .u8 n :: List.replicate 31 (.i .u8 0))) = some (dgB n) := by rw [← zYw hn]; exact zJO _
   simp only [X7f, KtR] at gi
   unfold w33
   by_cases hE : wrE hs xs ds (a, b) xs' ds' = 0
   ·obtain ⟨c1, c2, c3, c4, c5, c6, c7⟩ := zQ5 hE
    have ra := XFh.1 c1
    have nm := XnG (qBh ra.nf (YIm c3)) c2
    have n0 := zfL hs xs' ds' ((a, b), dgB n)
    have n1 : ((wrL hs xs' ds' ((a, b), dgB n)).length ≤ 1000000) = True := eq_true (by omega)
    have n2 : ((mkO (Zjt xs xs' ds ds').1 (Zjt xs xs' ds ds').2 (a, b)).1.length ≤ 1000000) = True := eq_true (by have := nm.rg.1; omega)
    have n3 : ((mkO (Zjt xs xs' ds ds').1 (Zjt xs xs' ds ds').2 (a, b)).2.length ≤ 1000000) = True := eq_true (by omega)
    simp only [X7f, KtR, YUa, YOR, XuN, simprocAttr, CO.tmps, Opd.tmps, optT, Nat.reducePow, Nat.reduceDiv, Nat.reduceMod, f1, f2, f3, f4, f5, f6, f7, f8, Z6Z, QWB, gi, hE, hL2, k1, k2, n1, n2, n3, qHz, ne_eq, not_false_eq_true, not_true_eq_false, decide_true, decide_false]
    exact ⟨fun q => Bt.dropB _ hh (decide_eq_decide.2 ⟨fun z => ⟨hE.trans q, .inl ⟨hE, z⟩⟩, fun z => z.2.elim (fun w => w.2) fun w => absurd hE w.1⟩), fun q => Bt.dropB _ hh (decide_eq_false fun z => q (hE.symm.trans z.1)).symm⟩
   ·have hE' := eq_false hE
    simp only [X7f, KtR, YUa, YOR, XuN, simprocAttr, CO.tmps, Opd.tmps, optT, Nat.reducePow, Nat.reduceDiv, Nat.reduceMod, f1, f2, f3, f4, f5, f6, f7, f8, Z6Z, QWB, gi, hE', hL2, k1, k2, Z3S, ne_eq, not_false_eq_true, not_true_eq_false, decide_true, decide_false]
    exact ⟨fun q => Bt.dropB _ hh (decide_eq_decide.2 ⟨fun z => ⟨q, .inr ⟨hE, z⟩⟩, fun z => z.2.elim (fun w => absurd w.1 hE) fun w => w.2⟩), fun q => Bt.dropB _ hh (decide_eq_false fun z => q z.1).symm⟩
  ·cases e
 ·cases e
def jnB (hs : List Hd) (v : List Int) (ds : Dots) (hs' : List Hd) (v' : List Int) (ds' : Dots) (hw : List Hd) (vw : List Int) (dw : Dots) (er : Int) : Prop :=
 (KwI hs v ds = 0 ∧ KwI hs' v' ds' = 0) ∧ (Zjt v v' ds ds').2.length ≤ 4096 ∧ ((¬ KRX hs hs' ∧ er = 9 ∧ [] = hw ∧ [] = vw ∧ [] = dw) ∨ (KRX hs hs' ∧ er = 0 ∧ jnL hs hs' v v' ds ds' = hw ∧ (Zjt v v' ds ds').1 = vw ∧ (Zjt v v' ds ds').2 = dw))
open Classical in
noncomputable def YW5 : List AV → List AB → Option (AV × List AB)
 | [.ag [l, s, t], .ag [l', s', t'], .ag [lw, sw, tw], .i .i64 er], h => (getS Qv2 h l).bind fun hs => (getS intR h s).bind fun v => (getS dotR h t).bind fun ds => (getS Qv2 h l').bind fun hs' => (getS intR h s').bind fun v' => (getS dotR h t').bind fun ds' => (getS Qv2 h lw).bind fun hw => (getS intR h sw).bind fun vw => (getS dotR h tw).bind fun dw =>
   if (hs.length ≤ 1000 ∧ hs'.length ≤ 1000) ∧ t.capOk = true ∧ t'.capOk = true ∧ jnB hs v ds hs' v' ds' hw vw dw er then some (.b true, h) else none
 | _, _ => none
theorem Keq : Spec Tryz.prog 36 YW5 := by
 intro args h v h' e
 unfold YW5 at e
 split at e
 ·rename_i l s t l' s' t' lw sw tw er
  obtain ⟨hs, hl, e⟩ := Ksw e
  obtain ⟨xs, hv, e⟩ := Ksw e
  obtain ⟨ds, hd, e⟩ := Ksw e
  obtain ⟨hs', hl', e⟩ := Ksw e
  obtain ⟨xs', hv', e⟩ := Ksw e
  obtain ⟨ds', hd', e⟩ := Ksw e
  obtain ⟨hw, hlw, e⟩ := Ksw e
  obtain ⟨vw, hvw, e⟩ := Ksw e
  obtain ⟨dw, hdw, e⟩ := Ksw e
  split at e
  ·rename_i hc
   obtain ⟨⟨hL, hL'⟩, k1, k2, ⟨c1, c2⟩, g, hj⟩ := hc
   cases e
   refine FnAt.c (FnAt.run (by kernel_rfl) (T := ⟨[⟨12, KY2, fun _ => []⟩, ⟨14, QWB, fun _ => []⟩], []⟩) ⟨⟨ZfM, Jmh, trivial⟩, trivial⟩ Tryz.func36 sw36 fun ho hh => ?_)
   simp only [Xto, J9P, Bool.and_eq_true] at ho
   have f1 := hl.fx ho.1.1 (sz := 34) rfl
   have f2 := hv.fx ho.1.2.1 (sz := 1) rfl
   have f3 := hd.fx ho.1.2.2.1 (sz := 2) rfl
   have f4 := hl'.fx ho.2.1.1 (sz := 34) rfl
   have f5 := hv'.fx ho.2.1.2.1 (sz := 1) rfl
   have f6 := hd'.fx ho.2.1.2.2.1 (sz := 2) rfl
   have f7 := hlw.fx ho.2.2.1.1 (sz := 34) rfl
   have f8 := hvw.fx ho.2.2.1.2.1 (sz := 1) rfl
   have f9 := hdw.fx ho.2.2.1.2.2.1 (sz := 2) rfl
   have hL1 : (hs.length ≤ 10000) = True := eq_true (by omega)
   have hL2 : (hs'.length ≤ 10000) = True := eq_true (by omega)
   have g' := eq_true g
   have n0 := ZmB hs hs' xs xs' ds ds'
   have nj := qBh (XFh.1 c1).nf (XFh.1 c2).nf
   unfold w36
   rcases hj with ⟨j1, rfl, rfl, rfl, rfl⟩ | ⟨j1, rfl, rfl, rfl, rfl⟩
   ·have j1' := eq_false j1
    simp only [X7f, KtR, YUa, YOR, XuN, simprocAttr, CO.tmps, Opd.tmps, optT, Nat.reducePow, Nat.reduceDiv, Nat.reduceMod, f1, f2, f3, f4, f5, f6, f7, f8, f9, KY2, QWB, c1, c2, j1', hL1, hL2, k1, k2, g', Z3S, and_self, eq_self, ne_eq, not_false_eq_true, not_true_eq_false, decide_true, decide_false]
    exact Bt.dropB _ hh rfl
   ·have j1' := eq_true j1
    have n1 : ((jnL hs hs' xs xs' ds ds').length ≤ 1000000) = True := eq_true (by omega)
    have n2 : ((Zjt xs xs' ds ds').1.length ≤ 1000000) = True := eq_true (by have := nj.rg.1; omega)
    have n3 : ((Zjt xs xs' ds ds').2.length ≤ 1000000) = True := eq_true (by omega)
    simp only [X7f, KtR, YUa, YOR, XuN, simprocAttr, CO.tmps, Opd.tmps, optT, Nat.reducePow, Nat.reduceDiv, Nat.reduceMod, f1, f2, f3, f4, f5, f6, f7, f8, f9, KY2, QWB, c1, c2, j1', hL1, hL2, k1, k2, g', n1, n2, n3, qHz, and_self, eq_self, ne_eq, not_false_eq_true, not_true_eq_false, decide_true, decide_false]
    exact Bt.dropB _ hh rfl
  ·cases e
 ·cases e
end Go.Proofs.YtcncpbcbedfakaaGreat
end
section
namespace Go.Proofs.YtcncpbcbedfakaaGreat
set_option maxRecDepth 100000
theorem QHZ {v : List Int} {ds : Dots} (c : Zmz v ds = 0) : KwI [] v ds = 0 := XFh.2 ⟨YIm c, (Ym2 c).2.1, List.Pairwise.nil, fun x h => by cases h⟩
theorem ZPi {v : List Int} {ds : Dots} {x : Hd} (c : Zmz v ds = 0) (h : YC0 v ds x.1) : KwI [x] v ds = 0 := XFh.2 ⟨YIm c, (Ym2 c).2.1, List.pairwise_singleton _ _, fun y hy => by
 rw [List.mem_singleton.1 hy]
 exact (Zga (YIm c).rg _).1 h⟩
theorem YcR {v : List Int} {ds : Dots} {x y : Hd} (c : Zmz v ds = 0) (hx : YC0 v ds x.1) (hy : YC0 v ds y.1) (hxy : X1k x.1 y.1) : KwI [x, y] v ds = 0 := XFh.2 ⟨YIm c, (Ym2 c).2.1, List.pairwise_cons.2 ⟨fun z hz => by rw [List.mem_singleton.1 hz]; exact hxy, List.pairwise_singleton _ _⟩, fun z hz => by
 rcases List.mem_cons.1 hz with rfl | hz
 ·exact (Zga (YIm c).rg _).1 hx
 ·rw [List.mem_singleton.1 hz]
  exact (Zga (YIm c).rg _).1 hy⟩
abbrev x4 : Hd := ((1, 1), dgB 4)
abbrev x5 : Hd := ((2, 1), dgB 5)
theorem m00 : fmO [0, 0] [] = ([], []) := by decide
theorem m10 : fmO [1, 0] [] = ([1], []) := by decide
theorem m01 : fmO [0, 1] [] = ([0, 1], []) := by decide
theorem m11 : fmO [1, 1] [] = ([1, 1], []) := by decide
theorem k00 : Zmz [] [] = 0 := by decide
theorem k10 : Zmz [1] [] = 0 := by decide
theorem k01 : Zmz [0, 1] [] = 0 := by decide
theorem k11 : Zmz [1, 1] [] = 0 := by decide
theorem r00 : YoS [0, 0] [] := by decide
theorem r10 : YoS [1, 0] [] := by decide
theorem r01 : YoS [0, 1] [] := by decide
theorem r11 : YoS [1, 1] [] := by decide
theorem g10 : KwI [x4] [1] [] = 0 := ZPi k10 (by decide)
theorem g01 : KwI [x5] [0, 1] [] = 0 := ZPi k01 (by decide)
theorem g11 : KwI [x4, x5] [1, 1] [] = 0 := YcR k11 (by decide) (by decide) (by decide)
theorem Jgk (v : List Int) (ds : Dots) : outL v ds [] = [] := rfl
theorem JfT {v : List Int} {ds : Dots} {x : Hd} {l : List Hd} (h : Zmz v ds = 0 ∧ YC0 v ds x.1) : outL v ds (x :: l) = outL v ds l := by
 unfold outL
 rw [List.filter_cons, if_neg (by rw [decide_eq_true_eq]; exact not_not_intro h)]
theorem zV8 (x : Hd) : layG J9e [] x = [x] := rfl
theorem a1 : wrB [] [] [] x4 [] [] [x4] [1] [] 0 := by
 have h : wrE [] [] [] x4.1 [] [] = 0 := QeU (QHZ k00) (by decide) k00 (by decide) (by decide) (by decide) (by decide)
 refine ⟨h, .inl ⟨h, ?_, by decide, by decide⟩⟩
 unfold wrL
 rw [Jgk, zV8]
theorem a2 : wrB [x4] [1] [] x5 [1] [] [x5] [1, 1] [] 0 := by
 have h : wrE [x4] [1] [] x5.1 [1] [] = 0 := QeU g10 (by decide) k10 (by decide) (by decide) (by decide) (by decide)
 refine ⟨h, .inl ⟨h, ?_, by decide, by decide⟩⟩
 unfold wrL
 rw [JfT (by decide), Jgk, zV8]
theorem a3 : jnB [x4] [1] [] [x5] [0, 1] [] [x4, x5] [1, 1] [] 0 := by
 have g : KRX [x4] [x5] := fun x hx y hy e => by
  rw [List.mem_singleton.1 hx, List.mem_singleton.1 hy] at e
  exact absurd e (by decide)
 refine ⟨⟨g10, g01⟩, by decide, .inr ⟨g, rfl, ?_, by decide, by decide⟩⟩
 refine (Xaa (XFh.1 g10) (XFh.1 g01) (XFh.1 g11).rise fun x => ?_).symm
 have n1 : ¬ inC [0, 1] [] (1, 1) := fun q => absurd ((Zga (YIm k01).rg _).2 q) (by decide)
 have n2 : ¬ inC [1] [] (2, 1) := fun q => absurd ((Zga (YIm k10).rg _).2 q) (by decide)
 rw [ZAP g]
 simp only [List.mem_cons, List.not_mem_nil, or_false]
 constructor
 ·rintro (rfl | rfl)
  ·exact .inr (.inl ⟨rfl, n1⟩)
  ·exact .inr (.inr ⟨rfl, n2⟩)
 ·rintro (⟨q, _⟩ | ⟨q, _⟩ | ⟨q, _⟩)
  ·exact .inl q
  ·exact .inl q
  ·exact .inr q
theorem a4 : jnB [x4] [1] [] [] [1] [] [] [1] [] 0 := by
 have g : KRX [x4] [] := fun x hx y hy e => by cases hy
 refine ⟨⟨g10, QHZ k10⟩, by decide, .inr ⟨g, rfl, ?_, by decide, by decide⟩⟩
 refine (Xaa (XFh.1 g10) (XFh.1 (QHZ k10)) List.Pairwise.nil fun x => ?_).symm
 have n1 : inC [1] [] (1, 1) := (Zga (YIm k10).rg _).1 (by decide)
 rw [ZAP g]
 simp only [List.mem_cons, List.not_mem_nil, or_false, false_iff]
 rintro (⟨_, q⟩ | ⟨q, q2⟩ | ⟨q, _⟩)
 ·exact q
 ·subst q; exact q2 n1
 ·exact q
end Go.Proofs.YtcncpbcbedfakaaGreat
end
