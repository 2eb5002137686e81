/- Part 27 of what the laws' proofs rest on. No condition. -/
import Derived.Test.YtcncpbcbedfakaaGreatRo26
set_option linter.all false
section
namespace Go.Proofs.YtcncpbcbedfakaaGreat
set_option maxRecDepth 100000
set_option maxHeartbeats 4000000
def ixaV (k sz : Nat) (agg : Bool) : AV → AV → Option AV
 | .ag l, .i _ n => if 0 ≤ n ∧ n < k then (if agg then some (.ag ((l.drop (n.toNat * sz)).take sz)) else l[n.toNat * sz]?) else none
 | _, _ => none
theorem JY8 {T : Env} {fr : List AV} {h : List AB} (k sz : Nat) (agg : Bool) (x i : Opd) : opR T (.ixa k sz agg x i) fr h = (ixaV k sz agg (x.ev fr) (i.ev fr)).map (·, h) := by
 show (match x.ev fr, i.ev fr with | .ag l, .i _ n => _ | _, _ => _) = _
 unfold ixaV
 split
 ·split
  ·split <;> rfl
  ·rfl
 ·rfl
noncomputable def qsV : List AV → List AB → Option (AV × List AB)
 | [s, f], h => if s.isNs = true then qWe [.ns, f] h else q7G [s, f] h
 | _, _ => none
def wsA : List AV → List Nat
 | [s, _] => idOf s
 | _ => []
theorem zBs : Spec Tryz.prog 45 qsV := by
 intro args h v h' e
 unfold qsV at e
 split at e
 ·rename_i s f
  split at e
  ·rename_i hn
   have : s = .ns := by cases s <;> first | rfl | cases hn
   subst this
   exact Kl5 _ _ _ _ e
  ·exact zXd _ _ _ _ e
 ·cases e
theorem J3P {α : Type} {r : Row α} (id : Nat) (l : List α) : (rsl r id l).isNs = false := by unfold rsl; split <;> rfl
noncomputable def jnL (l l' : List Hd) (v v' : List Int) (ds ds' : Dots) : List Hd := XWe cfH (jnU l l' v v' ds ds')
theorem Xki {l l' : List Hd} {v v' : List Int} {ds ds' : Dots} (a : RG l v ds) (b : RG l' v' ds') : Jn l l' v v' ds ds' (jnL l l' v v' ds ds') := ⟨XlI (KMp a b), fun x => ZK2 _ x⟩
open Classical in
noncomputable def QSh : List AV → List AB → Option (AV × List AB)
 | [.ag [l, s, t], .ag [l', s', t']], h => (getS Kd6 h l).bind fun hs => (getS intR h s).bind fun v => (getS dotR h t).bind fun ds => (getS Kd6 h l').bind fun hs' => (getS intR h s').bind fun v' => (getS dotR h t').bind fun ds' =>
   if (hs.length ≤ 10000 ∧ hs'.length ≤ 10000) ∧ t.capOk = true ∧ t'.capOk = true then
    if QeQ hs v ds ≠ 0 then some (.tu [.ag [.ns, .ns, .ns], .i .i64 (QeQ hs v ds)], h)
    else if QeQ hs' v' ds' ≠ 0 then some (.tu [.ag [.ns, .ns, .ns], .i .i64 (QeQ hs' v' ds')], h)
    else if ¬ agreeP hs hs' then some (.tu [.ag [.ns, .ns, .ns], .i .i64 9], h)
    else if ¬ (z9r v v' ds ds').2.length ≤ 4096 then some (.tu [.ag [.ns, .ns, .ns], .i .i64 10], h)
    else some (.tu [.ag [rsl Kd6 h.length (jnL hs hs' v v' ds ds'), rsl intR (h.length + 1) (z9r v v' ds ds').1, rsl dotR (h.length + 2) (z9r v v' ds ds').2], .i .i64 0], h ++ [resB Kd6 true (jnL hs hs' v v' ds ds'), resB intR true (z9r v v' ds ds').1, resB dotR true (z9r v v' ds ds').2])
   else none
 | _, _ => none
theorem QK2 (f : AV) : wsA [.ns, f] = [] := _root_.id rfl
theorem ZuS {α : Type} {r : Row α} (i : Nat) (l : List α) (f : AV) : wsA [rsl r i l, f] = [i] := Qqr i l
theorem KWr (h L : List AB) (k : Nat) (cs : List AV) : bxc (h ++ L) (h.length + k) cs = h ++ L.set k (.blk false true cs) := Yig L k _
theorem QwX {h : List AB} {l v d : AV} {hs : List Hd} {vs : List Int} {ds : Dots} (h1 : Rd Kd6 h l hs) (h2 : Rd intR h v vs) (h3 : Rd dotR h d ds) (hL : hs.length ≤ 100000) (L : List AB) (a b : Nat) (b1 : bxL L a = some l) (b2 : ownC L b = some [v, d]) :
  qsV [.ns, .f (.func 81) [] [.p (h.length + a) 0, .p (h.length + b) 0]] (h ++ L) = some (apS Kd6 (h.length + L.length) (outL vs ds hs), h ++ (L ++ [resB Kd6 true (outL vs ds hs)])) := by
 unfold qsV
 dsimp only
 rw [if_pos (show AV.ns.isNs = true from rfl)]
 simp only [qWe, ZrY b1 b2 (h1.app L).get (h2.app L).get (h3.app L).get, Option.bind_some]
 rw [if_pos hL, List.length_append, List.append_assoc]
open Classical in
theorem Kdu {h : List AB} {l v d : AV} {hs : List Hd} {vs : List Int} {ds : Dots} (h1 : Rd Kd6 h l hs) (h2 : Rd intR h v vs) (h3 : Rd dotR h d ds) (hL : hs.length ≤ 100000) {o : List Hd} (h0 : o ≠ []) (ho : o.length ≤ 100000) (L : List AB) (k a b : Nat) (hk : L[k]? = some (resB Kd6 true o)) (b1 : bxL (L.set k .dead) a = some l) (b2 : ownC (L.set k .dead) b = some [v, d]) :
  qsV [rsl Kd6 (h.length + k) o, .f (.func 81) [] [.p (h.length + a) 0, .p (h.length + b) 0]] (h ++ L) = if outL vs ds hs = [] then some (rsl Kd6 (h.length + k) o, h ++ L) else some (apS Kd6 (h.length + L.length) (o ++ outL vs ds hs), h ++ (L.set k .dead ++ [resB Kd6 true (o ++ outL vs ds hs)])) := by
 have e : qsV [rsl Kd6 (h.length + k) o, .f (.func 81) [] [.p (h.length + a) 0, .p (h.length + b) 0]] (h ++ L) = q7G [rsl Kd6 (h.length + k) o, .f (.func 81) [] [.p (h.length + a) 0, .p (h.length + b) 0]] (h ++ L) := by
  unfold qsV
  dsimp only
  rw [J3P, if_neg (by decide)]
 have hk2 : (h ++ L)[h.length + k]? = some (resB Kd6 true o) := by rw [KET]; exact hk
 have hg := (K0f hk2 (by unfold maxLen; omega)).get
 rw [e]
 simp only [q7G, Qqr, hg, Option.bind_some, Yig]
 rw [if_pos ⟨trivial, h0, hk2, ho⟩, ZrY b1 b2 (h1.app _).get (h2.app _).get (h3.app _).get]
 simp only [Option.bind_some]
 rw [if_pos hL, List.length_append, List.append_assoc]
theorem Zxg {α : Type} {p : α → Prop} [DecidablePred p] {l : List α} (h : idx p l < 0) : ¬ ∃ x ∈ l, p x := fun q => by
 have := (zwE p l).2 q
 omega
theorem JwO {α : Type} (p : α → Prop) [DecidablePred p] (d : α) : ∀ (l : List α) (n : Nat), 0 ≤ JFo p l n → ∃ j, j < l.length ∧ JFo p l n = ((n + j : Nat) : Int) ∧ p (l.getD j d)
 | [], n, h => by simp [JFo] at h
 | a :: l, n, h => by
  unfold JFo at h ⊢
  split
  ·rename_i q
   exact ⟨0, by simp, by simp, by simpa using q⟩
  ·rename_i q
   rw [if_neg q] at h
   obtain ⟨j, h1, h2, h3⟩ := JwO p d l (n + 1) h
   exact ⟨j + 1, by simpa using h1, by rw [h2]; congr 1; omega, by simpa using h3⟩
theorem XIW {α : Type} {p : α → Prop} [DecidablePred p] (d : α) {l : List α} (h : ¬ idx p l < 0) : ∃ j, j < l.length ∧ idx p l = (j : Int) ∧ p (l.getD j d) := by
 obtain ⟨j, h1, h2, h3⟩ := JwO p d l 0 (by unfold idx at h; omega)
 exact ⟨j, h1, by unfold idx; rw [h2, Nat.zero_add], h3⟩
open Classical in
noncomputable def q24 (l l' : List Hd) : List Hd := l.filter fun x => decide (∃ y ∈ l', y.1 = x.1)
theorem XJi {l l' : List Hd} {i : Nat} (h : i < l.length) : q24 (l.take (i + 1)) l' = q24 (l.take i) l' ++ (if ∃ y ∈ l', y.1 = (l.getD i Kd6.d).1 then [l.getD i Kd6.d] else []) := by
 unfold q24
 rw [List.take_succ_eq_append_getElem h, List.filter_append, List.getD_eq_getElem?_getD, List.getElem?_eq_getElem h]
 simp only [Option.getD_some, List.filter_cons, List.filter_nil, decide_eq_true_eq]
theorem ZXT (l l' : List Hd) (i : Nat) : (q24 (l.take i) l').length ≤ i := Nat.le_trans (List.length_filter_le _ _) (by rw [List.length_take]; omega)
theorem qI0 {h : List AB} (hz : h.map AB.freeze = h) {l s t l' s' t' : AV} {hs hs' : List Hd} {xs xs' : List Int} {ds ds' : Dots} (hl : Rd Kd6 h l hs) (hv : Rd intR h s xs) (hd : Rd dotR h t ds) (hl' : Rd Kd6 h l' hs') (hv' : Rd intR h s' xs') (hd' : Rd dotR h t' ds') (hL : hs.length ≤ 10000 ∧ hs'.length ≤ 10000) (k1 : t.capOk = true) (k2 : t'.capOk = true) (v : AV) (h' : List AB) (e : QSh [.ag [l, s, t], .ag [l', s', t']] h = some (v, h')) :
  FnAt Tryz.prog 12 [.ag [l, s, t], .ag [l', s', t']] h v h' := by
 simp only [QSh, hl.get, hv.get, hd.get, hl'.get, hv'.get, hd'.get, Option.bind_some] at e
 rw [if_pos ⟨hL, k1, k2⟩] at e
 refine FnAt.run (by kernel_rfl) (T := ⟨[⟨27, K5v, fun _ => []⟩, ⟨43, QKJ, fun _ => []⟩, ⟨46, qBy, fun _ => []⟩, ⟨47, XEV, ws1⟩, ⟨48, K1E, fun _ => []⟩, ⟨49, QRo, fun _ => []⟩, ⟨45, qsV, wsA⟩], []⟩) ⟨⟨qRe, YJ6, Khn, Yci, Zxs, z20, zBs, trivial⟩, trivial⟩ Tryz.func12 sw12 fun ho hh => ?_
 simp only [XDC, Y8A, Bool.and_eq_true] at ho
 have f1 := hl.fx ho.1.1 (sz := 34) rfl
 have f2 := hv.fx ho.1.2.1 (sz := 1) rfl
 have f3 := hd.fx ho.1.2.2.1 (sz := 2) rfl
 have f4 := hl'.fx ho.2.1.1 (sz := 34) rfl
 have f5 := hv'.fx ho.2.1.2.1 (sz := 1) rfl
 have f6 := hd'.fx ho.2.1.2.2.1 (sz := 2) rfl
 have hL1 : (hs.length ≤ 1000000) = True := eq_true (by omega)
 have hL2 : (hs'.length ≤ 1000000) = True := eq_true (by omega)
 have up : ∀ (t : AV), t.ok (fun i => decide (i < h.length)) = true → ∀ c, t.ok (fun i => decide (i < h.length + c)) = true := fun t ht c => AV.ok_mono (fun i q => by simp only [decide_eq_true_eq] at q ⊢; omega) t ht
 have rn : ∀ (t : AV), t.ok (fun i => decide (i < h.length)) = true → ∀ sel, Wk (t.ren (selN h.length sel)) t := fun t ht sel => Wk.ren (fun i hi => ZiG hi) ht
 have fo := fun c => And.intro (up l ho.1.1 c) (And.intro (up s ho.1.2.1 c) (And.intro (up t ho.1.2.2.1 c) (And.intro (up l' ho.2.1.1 c) (And.intro (up s' ho.2.1.2.1 c) (up t' ho.2.1.2.2.1 c)))))
 have fr := fun sel => And.intro (rn l ho.1.1 sel) (And.intro (rn s ho.1.2.1 sel) (And.intro (rn t ho.1.2.2.1 sel) (And.intro (rn l' ho.2.1.1 sel) (And.intro (rn s' ho.2.1.2.1 sel) (rn t' ho.2.1.2.2.1 sel)))))
 have wag : ∀ sel, Wk (.ag [l.ren (selN h.length sel), s.ren (selN h.length sel), t.ren (selN h.length sel), l'.ren (selN h.length sel), s'.ren (selN h.length sel), t'.ren (selN h.length sel)]) (.ag [l, s, t, l', s', t']) = True := fun sel => eq_true (Kql ⟨rn l ho.1.1 sel, rn s ho.1.2.1 sel, rn t ho.1.2.2.1 sel, rn l' ho.2.1.1 sel, rn s' ho.2.1.2.1 sel, rn t' ho.2.1.2.2.1 sel, trivial⟩)
 have zw01 : IntKind.i64.wrap ((0 : Int) + 1) = 1 := by decide
 have zw12 : IntKind.i64.wrap ((1 : Int) + 1) = 2 := by decide
 unfold w12
 simp only [QhW, YqD, z18, KHF, Xq8, if_true, if_false, ↓reduceIte, Nat.reduceAdd, Nat.reduceSub, Nat.reduceLeDiff, Nat.reduceEqDiff, Nat.reduceMul, Nat.reduceLT, Int.reduceLT, Int.reduceLE, Int.reduceEq, CO.tmps, Opd.tmps, optT, Nat.reducePow, Nat.reduceDiv, Nat.reduceMod, f1, f2, f3, f4, f5, f6]
 refine q2X (S := Nat) (fun i => 2 - i) (fun i => tp 2 ++ [.p (h.length + 0) 0, .p (h.length + 1) 0, .p (h.length + 2) 0] ++ tp 13 ++ [.ag [l, s, t, l', s', t'], .i .i64 i] ++ tp 76) (fun _ => h ++ [.blk false true [l, s, t], .blk false true [l', s', t'], .blk false true [.ns, .ns, .ns]]) (fun i => i ≤ 2 ∧ (1 ≤ i → QeQ hs xs ds = 0) ∧ (2 ≤ i → QeQ hs' xs' ds' = 0)) 0 ⟨by omega, fun q => by omega, fun q => by omega⟩ (Bt.wk (by simp only [z18, Xq8, if_true, if_false, reduceIte, Nat.reduceAdd, Nat.reduceSub, Nat.reduceLeDiff, Nat.reduceEqDiff, Nat.reduceMul, Nat.reduceLT, Int.reduceLT, Int.reduceLE, Int.reduceEq])) fun i hi => ?_
 obtain ⟨hi2, hc0, hc1⟩ := hi
 have ix0 : ixaV 2 3 true (.ag [l, s, t, l', s', t']) (.i .i64 0) = some (.ag [l, s, t]) := rfl
 have ix1 : ixaV 2 3 true (.ag [l, s, t, l', s', t']) (.i .i64 1) = some (.ag [l', s', t']) := rfl
 by_cases i0 : i = 0
 ·subst i0
  by_cases c0 : QeQ hs xs ds = 0
  ·simp only [z18, KHF, Xq8, if_true, if_false, ↓reduceIte, Nat.reduceAdd, Nat.reduceSub, Nat.reduceLeDiff, Nat.reduceEqDiff, Nat.reduceMul, Nat.reduceLT, Int.reduceLT, Int.reduceLE, Int.reduceEq, CO.tmps, Opd.tmps, optT, Nat.reducePow, Nat.reduceDiv, Nat.reduceMod, f1, f2, f3, f4, f5, f6, JY8, ix0, K5v, c0, hL1, zw01, ne_eq, not_false_eq_true, not_true_eq_false, decide_true, decide_false]
   exact ⟨1, ⟨by decide, by simp, fun q => absurd q (by decide)⟩, by decide, Bt.sel [0, 1, 2] hh (by decide) (by simp only [KlE, FrSel, BlkSel, AV.ren, renL, AV.ok, okL, Option.some.injEq, exists_eq_left', List.length_cons, List.length_nil, Nat.reduceAdd, Nat.reduceLT, reduceCtorEq, implies_true, exists_eq', fo, fr]) (by simp only [KlE, FrSel, BlkSel, AV.ren, renL, AV.ok, okL, Option.some.injEq, exists_eq_left', List.length_cons, List.length_nil, Nat.reduceAdd, Nat.reduceLT, reduceCtorEq, implies_true, exists_eq', fo, fr, wag, Int.natCast_one])⟩
  ·have c0' := eq_false c0
   rw [if_pos c0] at e
   cases e
   simp only [z18, KHF, Xq8, if_true, if_false, ↓reduceIte, Nat.reduceAdd, Nat.reduceSub, Nat.reduceLeDiff, Nat.reduceEqDiff, Nat.reduceMul, Nat.reduceLT, Int.reduceLT, Int.reduceLE, Int.reduceEq, CO.tmps, Opd.tmps, optT, Nat.reducePow, Nat.reduceDiv, Nat.reduceMod, f1, f2, f3, f4, f5, f6, JY8, ix0, K5v, c0', hL1, zw01, ne_eq, not_false_eq_true, not_true_eq_false, decide_true, decide_false]
   exact Bt.drop _ hh rfl (by simp only [Ztp, XDC, Xrx, Y8A, qn9, ok_i, Bool.and_true])
 by_cases i1 : i = 1
 ·subst i1
  have c0 := hc0 (Nat.le_refl _)
  rw [if_neg (not_not_intro c0)] at e
  by_cases c1 : QeQ hs' xs' ds' = 0
  ·simp only [z18, KHF, Xq8, if_true, if_false, ↓reduceIte, Nat.reduceAdd, Nat.reduceSub, Nat.reduceLeDiff, Nat.reduceEqDiff, Nat.reduceMul, Nat.reduceLT, Int.reduceLT, Int.reduceLE, Int.reduceEq, CO.tmps, Opd.tmps, optT, Nat.reducePow, Nat.reduceDiv, Nat.reduceMod, f1, f2, f3, f4, f5, f6, JY8, ix1, K5v, c1, hL2, zw12, ne_eq, Int.natCast_one, not_false_eq_true, not_true_eq_false, decide_true, decide_false]
   exact ⟨2, ⟨by decide, fun _ => c0, by simp⟩, by decide, Bt.sel [0, 1, 2] hh (by decide) (by simp only [KlE, FrSel, BlkSel, AV.ren, renL, AV.ok, okL, Option.some.injEq, exists_eq_left', List.length_cons, List.length_nil, Nat.reduceAdd, Nat.reduceLT, reduceCtorEq, implies_true, exists_eq', fo, fr]) (by simp only [KlE, FrSel, BlkSel, AV.ren, renL, AV.ok, okL, Option.some.injEq, exists_eq_left', List.length_cons, List.length_nil, Nat.reduceAdd, Nat.reduceLT, reduceCtorEq, implies_true, exists_eq', fo, fr, wag, Int.cast_ofNat_Int])⟩
  ·have c1' := eq_false c1
   rw [if_pos c1] at e
   cases e
   simp only [z18, KHF, Xq8, if_true, if_false, ↓reduceIte, Nat.reduceAdd, Nat.reduceSub, Nat.reduceLeDiff, Nat.reduceEqDiff, Nat.reduceMul, Nat.reduceLT, Int.reduceLT, Int.reduceLE, Int.reduceEq, CO.tmps, Opd.tmps, optT, Nat.reducePow, Nat.reduceDiv, Nat.reduceMod, f1, f2, f3, f4, f5, f6, JY8, ix1, K5v, c1', hL2, zw12, ne_eq, Int.natCast_one, not_false_eq_true, not_true_eq_false, decide_true, decide_false]
   exact Bt.drop _ hh rfl (by simp only [Ztp, XDC, Xrx, Y8A, qn9, ok_i, Bool.and_true])
 obtain rfl : i = 2 := by omega
 have c0 := hc0 (by decide)
 have c1 := hc1 (by decide)
 clear hc0 hc1
 rw [if_neg (not_not_intro c0), if_neg (not_not_intro c1)] at e
 have ra := XlN.1 c0
 have rb := XlN.1 c1
 simp only [z18, KHF, Xq8, if_true, if_false, ↓reduceIte, Nat.reduceAdd, Nat.reduceSub, Nat.reduceLeDiff, Nat.reduceEqDiff, Nat.reduceMul, Nat.reduceLT, Int.reduceLT, Int.reduceLE, Int.reduceEq, CO.tmps, Opd.tmps, optT, Nat.reducePow, Nat.reduceDiv, Nat.reduceMod, f1, f2, f3, f4, f5, f6, Int.cast_ofNat_Int]
 have ih := (Kca hl')
 refine q2X (S := Nat) (fun i => hs.length - i) (fun i => tp 2 ++ [.p (h.length + 0) 0, .p (h.length + 1) 0, .p (h.length + 2) 0] ++ tp 4 ++ [.p (h.length + 3) 0, apS Kd6 (h.length + 4) (q24 (hs.take i) hs')] ++ tp 23 ++ [l, .i .i64 hs.length, .i .i64 i] ++ tp 59) (fun i => h ++ [.blk false true [l, s, t], .blk false true [l', s', t'], .blk false true [.ns, .ns, .ns], .blk false true [l, s, t, l', s', t'], resB Kd6 true (q24 (hs.take i) hs')]) (fun i => i ≤ hs.length ∧ agreeP (hs.take i) hs') 0 ⟨Nat.zero_le _, fun x hx => by simp at hx⟩ ?_ fun i hi => ?_
 ·show Bt _ _ _ _ _ (h ++ ([.blk false true [l, s, t], .blk false true [l', s', t'], .blk false true [.ns, .ns, .ns], .blk false true [l, s, t, l', s', t']] ++ List.replicate 1 .dead))
  rw [← List.append_assoc]
  refine Bt.trans (Bt.wk ?_) (Bt.pad _ _ 1)
  rw [show apS Kd6 (h.length + 4) (q24 (hs.take 0) hs') = .ns from rfl]
  simp only [z18, Xq8, if_true, if_false, reduceIte, Nat.reduceAdd, Nat.reduceSub, Nat.reduceLeDiff, Nat.reduceEqDiff, Nat.reduceMul, Nat.reduceLT, Int.reduceLT, Int.reduceLE, Int.reduceEq]
 obtain ⟨hi2, hag⟩ := hi
 have lo := ZXT hs hs' i
 by_cases gi : i < hs.length
 ·have gi' := eq_true gi
  have e1 : IntKind.i64.wrap ((i : Int) + 1) = ((i + 1 : Nat) : Int) := ZWo (by unfold In64; omega)
  have hst := XJi (l' := hs') gi
  have hxm : hs.getD i Kd6.d ∈ hs := by rw [List.getD_eq_getElem?_getD, List.getElem?_eq_getElem gi]; exact List.getElem_mem gi
  have htk : ∀ z, z ∈ hs.take (i + 1) ↔ z ∈ hs.take i ∨ z = hs.getD i Kd6.d := fun z => by
   rw [List.take_succ_eq_append_getElem gi, List.mem_append, List.mem_singleton, List.getD_eq_getElem?_getD, List.getElem?_eq_getElem gi]
   rfl
  generalize hx : hs.getD i Kd6.d = x at *
  generalize ho : q24 (hs.take i) hs' = o at *
  have ao : ∀ (n : Nat) (L : List Hd), (apS Kd6 (n + 4) L).ok (fun i => decide (i < n + 5)) = true := fun n L => Ywb _ _ _ (by simp)
  by_cases hn : idx (fun y : Hd => y.1 = x.1) hs' < 0
  ·have hn' := eq_true hn
   have hno := Zxg hn
   rw [if_neg hno, List.append_nil] at hst
   simp only [z18, KHF, Xq8, if_true, if_false, ↓reduceIte, Nat.reduceAdd, Nat.reduceSub, Nat.reduceLeDiff, Nat.reduceEqDiff, Nat.reduceMul, Nat.reduceLT, Int.reduceLT, Int.reduceLE, Int.reduceEq, CO.tmps, Opd.tmps, optT, Nat.reducePow, Nat.reduceDiv, Nat.reduceMod, f1, f2, f3, f4, f5, f6, gi', hx, QTL, zHG, JiT, Qa4, List.length_cons, List.length_nil, QKJ, Ktb, QP4, hn', e1, ne_eq, not_false_eq_true, not_true_eq_false, decide_true, decide_false]
   refine ⟨i + 1, ⟨gi, fun z hz y hy ez => ?_⟩, by dsimp only; omega, ?_⟩
   ·rcases (htk z).1 hz with q | q
    ·exact hag z q y hy ez
    ·exact absurd ⟨y, hy, by rw [← ez, q]⟩ hno
   ·dsimp only
    rw [hst]
    exact Bt.sel [0, 1, 2, 3, 4] hh (by decide) (by simp only [KlE, FrSel, BlkSel, AV.ren, renL, AV.ok, okL, Option.some.injEq, exists_eq_left', List.length_cons, List.length_nil, Nat.reduceAdd, Nat.reduceLT, reduceCtorEq, implies_true, exists_eq', fo, fr]) (by simp only [KlE, FrSel, BlkSel, AV.ren, renL, AV.ok, okL, Option.some.injEq, exists_eq_left', List.length_cons, List.length_nil, Nat.reduceAdd, Nat.reduceLT, reduceCtorEq, implies_true, exists_eq', fo, fr, wag, ao, zLU])
  ·have hn' := eq_false hn
   obtain ⟨j, hj, hij, hjd⟩ := XIW Kd6.d hn
   have hj' := eq_true hj
   have jn0 : ((j : Int) < 0) = False := eq_false (by omega)
   have hjm : hs'.getD j Kd6.d ∈ hs' := by rw [List.getD_eq_getElem?_getD, List.getElem?_eq_getElem hj]; exact List.getElem_mem hj
   have hyes : ∃ y ∈ hs', y.1 = x.1 := ⟨_, hjm, hjd⟩
   rw [if_pos hyes] at hst
   generalize hy : hs'.getD j Kd6.d = y at *
   by_cases hc : y.2 = x.2
   ·have hc' := eq_true hc
    have hagN : agreeP (hs.take (i + 1)) hs' := fun z hz y' hy' ez => by
     rcases (htk z).1 hz with q | q
     ·exact hag z q y' hy' ez
     ·have : y' = y := rb.one hy' hjm (by rw [← ez, q, hjd])
      rw [this, q, hc]
    by_cases hB : o = []
    ·rw [hB, List.nil_append] at hst
     have z3 : (1 * 48 ≤ 140737488355328 ∧ 1 ≤ maxLen) = True := eq_true ⟨by decide, by unfold maxLen; omega⟩
     simp only [hB, q8J, z18, KHF, Xq8, if_true, if_false, ↓reduceIte, Nat.reduceAdd, Nat.reduceSub, Nat.reduceLeDiff, Nat.reduceEqDiff, Nat.reduceMul, Nat.reduceLT, Int.reduceLT, Int.reduceLE, Int.reduceEq, CO.tmps, Opd.tmps, optT, Nat.reducePow, Nat.reduceDiv, Nat.reduceMod, f1, f2, f3, f4, f5, f6, ih, gi', hx, hy, hj', QTL, zHG, JiT, Qa4, List.length_cons, List.length_nil, QKJ, Ktb, QP4, hij, jn0, hc', e1, Qk3, qyZ, YlK, z3, ne_eq, not_false_eq_true, not_true_eq_false, decide_true, decide_false, XUt hh, Ygn hz, QqV hz, qNQ hz]
     refine ⟨i + 1, ⟨gi, hagN⟩, by dsimp only; omega, ?_⟩
     dsimp only
     rw [hst]
     simp only [ZNS, QE9]
     exact Bt.sel [0, 1, 2, 3, 7] hh (by decide) (by simp only [KlE, FrSel, BlkSel, AV.ren, renL, AV.ok, okL, Option.some.injEq, exists_eq_left', List.length_cons, List.length_nil, Nat.reduceAdd, Nat.reduceLT, reduceCtorEq, implies_true, exists_eq', fo, fr, wag]) (by simp only [KlE, FrSel, BlkSel, AV.ren, renL, AV.ok, okL, Option.some.injEq, exists_eq_left', List.length_cons, List.length_nil, Nat.reduceAdd, Nat.reduceLT, reduceCtorEq, implies_true, exists_eq', fo, fr, wag, zLU])
    ·have hlB : o.length ≠ 0 := fun q => hB (List.eq_nil_of_length_eq_zero q)
     have gr : ∀ id, apS Kd6 id o = rsl Kd6 id o := fun id => YM2 _ hlB
     have fa := fun L k ys hb => q9y (h := h) (p := h.length) rfl (r := Kd6) (sz := 34) rfl L k o 48 1 ys hlB hb (by decide) (by omega) (by unfold maxLen; omega)
     simp only [gr, z18, KHF, Xq8, if_true, if_false, ↓reduceIte, Nat.reduceAdd, Nat.reduceSub, Nat.reduceLeDiff, Nat.reduceEqDiff, Nat.reduceMul, Nat.reduceLT, Int.reduceLT, Int.reduceLE, Int.reduceEq, CO.tmps, Opd.tmps, optT, Nat.reducePow, Nat.reduceDiv, Nat.reduceMod, f1, f2, f3, f4, f5, f6, ih, gi', hx, hy, hj', QTL, zHG, JiT, Qa4, List.length_cons, List.length_nil, QKJ, Ktb, QP4, hij, jn0, hc', e1, Qk3, qyZ, YlK, fa, ne_eq, not_false_eq_true, not_true_eq_false, decide_true, decide_false, XUt hh, Ygn hz, QqV hz, qNQ hz]
     refine ⟨i + 1, ⟨gi, hagN⟩, by dsimp only; omega, ?_⟩
     dsimp only
     rw [hst]
     simp only [ZTM, YEn]
     exact Bt.sel [0, 1, 2, 3, 7] hh (by decide) (by simp only [KlE, FrSel, BlkSel, AV.ren, renL, AV.ok, okL, Option.some.injEq, exists_eq_left', List.length_cons, List.length_nil, Nat.reduceAdd, Nat.reduceLT, reduceCtorEq, implies_true, exists_eq', fo, fr, wag]) (by simp only [KlE, FrSel, BlkSel, AV.ren, renL, AV.ok, okL, Option.some.injEq, exists_eq_left', List.length_cons, List.length_nil, Nat.reduceAdd, Nat.reduceLT, reduceCtorEq, implies_true, exists_eq', fo, fr, wag, zLU])
   ·have hna : ¬ agreeP hs hs' := fun q => hc (q x hxm y hjm hjd.symm).symm
    have hc' := eq_false hc
    rw [if_pos hna] at e
    cases e
    simp only [z18, KHF, Xq8, if_true, if_false, ↓reduceIte, Nat.reduceAdd, Nat.reduceSub, Nat.reduceLeDiff, Nat.reduceEqDiff, Nat.reduceMul, Nat.reduceLT, Int.reduceLT, Int.reduceLE, Int.reduceEq, CO.tmps, Opd.tmps, optT, Nat.reducePow, Nat.reduceDiv, Nat.reduceMod, f1, f2, f3, f4, f5, f6, ih, gi', hx, hy, hj', QTL, zHG, JiT, Qa4, List.length_cons, List.length_nil, QKJ, Ktb, QP4, hij, jn0, hc', e1, Qk3, qyZ, YlK, ne_eq, not_false_eq_true, not_true_eq_false, decide_true, decide_false, XUt hh, Ygn hz, QqV hz, qNQ hz]
    exact Bt.drop _ hh rfl (by simp only [Ztp, XDC, Xrx, Y8A, qn9, ok_i, Bool.and_true])
 obtain rfl : i = hs.length := by omega
 have gi' := eq_false gi
 rw [List.take_length] at hag
 rw [if_neg (not_not_intro hag)] at e
 rw [List.take_length]
 rw [List.take_length] at lo
 simp only [z18, KHF, Xq8, if_true, if_false, ↓reduceIte, Nat.reduceAdd, Nat.reduceSub, Nat.reduceLeDiff, Nat.reduceEqDiff, Nat.reduceMul, Nat.reduceLT, Int.reduceLT, Int.reduceLE, Int.reduceEq, CO.tmps, Opd.tmps, optT, Nat.reducePow, Nat.reduceDiv, Nat.reduceMod, f1, f2, f3, f4, f5, f6, gi']
 generalize hb : q24 hs hs' = o0 at *
 have hm : ∃ Lm : Nat → List Hd, Lm 0 = o0 ∧ Lm 1 = o0 ++ outL xs' ds' hs ∧ Lm 2 = o0 ++ outL xs' ds' hs ++ outL xs ds hs' := ⟨fun n => if n = 0 then o0 else if n = 1 then o0 ++ outL xs' ds' hs else o0 ++ outL xs' ds' hs ++ outL xs ds hs', rfl, rfl, rfl⟩
 obtain ⟨Lm, m0, m1, m2⟩ := hm
 have hp : ∃ Pm : Nat → AB, Pm 0 = .blk false true [l, s, t, l', s', t'] ∧ Pm 1 = .blk false true [l', s', t', l, s, t] ∧ Pm 2 = .blk false true [l, s, t, l', s', t'] := ⟨fun n => if n = 1 then .blk false true [l', s', t', l, s, t] else .blk false true [l, s, t, l', s', t'], rfl, rfl, rfl⟩
 obtain ⟨Pm, p0, p1, p2⟩ := hp
 have hS : ∃ Sm : Nat → AV, Sm 0 = apS Kd6 (h.length + 4) o0 ∧ Sm 1 = apS Kd6 (h.length + 4) (Lm 1) ∧ Sm 2 = rsl Kd6 (h.length + 4) (Lm 2) := ⟨fun n => if n = 0 then apS Kd6 (h.length + 4) o0 else if n = 1 then apS Kd6 (h.length + 4) (Lm 1) else rsl Kd6 (h.length + 4) (Lm 2), rfl, rfl, rfl⟩
 obtain ⟨Sm, S0, S1, S2⟩ := hS
 have ao : ∀ (n : Nat) (L : List Hd), (apS Kd6 (n + 4) L).ok (fun i => decide (i < n + 5)) = true := fun n L => Ywb _ _ _ (by simp)
 have ro : ∀ (n : Nat) (L : List Hd), (rsl Kd6 (n + 4) L).ok (fun i => decide (i < n + 5)) = true := fun n L => YrS _ _ _ (by simp)
 have apW : ∀ (n : Nat) (L : List Hd), Wk (rsl Kd6 n L) (apS Kd6 n L) = True := fun n L => eq_true (XIf n L)
 refine q2X (S := Nat) (fun i => 2 - i) (fun i => tp 2 ++ [.p (h.length + 0) 0, .p (h.length + 1) 0, .p (h.length + 2) 0] ++ tp 4 ++ [.p (h.length + 3) 0, Sm i] ++ tp 50 ++ [.i .i64 i] ++ tp 34) (fun i => h ++ [.blk false true [l, s, t], .blk false true [l', s', t'], .blk false true [.ns, .ns, .ns], Pm i, resB Kd6 true (Lm i)]) (fun i => i ≤ 2) 0 (by decide) (by
  show Bt _ _ _ _ _ (h ++ [.blk false true [l, s, t], .blk false true [l', s', t'], .blk false true [.ns, .ns, .ns], Pm 0, resB Kd6 true (Lm 0)])
  rw [m0, p0]
  exact Bt.wk (by simp only [z18, Xq8, if_true, if_false, reduceIte, Nat.reduceAdd, Nat.reduceSub, Nat.reduceLeDiff, Nat.reduceEqDiff, Nat.reduceMul, Nat.reduceLT, Int.reduceLT, Int.reduceLE, Int.reduceEq, S0])) fun i hi => ?_
 have lo0 : o0.length ≤ 100000 := by omega
 have la0 := XIg xs' ds' hs
 have la1 := XIg xs ds hs'
 have lo1 : (o0 ++ outL xs' ds' hs).length ≤ 100000 := by rw [List.length_append]; omega
 by_cases i0 : i = 0
 ·subst i0
  rw [m0, p0]
  have zw := zw01
  by_cases hB : o0 = []
  ·have asn := QwX hl hv' hd' (by omega)
   simp only [hB, q8J, QK2, asn, zw, S0, z18, KHF, Xq8, if_true, if_false, ↓reduceIte, Nat.reduceAdd, Nat.reduceSub, Nat.reduceLeDiff, Nat.reduceEqDiff, Nat.reduceMul, Nat.reduceLT, Int.reduceLT, Int.reduceLE, Int.reduceEq, CO.tmps, Opd.tmps, optT, Nat.reducePow, Nat.reduceDiv, Nat.reduceMod, f1, f2, f3, f4, f5, f6, qBy, XEV, hl.isSl, hv.isSl, hd.isSl, hl'.isSl, hv'.isSl, hd'.isSl, KWr, KET, ne_eq, not_false_eq_true, not_true_eq_false, decide_true, decide_false, XUt hh, Ygn hz, QqV hz, qNQ hz]
   refine ⟨1, by decide, by decide, ?_⟩
   simp only [m1, p1, S1, hB, List.nil_append]
   exact Bt.sel [0, 1, 2, 3, 7] hh (by decide) (by simp only [KlE, FrSel, BlkSel, AV.ren, renL, AV.ok, okL, Option.some.injEq, exists_eq_left', List.length_cons, List.length_nil, Nat.reduceAdd, Nat.reduceLT, reduceCtorEq, implies_true, exists_eq', fo, fr]) (by simp only [KlE, FrSel, BlkSel, AV.ren, renL, AV.ok, okL, Option.some.injEq, exists_eq_left', List.length_cons, List.length_nil, Nat.reduceAdd, Nat.reduceLT, reduceCtorEq, implies_true, exists_eq', fo, fr, wag, ao, ro, apW, Int.natCast_one])
  ·have hlB : (o0).length ≠ 0 := fun q => hB (List.eq_nil_of_length_eq_zero q)
   have gr : ∀ id, apS Kd6 id (o0) = rsl Kd6 id (o0) := fun id => YM2 _ hlB
   by_cases hO : outL xs' ds' hs = []
   ·have asa := fun L k a b hk b1 b2 => (Kdu hl hv' hd' (by omega) hB lo0 L k a b hk b1 b2).trans (if_pos hO)
    simp only [gr, ZuS, asa, zw, S0, z18, KHF, Xq8, if_true, if_false, ↓reduceIte, Nat.reduceAdd, Nat.reduceSub, Nat.reduceLeDiff, Nat.reduceEqDiff, Nat.reduceMul, Nat.reduceLT, Int.reduceLT, Int.reduceLE, Int.reduceEq, CO.tmps, Opd.tmps, optT, Nat.reducePow, Nat.reduceDiv, Nat.reduceMod, f1, f2, f3, f4, f5, f6, qBy, XEV, hl.isSl, hv.isSl, hd.isSl, hl'.isSl, hv'.isSl, hd'.isSl, KWr, KET, ne_eq, not_false_eq_true, not_true_eq_false, decide_true, decide_false, XUt hh, Ygn hz, QqV hz, qNQ hz]
    refine ⟨1, by decide, by decide, ?_⟩
    simp only [m1, p1, S1, hO, List.append_nil, gr]
    exact Bt.sel [0, 1, 2, 3, 4] hh (by decide) (by simp only [KlE, FrSel, BlkSel, AV.ren, renL, AV.ok, okL, Option.some.injEq, exists_eq_left', List.length_cons, List.length_nil, Nat.reduceAdd, Nat.reduceLT, reduceCtorEq, implies_true, exists_eq', fo, fr]) (by simp only [KlE, FrSel, BlkSel, AV.ren, renL, AV.ok, okL, Option.some.injEq, exists_eq_left', List.length_cons, List.length_nil, Nat.reduceAdd, Nat.reduceLT, reduceCtorEq, implies_true, exists_eq', fo, fr, wag, ao, ro, apW, Int.natCast_one])
   ·have asa := fun L k a b hk b1 b2 => (Kdu hl hv' hd' (by omega) hB lo0 L k a b hk b1 b2).trans (if_neg hO)
    simp only [gr, ZuS, asa, zw, S0, z18, KHF, Xq8, if_true, if_false, ↓reduceIte, Nat.reduceAdd, Nat.reduceSub, Nat.reduceLeDiff, Nat.reduceEqDiff, Nat.reduceMul, Nat.reduceLT, Int.reduceLT, Int.reduceLE, Int.reduceEq, CO.tmps, Opd.tmps, optT, Nat.reducePow, Nat.reduceDiv, Nat.reduceMod, f1, f2, f3, f4, f5, f6, qBy, XEV, hl.isSl, hv.isSl, hd.isSl, hl'.isSl, hv'.isSl, hd'.isSl, KWr, KET, ne_eq, not_false_eq_true, not_true_eq_false, decide_true, decide_false, XUt hh, Ygn hz, QqV hz, qNQ hz]
    refine ⟨1, by decide, by decide, ?_⟩
    simp only [m1, p1, S1]
    exact Bt.sel [0, 1, 2, 3, 7] hh (by decide) (by simp only [KlE, FrSel, BlkSel, AV.ren, renL, AV.ok, okL, Option.some.injEq, exists_eq_left', List.length_cons, List.length_nil, Nat.reduceAdd, Nat.reduceLT, reduceCtorEq, implies_true, exists_eq', fo, fr]) (by simp only [KlE, FrSel, BlkSel, AV.ren, renL, AV.ok, okL, Option.some.injEq, exists_eq_left', List.length_cons, List.length_nil, Nat.reduceAdd, Nat.reduceLT, reduceCtorEq, implies_true, exists_eq', fo, fr, wag, ao, ro, apW, Int.natCast_one])
 by_cases i1 : i = 1
 ·subst i1
  rw [m1, p1]
  have zw := zw12
  by_cases hB : o0 ++ outL xs' ds' hs = []
  ·have asn := QwX hl' hv hd (by omega)
   simp only [hB, q8J, QK2, asn, zw, S1, m1, Int.natCast_one, z18, KHF, Xq8, if_true, if_false, ↓reduceIte, Nat.reduceAdd, Nat.reduceSub, Nat.reduceLeDiff, Nat.reduceEqDiff, Nat.reduceMul, Nat.reduceLT, Int.reduceLT, Int.reduceLE, Int.reduceEq, CO.tmps, Opd.tmps, optT, Nat.reducePow, Nat.reduceDiv, Nat.reduceMod, f1, f2, f3, f4, f5, f6, qBy, XEV, hl.isSl, hv.isSl, hd.isSl, hl'.isSl, hv'.isSl, hd'.isSl, KWr, KET, ne_eq, not_false_eq_true, not_true_eq_false, decide_true, decide_false, XUt hh, Ygn hz, QqV hz, qNQ hz]
   refine ⟨2, by decide, by decide, ?_⟩
   simp only [m2, p2, S2, hB, List.nil_append]
   exact Bt.sel [0, 1, 2, 3, 7] hh (by decide) (by simp only [KlE, FrSel, BlkSel, AV.ren, renL, AV.ok, okL, Option.some.injEq, exists_eq_left', List.length_cons, List.length_nil, Nat.reduceAdd, Nat.reduceLT, reduceCtorEq, implies_true, exists_eq', fo, fr]) (by simp only [KlE, FrSel, BlkSel, AV.ren, renL, AV.ok, okL, Option.some.injEq, exists_eq_left', List.length_cons, List.length_nil, Nat.reduceAdd, Nat.reduceLT, reduceCtorEq, implies_true, exists_eq', fo, fr, wag, ao, ro, apW, Int.cast_ofNat_Int])
  ·have hlB : (o0 ++ outL xs' ds' hs).length ≠ 0 := fun q => hB (List.eq_nil_of_length_eq_zero q)
   have gr : ∀ id, apS Kd6 id (o0 ++ outL xs' ds' hs) = rsl Kd6 id (o0 ++ outL xs' ds' hs) := fun id => YM2 _ hlB
   by_cases hO : outL xs ds hs' = []
   ·have asa := fun L k a b hk b1 b2 => (Kdu hl' hv hd (by omega) hB lo1 L k a b hk b1 b2).trans (if_pos hO)
    simp only [gr, ZuS, asa, zw, S1, m1, Int.natCast_one, z18, KHF, Xq8, if_true, if_false, ↓reduceIte, Nat.reduceAdd, Nat.reduceSub, Nat.reduceLeDiff, Nat.reduceEqDiff, Nat.reduceMul, Nat.reduceLT, Int.reduceLT, Int.reduceLE, Int.reduceEq, CO.tmps, Opd.tmps, optT, Nat.reducePow, Nat.reduceDiv, Nat.reduceMod, f1, f2, f3, f4, f5, f6, qBy, XEV, hl.isSl, hv.isSl, hd.isSl, hl'.isSl, hv'.isSl, hd'.isSl, KWr, KET, ne_eq, not_false_eq_true, not_true_eq_false, decide_true, decide_false, XUt hh, Ygn hz, QqV hz, qNQ hz]
    refine ⟨2, by decide, by decide, ?_⟩
    simp only [m2, p2, S2, hO, List.append_nil]
    exact Bt.sel [0, 1, 2, 3, 4] hh (by decide) (by simp only [KlE, FrSel, BlkSel, AV.ren, renL, AV.ok, okL, Option.some.injEq, exists_eq_left', List.length_cons, List.length_nil, Nat.reduceAdd, Nat.reduceLT, reduceCtorEq, implies_true, exists_eq', fo, fr]) (by simp only [KlE, FrSel, BlkSel, AV.ren, renL, AV.ok, okL, Option.some.injEq, exists_eq_left', List.length_cons, List.length_nil, Nat.reduceAdd, Nat.reduceLT, reduceCtorEq, implies_true, exists_eq', fo, fr, wag, ao, ro, apW, Int.cast_ofNat_Int])
   ·have asa := fun L k a b hk b1 b2 => (Kdu hl' hv hd (by omega) hB lo1 L k a b hk b1 b2).trans (if_neg hO)
    simp only [gr, ZuS, asa, zw, S1, m1, Int.natCast_one, z18, KHF, Xq8, if_true, if_false, ↓reduceIte, Nat.reduceAdd, Nat.reduceSub, Nat.reduceLeDiff, Nat.reduceEqDiff, Nat.reduceMul, Nat.reduceLT, Int.reduceLT, Int.reduceLE, Int.reduceEq, CO.tmps, Opd.tmps, optT, Nat.reducePow, Nat.reduceDiv, Nat.reduceMod, f1, f2, f3, f4, f5, f6, qBy, XEV, hl.isSl, hv.isSl, hd.isSl, hl'.isSl, hv'.isSl, hd'.isSl, KWr, KET, ne_eq, not_false_eq_true, not_true_eq_false, decide_true, decide_false, XUt hh, Ygn hz, QqV hz, qNQ hz]
    refine ⟨2, by decide, by decide, ?_⟩
    simp only [m2, p2, S2]
    exact Bt.sel [0, 1, 2, 3, 7] hh (by decide) (by simp only [KlE, FrSel, BlkSel, AV.ren, renL, AV.ok, okL, Option.some.injEq, exists_eq_left', List.length_cons, List.length_nil, Nat.reduceAdd, Nat.reduceLT, reduceCtorEq, implies_true, exists_eq', fo, fr]) (by simp only [KlE, FrSel, BlkSel, AV.ren, renL, AV.ok, okL, Option.some.injEq, exists_eq_left', List.length_cons, List.length_nil, Nat.reduceAdd, Nat.reduceLT, reduceCtorEq, implies_true, exists_eq', fo, fr, wag, ao, ro, apW, Int.cast_ofNat_Int])
 obtain rfl : i = 2 := by omega
 have hU : Lm 2 = jnU hs hs' xs xs' ds ds' := by
  rw [m2, ← hb, ZE1 rb.nf rb.len, ZE1 ra.nf ra.len]
  rfl
 have cs := ra.nf.check ra.len
 have cs' := rb.nf.check rb.len
 have lU : (jnU hs hs' xs xs' ds ds').length ≤ 1000000 := by rw [← hU, m2, List.length_append, List.length_append]; omega
 have lU' := eq_true lU
 have lU2 : ((jnU hs hs' xs xs' ds ds').length ≤ maxLen) = True := eq_true (by unfold maxLen; omega)
 have hsr : ∀ id, rsl Kd6 id (jnU hs hs' xs xs' ds ds') = rsl Kd6 id (jnL hs hs' xs xs' ds ds') := fun id => by unfold rsl jnL; rw [XLT]
 simp only [S2, hU, p2]
 by_cases g : (z9r xs xs' ds ds').2.length ≤ 4096
 ·rw [if_neg (not_not_intro g)] at e
  cases e
  have g' := eq_true g
  have hJ : XWe cfH (jnU hs hs' xs xs' ds ds') = jnL hs hs' xs xs' ds ds' := rfl
  simp only [z18, KHF, Xq8, if_true, if_false, ↓reduceIte, Nat.reduceAdd, Nat.reduceSub, Nat.reduceLeDiff, Nat.reduceEqDiff, Nat.reduceMul, Nat.reduceLT, Int.reduceLT, Int.reduceLE, Int.reduceEq, CO.tmps, Opd.tmps, optT, Nat.reducePow, Nat.reduceDiv, Nat.reduceMod, f1, f2, f3, f4, f5, f6, Int.cast_ofNat_Int, K1E, QRo, cs, cs', g', k1, k2, lU', lU2, hJ, Qqr, JZG, KET, ne_eq, not_false_eq_true, not_true_eq_false, decide_true, decide_false]
  simp only [hsr]
  exact Bt.sel [4, 5, 6] hh (by decide) (by simp only [KlE, FrSel, BlkSel, AV.ren, renL, AV.ok, okL, Option.some.injEq, exists_eq_left', List.length_cons, List.length_nil, Nat.reduceAdd, Nat.reduceLT, reduceCtorEq, implies_true, exists_eq']) (by simp only [KlE, FrSel, BlkSel, AV.ren, renL, AV.ok, okL, Option.some.injEq, exists_eq_left', List.length_cons, List.length_nil, Nat.reduceAdd, Nat.reduceLT, reduceCtorEq, implies_true, exists_eq'])
 ·rw [if_pos g] at e
  cases e
  have g' := eq_false g
  simp only [z18, KHF, Xq8, if_true, if_false, ↓reduceIte, Nat.reduceAdd, Nat.reduceSub, Nat.reduceLeDiff, Nat.reduceEqDiff, Nat.reduceMul, Nat.reduceLT, Int.reduceLT, Int.reduceLE, Int.reduceEq, CO.tmps, Opd.tmps, optT, Nat.reducePow, Nat.reduceDiv, Nat.reduceMod, f1, f2, f3, f4, f5, f6, Int.cast_ofNat_Int, K1E, cs, cs', g', k1, k2, ne_eq, not_false_eq_true, not_true_eq_false, decide_true, decide_false]
  exact Bt.drop _ hh rfl (by simp only [Ztp, XDC, Xrx, Y8A, qn9, ok_i, Bool.and_true])
theorem QQf : Spec Tryz.prog 12 QSh := by
 intro args h v h' e
 unfold QSh at e
 split at e
 ·rename_i l s t l' s' t'
  obtain ⟨hs, hl, e⟩ := zZA e
  obtain ⟨xs, hv, e⟩ := zZA e
  obtain ⟨ds, hd, e⟩ := zZA e
  obtain ⟨hs', hl', e⟩ := zZA e
  obtain ⟨xs', hv', e⟩ := zZA e
  obtain ⟨ds', hd', e⟩ := zZA e
  split at e
  ·rename_i hL
   have key0 : ∀ v, (∀ h : List AB, Rd Kd6 h l hs → Rd intR h s xs → Rd dotR h t ds → Rd Kd6 h l' hs' → Rd intR h s' xs' → Rd dotR h t' ds' → QSh [.ag [l, s, t], .ag [l', s', t']] h = some (v, h)) → FnC Tryz.prog 12 [.ag [l, s, t], .ag [l', s', t']] h v h := fun v q => FnAt.c (FnAt.frz0 fun hz => qI0 hz hl.frz hv.frz hd.frz hl'.frz hv'.frz hd'.frz hL.1 hL.2.1 hL.2.2 _ _ (q _ hl.frz hv.frz hd.frz hl'.frz hv'.frz hd'.frz))
   split at e
   ·rename_i c
    cases e
    refine key0 _ fun h hl hv hd hl' hv' hd' => ?_
    simp only [QSh, hl.get, hv.get, hd.get, hl'.get, hv'.get, hd'.get, Option.bind_some]
    rw [if_pos hL, if_pos c]
   ·rename_i c
    split at e
    ·rename_i c1
     cases e
     refine key0 _ fun h hl hv hd hl' hv' hd' => ?_
     simp only [QSh, hl.get, hv.get, hd.get, hl'.get, hv'.get, hd'.get, Option.bind_some]
     rw [if_pos hL, if_neg c, if_pos c1]
    ·rename_i c1
     split at e
     ·rename_i c2
      cases e
      refine key0 _ fun h hl hv hd hl' hv' hd' => ?_
      simp only [QSh, hl.get, hv.get, hd.get, hl'.get, hv'.get, hd'.get, Option.bind_some]
      rw [if_pos hL, if_neg c, if_neg c1, if_pos c2]
     ·rename_i c2
      split at e
      ·rename_i c3
       cases e
       refine key0 _ fun h hl hv hd hl' hv' hd' => ?_
       simp only [QSh, hl.get, hv.get, hd.get, hl'.get, hv'.get, hd'.get, Option.bind_some]
       rw [if_pos hL, if_neg c, if_neg c1, if_neg c2, if_pos c3]
      ·rename_i c3
       cases e
       refine FnAt.c (FnAt.frz fun hz => qI0 hz hl.frz hv.frz hd.frz hl'.frz hv'.frz hd'.frz hL.1 hL.2.1 hL.2.2 _ _ ?_)
       simp only [QSh, hl.frz.get, hv.frz.get, hd.frz.get, hl'.frz.get, hv'.frz.get, hd'.frz.get, Option.bind_some, List.length_map]
       rw [if_pos hL, if_neg c, if_neg c1, if_neg c2, if_neg c3]
  ·cases e
 ·cases e
end Go.Proofs.YtcncpbcbedfakaaGreat
end
section
namespace Go.Proofs.YtcncpbcbedfakaaGreat
set_option maxRecDepth 100000
set_option maxHeartbeats 4000000
noncomputable instance (l l' : List Hd) : Decidable (agreeP l l') := Classical.propDecidable _
end Go.Proofs.YtcncpbcbedfakaaGreat
end
section
namespace Go.Proofs.YtcncpbcbedfakaaGreat
section
variable {la lb lc : List Hd} {va vb vc : List Int} {da db dc : Dots}
theorem q55 (l l' : List Hd) (v v' : List Int) (ds ds' : Dots) : (jnL l l' v v' ds ds').length ≤ 2 * l.length + l'.length := by
 unfold jnL
 rw [XLT]
 unfold jnU
 rw [List.length_append, List.length_append]
 refine Nat.le_trans (Nat.add_le_add (Nat.add_le_add (List.length_filter_le _ l) (show (outG v' ds' l).length ≤ l.length from List.length_filter_le _ _)) (show (outG v ds l').length ≤ l'.length from List.length_filter_le _ _)) ?_
 omega
theorem zXp (a : RG la va da) (b : RG lb vb db) {m : List Hd} (hr : m.Pairwise XSb) (hm : ∀ x, x ∈ m ↔ x ∈ jnU la lb va vb da db) : m = jnL la lb va vb da db := Jn.uniq ⟨hr, hm⟩ (Xki a b)
theorem YVb (a : NF va da) {d : Int × Int} (hd : qfE d) : qD3 va (da ++ [d]) := ⟨a.rg.1, a.rg.2.1, fun x hx => by
 rcases List.mem_append.1 hx with q | q
 ·exact a.rg.2.2 x q
 ·rw [List.mem_singleton.1 q]; exact hd⟩
theorem JPR (a : NF va da) {d : Int × Int} (hd : qfE d) : NF (mkO va da d).1 (mkO va da d).2 := NF.fm (YVb a hd)
end
end Go.Proofs.YtcncpbcbedfakaaGreat
end
section
namespace Go.Proofs.YtcncpbcbedfakaaGreat
set_option maxRecDepth 100000
set_option maxHeartbeats 4000000
theorem Z04 {hs : List Hd} {v : List Int} {ds : Dots} {d : Int × Int} {v' : List Int} {ds' : Dots} (c1 : QeQ hs v ds = 0) (c2 : qfE d) (c3 : zEL v' ds' = 0) (c4 : ¬ ZvJ v ds d) (c5 : ¬ ZvJ v' ds' d) (c6 : (z9r v v' ds ds').2.length ≤ 4096) (c7 : (mkO (z9r v v' ds ds').1 (z9r v v' ds ds').2 d).2.length ≤ 4096) : wrE hs v ds d v' ds' = 0 := by
 unfold wrE
 rw [if_neg (not_not_intro c1), if_neg (not_not_intro c2), if_neg (not_not_intro c3), if_neg (fun q => q.elim c4 c5), if_neg (not_not_intro c6), if_neg (not_not_intro c7)]
end Go.Proofs.YtcncpbcbedfakaaGreat
end
section
namespace Go.Proofs.YtcncpbcbedfakaaGreat
open Go.Sort
set_option maxRecDepth 100000
set_option maxHeartbeats 4000000
instance : Inhabited Dg := ⟨KDQ⟩
theorem JCU : SWO (ltOf cmpG) := ⟨fun x => by
  unfold ltOf
  rw [decide_eq_false_iff_not]
  exact zXq.irr x, fun x y z h1 h2 => by
  unfold ltOf at *
  rw [decide_eq_true_eq] at *
  exact zXq.tr h1 h2, fun x y z h1 h2 => by
  unfold ltOf at *
  rw [decide_eq_false_iff_not] at *
  intro h3
  rcases QwR x y with q | q | q
  ·exact h1 q
  ·subst q; exact h2 h3
  ·exact h2 (zXq.tr q h3)⟩
noncomputable def dgsL (hs : List Hd) : List Dg := cpI (XWe cmpG (hs.map (·.2)))
end Go.Proofs.YtcncpbcbedfakaaGreat
end
section
namespace Go.Proofs.YtcncpbcbedfakaaGreat
set_option maxRecDepth 100000
set_option maxHeartbeats 4000000
def dgB (n : Int) : Dg := ⟨UInt8.ofInt n :: List.replicate 31 0, by simp⟩
theorem XCb {n : Int} (h : 0 ≤ n ∧ n < 256) : idR.f (dgB n) = .i .u8 n :: List.replicate 31 (.i .u8 0) := by
 have e : ((UInt8.ofInt n).toNat : Int) = n := by
  simp [UInt8.ofInt]
  omega
 show u8A (UInt8.ofInt n) :: (List.replicate 31 (0 : UInt8)).map u8A = _
 unfold u8A
 rw [e]
 rfl
def ZXQ : List AV → List AB → Option (AV × List AB)
 | [.i .i64 a, .i .i64 b], h => some (.ag [.i .i64 a, .i .i64 b], h)
 | _, _ => none
theorem zpR : Spec Tryz.prog 34 ZXQ := by
 intro args h v h' e
 unfold ZXQ at e
 split at e
 ·cases e
  refine FnAt.c (FnAt.run (by kernel_rfl) (T := ⟨[], []⟩) ⟨trivial, trivial⟩ Tryz.func34 sw34 fun ho hh => ?_)
  unfold w34
  simp only [QhW, YqD, z18, Xq8, if_true, if_false, reduceIte, Nat.reduceAdd, Nat.reduceSub, Nat.reduceLeDiff, Nat.reduceEqDiff, Nat.reduceMul, Nat.reduceLT, Int.reduceLT, Int.reduceLE, Int.reduceEq]
  exact Bt.drop _ hh rfl (by simp only [Ztp, XDC, Xrx, Y8A, qn9, ok_i, Bool.and_true])
 ·cases e
def zeo : List AV → List AB → Option (AV × List AB)
 | [.i .u8 n, .i .i64 a, .i .i64 b], h => if 0 ≤ n ∧ n < 256 then some (.ag (Kd6.f ((a, b), dgB n)), h) else none
 | _, _ => none
theorem ZwE : Spec Tryz.prog 32 zeo := by
 intro args h v h' e
 unfold zeo at e
 split at e
 ·rename_i n a b
  split at e
  ·rename_i hn
   cases e
   refine FnAt.c (FnAt.run (by kernel_rfl) (T := ⟨[⟨34, ZXQ, fun _ => []⟩], []⟩) ⟨⟨zpR, trivial⟩, trivial⟩ Tryz.func32 sw32 fun ho hh => ?_)
   unfold w32
   rw [Kw9, XCb hn]
   simp only [QhW, YqD, z18, Xq8, if_true, if_false, reduceIte, Nat.reduceAdd, Nat.reduceSub, Nat.reduceLeDiff, Nat.reduceEqDiff, Nat.reduceMul, Nat.reduceLT, Int.reduceLT, Int.reduceLE, Int.reduceEq, ZXQ]
   exact Bt.drop _ hh rfl (by simp only [Ztp, XDC, Xrx, Y8A, qn9, ok_i, Bool.and_true])
  ·cases e
 ·cases e
noncomputable def JYI : List AV → List AB → Option (AV × List AB)
 | [.i .i64 a, .i .i64 b, s], h => if qD3 [a, b] [] ∧ s.isSl = true then some (.ag [s, rsl intR h.length (fmO [a, b] []).1, rsl dotR (h.length + 1) (fmO [a, b] []).2], h ++ [resB intR true (fmO [a, b] []).1, resB dotR true (fmO [a, b] []).2]) else none
 | _, _ => none
theorem qCz : Spec Tryz.prog 31 JYI := by
 intro args h v h' e
 unfold JYI at e
 split at e
 ·rename_i a b s
  split at e
  ·rename_i hr
   cases e
   refine FnAt.c (FnAt.run (by kernel_rfl) (T := ⟨[⟨58, ZeZ, fun _ => []⟩], []⟩) ⟨⟨QJQ, trivial⟩, trivial⟩ Tryz.func31 sw31 fun ho hh => ?_)
   simp only [XDC, Bool.and_eq_true] at ho
   have os := ho.2.2.1
   have hr1 := eq_true hr.1
   have fs : ∀ c, s.ok (fun i => decide (i < h.length + c)) = true := fun c => AV.ok_mono (fun i q => by simp only [decide_eq_true_eq] at q ⊢; omega) s os
   have fr : ∀ sel, Wk (s.ren (selN h.length sel)) s := fun sel => Wk.ren (fun i hi => ZiG hi) os
   have gu : ∀ (L : List AB) (k : Nat), ownC L k = some [.i .i64 a, .i .i64 b] → getS intR (h ++ L) (.sl (h.length + k) 0 2 2 none) = some [a, b] := fun L k q => (ZCP (r := intR) (n := 2) (l := [a, b]) q (by unfold maxLen; simp) (by simp)).get
   have f0 : (([] : Dots).length ≤ 100000) = True := eq_true (Nat.zero_le _)
   have f4 : ((fmO [a, b] []).2.length ≤ 4096) = True := eq_true (Nat.le_trans (KAx hr.1) (Nat.zero_le _))
   unfold w31
   simp only [QhW, YqD, z18, Xq8, if_true, if_false, reduceIte, Nat.reduceAdd, Nat.reduceSub, Nat.reduceLeDiff, Nat.reduceEqDiff, Nat.reduceMul, Nat.reduceLT, Int.reduceLT, Int.reduceLE, Int.reduceEq, ZeZ, gu, f0, f4, hr1, Xm8 hr.2, Zl9 hr.2, Z41 hr.2]
   have wag : ∀ sel A B, Wk (.ag [s.ren (selN h.length sel), A, B]) (.ag [s, A, B]) = True := fun sel A B => eq_true (Kql ⟨fr sel, Wk.refl _, Wk.refl _, trivial⟩)
   exact Bt.sel [2, 3] hh (by decide) (by simp only [KlE, FrSel, BlkSel, AV.ren, renL, AV.ok, okL, Option.some.injEq, exists_eq_left', List.length_cons, List.length_nil, Nat.reduceAdd, Nat.reduceLT, reduceCtorEq, implies_true, exists_eq']) (by simp only [KlE, FrSel, BlkSel, AV.ren, renL, AV.ok, okL, Option.some.injEq, exists_eq_left', List.length_cons, List.length_nil, Nat.reduceAdd, Nat.reduceLT, reduceCtorEq, implies_true, exists_eq', fs, fr, wag])
  ·cases e
 ·cases e
def fldV (off : Nat) (sz : Option Nat) : AV → Option AV
 | .ag l => match sz with
  | none => l[off]?
  | some n => some (.ag ((l.drop off).take n))
 | _ => none
theorem qgA {T : Env} {fr : List AV} {h : List AB} (off : Nat) (sz : Option Nat) (x : Opd) : opR T (.fld off sz x) fr h = (fldV off sz (x.ev fr)).map (·, h) := by
 show (match x.ev fr with | .ag l => _ | _ => _) = _
 unfold fldV
 split
 ·cases sz with
  | none => rfl
  | some n => rfl
 ·rfl
noncomputable def zcH : List AV → List AB → Option (AV × List AB)
 | [.i .i64 a, .i .i64 b], h => if qD3 [a, b] [] then some (.ag [rsl intR h.length (fmO [a, b] []).1, rsl dotR (h.length + 1) (fmO [a, b] []).2], h ++ [resB intR true (fmO [a, b] []).1, resB dotR true (fmO [a, b] []).2]) else none
 | _, _ => none
theorem XL6 : Spec Tryz.prog 35 zcH := by
 intro args h v h' e
 unfold zcH at e
 split at e
 ·rename_i a b
  split at e
  ·rename_i hr
   cases e
   refine FnAt.c (FnAt.run (by kernel_rfl) (T := ⟨[⟨31, JYI, fun _ => []⟩], []⟩) ⟨⟨qCz, trivial⟩, trivial⟩ Tryz.func35 sw35 fun ho hh => ?_)
   have hr1 := eq_true hr
   unfold w35
   simp only [QhW, YqD, z18, Xq8, if_true, if_false, reduceIte, Nat.reduceAdd, Nat.reduceSub, Nat.reduceLeDiff, Nat.reduceEqDiff, Nat.reduceMul, Nat.reduceLT, Int.reduceLT, Int.reduceLE, Int.reduceEq, JYI, nsSl, hr1, qgA, fldV]
   exact Bt.sel [1, 2] hh (by decide) (by simp only [KlE, FrSel, BlkSel, AV.ren, renL, AV.ok, okL, Option.some.injEq, exists_eq_left', List.length_cons, List.length_nil, Nat.reduceAdd, Nat.reduceLT, reduceCtorEq, implies_true, exists_eq']) (by simp only [KlE, FrSel, BlkSel, AV.ren, renL, AV.ok, okL, Option.some.injEq, exists_eq_left', List.length_cons, List.length_nil, Nat.reduceAdd, Nat.reduceLT, reduceCtorEq, implies_true, exists_eq'])
  ·cases e
 ·cases e
def wrB (hs : List Hd) (v : List Int) (ds : Dots) (x : Hd) (v' : List Int) (ds' : Dots) (hw : List Hd) (vw : List Int) (dw : Dots) (er : Int) : Prop :=
 wrE hs v ds x.1 v' ds' = er ∧ ((wrE hs v ds x.1 v' ds' = 0 ∧ wrL hs v' ds' x = hw ∧ (mkO (z9r v v' ds ds').1 (z9r v v' ds ds').2 x.1).1 = vw ∧ (mkO (z9r v v' ds ds').1 (z9r v v' ds ds').2 x.1).2 = dw) ∨ (wrE hs v ds x.1 v' ds' ≠ 0 ∧ [] = hw ∧ [] = vw ∧ [] = dw))
noncomputable instance (hs : List Hd) (v : List Int) (ds : Dots) (x : Hd) (v' : List Int) (ds' : Dots) (hw : List Hd) (vw : List Int) (dw : Dots) (er : Int) : Decidable (wrB hs v ds x v' ds' hw vw dw er) := Classical.propDecidable _
noncomputable def Xie : List AV → List AB → Option (AV × List AB)
 | [.ag [l, s, t], .ag [.i .i64 a, .i .i64 b], .i .u8 n, .ag [s', t'], .ag [lw, sw, tw], .i .i64 er], h => (getS Kd6 h l).bind fun hs => (getS intR h s).bind fun v => (getS dotR h t).bind fun ds => (getS intR h s').bind fun v' => (getS dotR h t').bind fun ds' => (getS Kd6 h lw).bind fun hw => (getS intR h sw).bind fun vw => (getS dotR h tw).bind fun dw =>
   if hs.length ≤ 1000 ∧ t.capOk = true ∧ t'.capOk = true ∧ 0 ≤ n ∧ n < 256 then some (.b (decide (wrB hs v ds ((a, b), dgB n) v' ds' hw vw dw er)), h) else none
 | _, _ => none
theorem QLl : Spec Tryz.prog 33 Xie := by
 intro args h v h' e
 unfold Xie at e
 split at e
 ·rename_i l s t a b n s' t' lw sw tw er
  obtain ⟨hs, hl, e⟩ := zZA e
  obtain ⟨xs, hv, e⟩ := zZA e
  obtain ⟨ds, hd, e⟩ := zZA e
  obtain ⟨xs', hv', e⟩ := zZA e
  obtain ⟨ds', hd', e⟩ := zZA e
  obtain ⟨hw, hlw, e⟩ := zZA e
  obtain ⟨vw, hvw, e⟩ := zZA e
  obtain ⟨dw, hdw, e⟩ := zZA e
  split at e
  ·rename_i hc
   obtain ⟨hL, k1, k2, hn⟩ := hc
   cases e
   refine FnAt.c (FnAt.run (by kernel_rfl) (T := ⟨[⟨18, K4d, fun _ => []⟩, ⟨14, KRb, fun _ => []⟩], []⟩) ⟨⟨KVZ, KiC, trivial⟩, trivial⟩ Tryz.func33 sw33 fun ho hh => ?_)
   simp only [XDC, Y8A, Bool.and_eq_true] at ho
   have f1 := hl.fx ho.1.1 (sz := 34) rfl
   have f2 := hv.fx ho.1.2.1 (sz := 1) rfl
   have f3 := hd.fx ho.1.2.2.1 (sz := 2) rfl
   have f4 := hv'.fx ho.2.2.2.1.1 (sz := 1) rfl
   have f5 := hd'.fx ho.2.2.2.1.2.1 (sz := 2) rfl
   have f6 := hlw.fx ho.2.2.2.2.1.1 (sz := 34) rfl
   have f7 := hvw.fx ho.2.2.2.2.1.2.1 (sz := 1) rfl
   have f8 := hdw.fx ho.2.2.2.2.1.2.2.1 (sz := 2) rfl
   have hL2 : (hs.length ≤ 100000) = True := eq_true (by omega)
   have gi : getI (.ag (.i .u8 n :: List.replicate 31 (.i .u8 0))) = some (dgB n) := by rw [← XCb hn]; exact KgE _
   simp only [QhW, YqD] at gi
   unfold w33
   by_cases hE : wrE hs xs ds (a, b) xs' ds' = 0
   ·obtain ⟨c1, c2, c3, c4, c5, c6, c7⟩ := Jgl hE
    have ra := XlN.1 c1
    have nm := JPR (Zi4 ra.nf (qmZ c3)) c2
    have n0 := JAn hs xs' ds' ((a, b), dgB n)
    have n1 : ((wrL hs xs' ds' ((a, b), dgB n)).length ≤ 1000000) = True := eq_true (by omega)
    have n2 : ((mkO (z9r xs xs' ds ds').1 (z9r xs xs' ds ds').2 (a, b)).1.length ≤ 1000000) = True := eq_true (by have := nm.rg.1; omega)
    have n3 : ((mkO (z9r xs xs' ds ds').1 (z9r xs xs' ds ds').2 (a, b)).2.length ≤ 1000000) = True := eq_true (by omega)
    simp only [QhW, YqD, z18, KHF, Xq8, if_true, if_false, ↓reduceIte, Nat.reduceAdd, Nat.reduceSub, Nat.reduceLeDiff, Nat.reduceEqDiff, Nat.reduceMul, Nat.reduceLT, Int.reduceLT, Int.reduceLE, Int.reduceEq, CO.tmps, Opd.tmps, optT, Nat.reducePow, Nat.reduceDiv, Nat.reduceMod, f1, f2, f3, f4, f5, f6, f7, f8, K4d, KRb, gi, hE, hL2, k1, k2, n1, n2, n3, z9n, ne_eq, not_false_eq_true, not_true_eq_false, decide_true, decide_false]
    exact ⟨fun q => Bt.dropB _ hh (decide_eq_decide.2 ⟨fun z => ⟨hE.trans q, .inl ⟨hE, z⟩⟩, fun z => z.2.elim (fun w => w.2) fun w => absurd hE w.1⟩), fun q => Bt.dropB _ hh (decide_eq_false fun z => q (hE.symm.trans z.1)).symm⟩
   ·have hE' := eq_false hE
    simp only [QhW, YqD, z18, KHF, Xq8, if_true, if_false, ↓reduceIte, Nat.reduceAdd, Nat.reduceSub, Nat.reduceLeDiff, Nat.reduceEqDiff, Nat.reduceMul, Nat.reduceLT, Int.reduceLT, Int.reduceLE, Int.reduceEq, CO.tmps, Opd.tmps, optT, Nat.reducePow, Nat.reduceDiv, Nat.reduceMod, f1, f2, f3, f4, f5, f6, f7, f8, K4d, KRb, gi, hE', hL2, k1, k2, Yot, ne_eq, not_false_eq_true, not_true_eq_false, decide_true, decide_false]
    exact ⟨fun q => Bt.dropB _ hh (decide_eq_decide.2 ⟨fun z => ⟨q, .inr ⟨hE, z⟩⟩, fun z => z.2.elim (fun w => absurd w.1 hE) fun w => w.2⟩), fun q => Bt.dropB _ hh (decide_eq_false fun z => q z.1).symm⟩
  ·cases e
 ·cases e
def jnB (hs : List Hd) (v : List Int) (ds : Dots) (hs' : List Hd) (v' : List Int) (ds' : Dots) (hw : List Hd) (vw : List Int) (dw : Dots) (er : Int) : Prop :=
 (QeQ hs v ds = 0 ∧ QeQ hs' v' ds' = 0) ∧ (z9r v v' ds ds').2.length ≤ 4096 ∧ ((¬ agreeP hs hs' ∧ er = 9 ∧ [] = hw ∧ [] = vw ∧ [] = dw) ∨ (agreeP hs hs' ∧ er = 0 ∧ jnL hs hs' v v' ds ds' = hw ∧ (z9r v v' ds ds').1 = vw ∧ (z9r v v' ds ds').2 = dw))
open Classical in
noncomputable def Yrd : List AV → List AB → Option (AV × List AB)
 | [.ag [l, s, t], .ag [l', s', t'], .ag [lw, sw, tw], .i .i64 er], h => (getS Kd6 h l).bind fun hs => (getS intR h s).bind fun v => (getS dotR h t).bind fun ds => (getS Kd6 h l').bind fun hs' => (getS intR h s').bind fun v' => (getS dotR h t').bind fun ds' => (getS Kd6 h lw).bind fun hw => (getS intR h sw).bind fun vw => (getS dotR h tw).bind fun dw =>
   if (hs.length ≤ 1000 ∧ hs'.length ≤ 1000) ∧ t.capOk = true ∧ t'.capOk = true ∧ jnB hs v ds hs' v' ds' hw vw dw er then some (.b true, h) else none
 | _, _ => none
theorem YCD : Spec Tryz.prog 36 Yrd := by
 intro args h v h' e
 unfold Yrd at e
 split at e
 ·rename_i l s t l' s' t' lw sw tw er
  obtain ⟨hs, hl, e⟩ := zZA e
  obtain ⟨xs, hv, e⟩ := zZA e
  obtain ⟨ds, hd, e⟩ := zZA e
  obtain ⟨hs', hl', e⟩ := zZA e
  obtain ⟨xs', hv', e⟩ := zZA e
  obtain ⟨ds', hd', e⟩ := zZA e
  obtain ⟨hw, hlw, e⟩ := zZA e
  obtain ⟨vw, hvw, e⟩ := zZA e
  obtain ⟨dw, hdw, e⟩ := zZA e
  split at e
  ·rename_i hc
   obtain ⟨⟨hL, hL'⟩, k1, k2, ⟨c1, c2⟩, g, hj⟩ := hc
   cases e
   refine FnAt.c (FnAt.run (by kernel_rfl) (T := ⟨[⟨12, QSh, fun _ => []⟩, ⟨14, KRb, fun _ => []⟩], []⟩) ⟨⟨QQf, KiC, trivial⟩, trivial⟩ Tryz.func36 sw36 fun ho hh => ?_)
   simp only [XDC, Y8A, Bool.and_eq_true] at ho
   have f1 := hl.fx ho.1.1 (sz := 34) rfl
   have f2 := hv.fx ho.1.2.1 (sz := 1) rfl
   have f3 := hd.fx ho.1.2.2.1 (sz := 2) rfl
   have f4 := hl'.fx ho.2.1.1 (sz := 34) rfl
   have f5 := hv'.fx ho.2.1.2.1 (sz := 1) rfl
   have f6 := hd'.fx ho.2.1.2.2.1 (sz := 2) rfl
   have f7 := hlw.fx ho.2.2.1.1 (sz := 34) rfl
   have f8 := hvw.fx ho.2.2.1.2.1 (sz := 1) rfl
   have f9 := hdw.fx ho.2.2.1.2.2.1 (sz := 2) rfl
   have hL1 : (hs.length ≤ 10000) = True := eq_true (by omega)
   have hL2 : (hs'.length ≤ 10000) = True := eq_true (by omega)
   have g' := eq_true g
   have n0 := q55 hs hs' xs xs' ds ds'
   have nj := Zi4 (XlN.1 c1).nf (XlN.1 c2).nf
   unfold w36
   rcases hj with ⟨j1, rfl, rfl, rfl, rfl⟩ | ⟨j1, rfl, rfl, rfl, rfl⟩
   ·have j1' := eq_false j1
    simp only [QhW, YqD, z18, KHF, Xq8, if_true, if_false, ↓reduceIte, Nat.reduceAdd, Nat.reduceSub, Nat.reduceLeDiff, Nat.reduceEqDiff, Nat.reduceMul, Nat.reduceLT, Int.reduceLT, Int.reduceLE, Int.reduceEq, CO.tmps, Opd.tmps, optT, Nat.reducePow, Nat.reduceDiv, Nat.reduceMod, f1, f2, f3, f4, f5, f6, f7, f8, f9, QSh, KRb, c1, c2, j1', hL1, hL2, k1, k2, g', Yot, and_self, eq_self, ne_eq, not_false_eq_true, not_true_eq_false, decide_true, decide_false]
    exact Bt.dropB _ hh rfl
   ·have j1' := eq_true j1
    have n1 : ((jnL hs hs' xs xs' ds ds').length ≤ 1000000) = True := eq_true (by omega)
    have n2 : ((z9r xs xs' ds ds').1.length ≤ 1000000) = True := eq_true (by have := nj.rg.1; omega)
    have n3 : ((z9r xs xs' ds ds').2.length ≤ 1000000) = True := eq_true (by omega)
    simp only [QhW, YqD, z18, KHF, Xq8, if_true, if_false, ↓reduceIte, Nat.reduceAdd, Nat.reduceSub, Nat.reduceLeDiff, Nat.reduceEqDiff, Nat.reduceMul, Nat.reduceLT, Int.reduceLT, Int.reduceLE, Int.reduceEq, CO.tmps, Opd.tmps, optT, Nat.reducePow, Nat.reduceDiv, Nat.reduceMod, f1, f2, f3, f4, f5, f6, f7, f8, f9, QSh, KRb, c1, c2, j1', hL1, hL2, k1, k2, g', n1, n2, n3, z9n, and_self, eq_self, ne_eq, not_false_eq_true, not_true_eq_false, decide_true, decide_false]
    exact Bt.dropB _ hh rfl
  ·cases e
 ·cases e
end Go.Proofs.YtcncpbcbedfakaaGreat
end
