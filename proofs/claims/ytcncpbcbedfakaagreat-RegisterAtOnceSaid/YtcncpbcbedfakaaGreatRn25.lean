/- Part 25 of what the laws' proofs rest on. No condition. -/
import Derived.Test.YtcncpbcbedfakaaGreatRn24
set_option linter.all false
section
namespace Go.Proofs.YtcncpbcbedfakaaGreat
set_option maxRecDepth 100000
set_option maxHeartbeats 4000000
set_option linter.unusedSimpArgs false
def ixaV (k sz : Nat) (agg : Bool) : AV → AV → Option AV
 | .ag l, .i _ n => if 0 ≤ n ∧ n < k then (if agg then some (.ag ((l.drop (n.toNat * sz)).take sz)) else l[n.toNat * sz]?) else none
 | _, _ => none
theorem opR_ixa {T : Env} {fr : List AV} {h : List AB} (k sz : Nat) (agg : Bool) (x i : Opd) : opR T (.ixa k sz agg x i) fr h = (ixaV k sz agg (x.ev fr) (i.ev fr)).map (·, h) := by
 show (match x.ev fr, i.ev fr with | .ag l, .i _ n => _ | _, _ => _) = _
 unfold ixaV
 split
 ·split
  ·split <;> rfl
  ·rfl
 ·rfl
noncomputable def T_ASeq : List AV → List AB → Option (AV × List AB)
 | [s, f], h => if s.isNs = true then T_ASeq0 [.ns, f] h else T_ASeq1 [s, f] h
 | _, _ => none
def wsA : List AV → List Nat
 | [s, _] => idOf s
 | _ => []
theorem ASeq_spec : Spec Tryz.prog 45 T_ASeq := by
 intro args h v h' e
 unfold T_ASeq at e
 split at e
 ·rename_i s f
  split at e
  ·rename_i hn
   have : s = .ns := by cases s <;> first | rfl | cases hn
   subst this
   exact ASeq0_spec _ _ _ _ e
  ·exact ASeq1_spec _ _ _ _ e
 ·cases e
theorem rsl_isNs {α : Type} {r : Row α} (id : Nat) (l : List α) : (rsl r id l).isNs = false := by unfold rsl; split <;> rfl
noncomputable def jnL (l l' : List Hd) (v v' : List Int) (ds ds' : Dots) : List Hd := sortP cfH (jnU l l' v v' ds ds')
theorem jnL_jn {l l' : List Hd} {v v' : List Int} {ds ds' : Dots} (a : RG l v ds) (b : RG l' v' ds') : Jn l l' v v' ds ds' (jnL l l' v v' ds ds') := ⟨sortH_rise (jnU_ne a b), fun x => sortH_mem _ x⟩
open Classical in
noncomputable def T_pJoin : List AV → List AB → Option (AV × List AB)
 | [.ag [l, s, t], .ag [l', s', t']], h => (getS heldR h l).bind fun hs => (getS intR h s).bind fun v => (getS dotR h t).bind fun ds => (getS heldR h l').bind fun hs' => (getS intR h s').bind fun v' => (getS dotR h t').bind fun ds' =>
   if (hs.length ≤ 10000 ∧ hs'.length ≤ 10000) ∧ t.capOk = true ∧ t'.capOk = true then
    if checkG hs v ds ≠ 0 then some (.tu [.ag [.ns, .ns, .ns], .i .i64 (checkG hs v ds)], h)
    else if checkG hs' v' ds' ≠ 0 then some (.tu [.ag [.ns, .ns, .ns], .i .i64 (checkG hs' v' ds')], h)
    else if ¬ agreeP hs hs' then some (.tu [.ag [.ns, .ns, .ns], .i .i64 9], h)
    else if ¬ (joinO v v' ds ds').2.length ≤ 4096 then some (.tu [.ag [.ns, .ns, .ns], .i .i64 10], h)
    else some (.tu [.ag [rsl heldR h.length (jnL hs hs' v v' ds ds'), rsl intR (h.length + 1) (joinO v v' ds ds').1, rsl dotR (h.length + 2) (joinO v v' ds ds').2], .i .i64 0], h ++ [resB heldR true (jnL hs hs' v v' ds ds'), resB intR true (joinO v v' ds ds').1, resB dotR true (joinO v v' ds ds').2])
   else none
 | _, _ => none
theorem wsA_ns (f : AV) : wsA [.ns, f] = [] := _root_.id rfl
theorem wsA_rsl {α : Type} {r : Row α} (i : Nat) (l : List α) (f : AV) : wsA [rsl r i l, f] = [i] := idOf_rsl i l
theorem bxc_own (h L : List AB) (k : Nat) (cs : List AV) : bxc (h ++ L) (h.length + k) cs = h ++ L.set k (.blk false true cs) := set_own L k _
theorem as_nil {h : List AB} {l v d : AV} {hs : List Hd} {vs : List Int} {ds : Dots} (h1 : Rd heldR h l hs) (h2 : Rd intR h v vs) (h3 : Rd dotR h d ds) (hL : hs.length ≤ 100000) (L : List AB) (a b : Nat) (b1 : bxL L a = some l) (b2 : ownC L b = some [v, d]) :
  T_ASeq [.ns, .f (.func 81) [] [.p (h.length + a) 0, .p (h.length + b) 0]] (h ++ L) = some (apS heldR (h.length + L.length) (outL vs ds hs), h ++ (L ++ [resB heldR true (outL vs ds hs)])) := by
 unfold T_ASeq
 dsimp only
 rw [if_pos (show AV.ns.isNs = true from rfl)]
 simp only [T_ASeq0, qIn_own b1 b2 (h1.app L).get (h2.app L).get (h3.app L).get, Option.bind_some]
 rw [if_pos hL, List.length_append, List.append_assoc]
open Classical in
theorem as_app {h : List AB} {l v d : AV} {hs : List Hd} {vs : List Int} {ds : Dots} (h1 : Rd heldR h l hs) (h2 : Rd intR h v vs) (h3 : Rd dotR h d ds) (hL : hs.length ≤ 100000) {o : List Hd} (h0 : o ≠ []) (ho : o.length ≤ 100000) (L : List AB) (k a b : Nat) (hk : L[k]? = some (resB heldR true o)) (b1 : bxL (L.set k .dead) a = some l) (b2 : ownC (L.set k .dead) b = some [v, d]) :
  T_ASeq [rsl heldR (h.length + k) o, .f (.func 81) [] [.p (h.length + a) 0, .p (h.length + b) 0]] (h ++ L) = if outL vs ds hs = [] then some (rsl heldR (h.length + k) o, h ++ L) else some (apS heldR (h.length + L.length) (o ++ outL vs ds hs), h ++ (L.set k .dead ++ [resB heldR true (o ++ outL vs ds hs)])) := by
 have e : T_ASeq [rsl heldR (h.length + k) o, .f (.func 81) [] [.p (h.length + a) 0, .p (h.length + b) 0]] (h ++ L) = T_ASeq1 [rsl heldR (h.length + k) o, .f (.func 81) [] [.p (h.length + a) 0, .p (h.length + b) 0]] (h ++ L) := by
  unfold T_ASeq
  dsimp only
  rw [rsl_isNs, if_neg (by decide)]
 have hk2 : (h ++ L)[h.length + k]? = some (resB heldR true o) := by rw [own_at']; exact hk
 have hg := (rsl_rd hk2 (by unfold maxLen; omega)).get
 rw [e]
 simp only [T_ASeq1, idOf_rsl, hg, Option.bind_some, set_own]
 rw [if_pos ⟨trivial, h0, hk2, ho⟩, qIn_own b1 b2 (h1.app _).get (h2.app _).get (h3.app _).get]
 simp only [Option.bind_some]
 rw [if_pos hL, List.length_append, List.append_assoc]
theorem idx_neg {α : Type} {p : α → Prop} [DecidablePred p] {l : List α} (h : idx p l < 0) : ¬ ∃ x ∈ l, p x := fun q => by
 have := (idx_has p l).2 q
 omega
theorem idxFrom_get {α : Type} (p : α → Prop) [DecidablePred p] (d : α) : ∀ (l : List α) (n : Nat), 0 ≤ idxFrom p l n → ∃ j, j < l.length ∧ idxFrom p l n = ((n + j : Nat) : Int) ∧ p (l.getD j d)
 | [], n, h => by simp [idxFrom] at h
 | a :: l, n, h => by
  unfold idxFrom at h ⊢
  split
  ·rename_i q
   exact ⟨0, by simp, by simp, by simpa using q⟩
  ·rename_i q
   rw [if_neg q] at h
   obtain ⟨j, h1, h2, h3⟩ := idxFrom_get p d l (n + 1) h
   exact ⟨j + 1, by simpa using h1, by rw [h2]; congr 1; omega, by simpa using h3⟩
theorem idx_get {α : Type} {p : α → Prop} [DecidablePred p] (d : α) {l : List α} (h : ¬ idx p l < 0) : ∃ j, j < l.length ∧ idx p l = (j : Int) ∧ p (l.getD j d) := by
 obtain ⟨j, h1, h2, h3⟩ := idxFrom_get p d l 0 (by unfold idx at h; omega)
 exact ⟨j, h1, by unfold idx; rw [h2, Nat.zero_add], h3⟩
open Classical in
noncomputable def bothI (l l' : List Hd) : List Hd := l.filter fun x => decide (∃ y ∈ l', y.1 = x.1)
theorem bothI_step {l l' : List Hd} {i : Nat} (h : i < l.length) : bothI (l.take (i + 1)) l' = bothI (l.take i) l' ++ (if ∃ y ∈ l', y.1 = (l.getD i heldR.d).1 then [l.getD i heldR.d] else []) := by
 unfold bothI
 rw [List.take_succ_eq_append_getElem h, List.filter_append, List.getD_eq_getElem?_getD, List.getElem?_eq_getElem h]
 simp only [Option.getD_some, List.filter_cons, List.filter_nil, decide_eq_true_eq]
theorem bothI_len (l l' : List Hd) (i : Nat) : (bothI (l.take i) l').length ≤ i := Nat.le_trans (List.length_filter_le _ _) (by rw [List.length_take]; omega)
theorem pJoin_at {h : List AB} (hz : h.map AB.freeze = h) {l s t l' s' t' : AV} {hs hs' : List Hd} {xs xs' : List Int} {ds ds' : Dots} (hl : Rd heldR h l hs) (hv : Rd intR h s xs) (hd : Rd dotR h t ds) (hl' : Rd heldR h l' hs') (hv' : Rd intR h s' xs') (hd' : Rd dotR h t' ds') (hL : hs.length ≤ 10000 ∧ hs'.length ≤ 10000) (k1 : t.capOk = true) (k2 : t'.capOk = true) (v : AV) (h' : List AB) (e : T_pJoin [.ag [l, s, t], .ag [l', s', t']] h = some (v, h')) :
  FnAt Tryz.prog 12 [.ag [l, s, t], .ag [l', s', t']] h v h' := by
 simp only [T_pJoin, hl.get, hv.get, hd.get, hl'.get, hv'.get, hd'.get, Option.bind_some] at e
 rw [if_pos ⟨hL, k1, k2⟩] at e
 refine FnAt.run (by kernel_rfl) (T := ⟨[⟨27, T_pgCheck, fun _ => []⟩, ⟨43, T_idxJ, fun _ => []⟩, ⟨46, T_unseen, fun _ => []⟩, ⟨47, T_turn, ws1⟩, ⟨48, T_cJoin, fun _ => []⟩, ⟨49, T_SortH, fun _ => []⟩, ⟨45, T_ASeq, wsA⟩], []⟩) ⟨⟨pgCheck_spec, idxJ_spec, unseen_spec, turn_spec, cJoin_spec, SortH_spec, ASeq_spec, trivial⟩, trivial⟩ Tryz.func12 sw12 fun ho hh => ?_
 simp only [okL_cons, ok_ag, Bool.and_eq_true] at ho
 have f1 := hl.fx ho.1.1 (sz := 34) rfl
 have f2 := hv.fx ho.1.2.1 (sz := 1) rfl
 have f3 := hd.fx ho.1.2.2.1 (sz := 2) rfl
 have f4 := hl'.fx ho.2.1.1 (sz := 34) rfl
 have f5 := hv'.fx ho.2.1.2.1 (sz := 1) rfl
 have f6 := hd'.fx ho.2.1.2.2.1 (sz := 2) rfl
 have hL1 : (hs.length ≤ 1000000) = True := eq_true (by omega)
 have hL2 : (hs'.length ≤ 1000000) = True := eq_true (by omega)
 have up : ∀ (t : AV), t.ok (fun i => decide (i < h.length)) = true → ∀ c, t.ok (fun i => decide (i < h.length + c)) = true := fun t ht c => AV.ok_mono (fun i q => by simp only [decide_eq_true_eq] at q ⊢; omega) t ht
 have rn : ∀ (t : AV), t.ok (fun i => decide (i < h.length)) = true → ∀ sel, Wk (t.ren (selN h.length sel)) t := fun t ht sel => Wk.ren (fun i hi => selN_old hi) ht
 have fo := fun c => And.intro (up l ho.1.1 c) (And.intro (up s ho.1.2.1 c) (And.intro (up t ho.1.2.2.1 c) (And.intro (up l' ho.2.1.1 c) (And.intro (up s' ho.2.1.2.1 c) (up t' ho.2.1.2.2.1 c)))))
 have fr := fun sel => And.intro (rn l ho.1.1 sel) (And.intro (rn s ho.1.2.1 sel) (And.intro (rn t ho.1.2.2.1 sel) (And.intro (rn l' ho.2.1.1 sel) (And.intro (rn s' ho.2.1.2.1 sel) (rn t' ho.2.1.2.2.1 sel)))))
 have wag : ∀ sel, Wk (.ag [l.ren (selN h.length sel), s.ren (selN h.length sel), t.ren (selN h.length sel), l'.ren (selN h.length sel), s'.ren (selN h.length sel), t'.ren (selN h.length sel)]) (.ag [l, s, t, l', s', t']) = True := fun sel => eq_true (Wk_ag ⟨rn l ho.1.1 sel, rn s ho.1.2.1 sel, rn t ho.1.2.2.1 sel, rn l' ho.2.1.1 sel, rn s' ho.2.1.2.1 sel, rn t' ho.2.1.2.2.1 sel, trivial⟩)
 have zw01 : IntKind.i64.wrap ((0 : Int) + 1) = 1 := by decide
 have zw12 : IntKind.i64.wrap ((1 : Int) + 1) = 2 := by decide
 unfold w12
 simp only [rep_0, rep_s, walkW, walkQ, walkX, if_true, if_false, ↓reduceIte, Nat.reduceAdd, Nat.reduceSub, Nat.reduceLeDiff, Nat.reduceEqDiff, Nat.reduceMul, Nat.reduceLT, Int.reduceLT, Int.reduceLE, Int.reduceEq, CO.tmps, Opd.tmps, optT, Nat.reducePow, Nat.reduceDiv, Nat.reduceMod, f1, f2, f3, f4, f5, f6]
 refine W_loopS (S := Nat) (fun i => 2 - i) (fun i => tp 2 ++ [.p (h.length + 0) 0, .p (h.length + 1) 0, .p (h.length + 2) 0] ++ tp 13 ++ [.ag [l, s, t, l', s', t'], .i .i64 i] ++ tp 76) (fun _ => h ++ [.blk false true [l, s, t], .blk false true [l', s', t'], .blk false true [.ns, .ns, .ns]]) (fun i => i ≤ 2 ∧ (1 ≤ i → checkG hs xs ds = 0) ∧ (2 ≤ i → checkG hs' xs' ds' = 0)) 0 ⟨by omega, fun q => by omega, fun q => by omega⟩ (Bt.wk (by simp only [walkW, walkX, if_true, if_false, reduceIte, Nat.reduceAdd, Nat.reduceSub, Nat.reduceLeDiff, Nat.reduceEqDiff, Nat.reduceMul, Nat.reduceLT, Int.reduceLT, Int.reduceLE, Int.reduceEq])) fun i hi => ?_
 obtain ⟨hi2, hc0, hc1⟩ := hi
 have ix0 : ixaV 2 3 true (.ag [l, s, t, l', s', t']) (.i .i64 0) = some (.ag [l, s, t]) := rfl
 have ix1 : ixaV 2 3 true (.ag [l, s, t, l', s', t']) (.i .i64 1) = some (.ag [l', s', t']) := rfl
 by_cases i0 : i = 0
 ·subst i0
  by_cases c0 : checkG hs xs ds = 0
  ·simp only [walkW, walkQ, walkX, if_true, if_false, ↓reduceIte, Nat.reduceAdd, Nat.reduceSub, Nat.reduceLeDiff, Nat.reduceEqDiff, Nat.reduceMul, Nat.reduceLT, Int.reduceLT, Int.reduceLE, Int.reduceEq, CO.tmps, Opd.tmps, optT, Nat.reducePow, Nat.reduceDiv, Nat.reduceMod, f1, f2, f3, f4, f5, f6, opR_ixa, ix0, T_pgCheck, c0, hL1, zw01, ne_eq, not_false_eq_true, not_true_eq_false, decide_true, decide_false]
   exact ⟨1, ⟨by decide, by simp, fun q => absurd q (by decide)⟩, by decide, Bt.sel [0, 1, 2] hh (by decide) (by simp only [walkS, FrSel, BlkSel, AV.ren, renL, AV.ok, okL, Option.some.injEq, exists_eq_left', List.length_cons, List.length_nil, Nat.reduceAdd, Nat.reduceLT, reduceCtorEq, implies_true, exists_eq', fo, fr]) (by simp only [walkS, FrSel, BlkSel, AV.ren, renL, AV.ok, okL, Option.some.injEq, exists_eq_left', List.length_cons, List.length_nil, Nat.reduceAdd, Nat.reduceLT, reduceCtorEq, implies_true, exists_eq', fo, fr, wag, Int.natCast_one])⟩
  ·have c0' := eq_false c0
   rw [if_pos c0] at e
   cases e
   simp only [walkW, walkQ, walkX, if_true, if_false, ↓reduceIte, Nat.reduceAdd, Nat.reduceSub, Nat.reduceLeDiff, Nat.reduceEqDiff, Nat.reduceMul, Nat.reduceLT, Int.reduceLT, Int.reduceLE, Int.reduceEq, CO.tmps, Opd.tmps, optT, Nat.reducePow, Nat.reduceDiv, Nat.reduceMod, f1, f2, f3, f4, f5, f6, opR_ixa, ix0, T_pgCheck, c0', hL1, zw01, ne_eq, not_false_eq_true, not_true_eq_false, decide_true, decide_false]
   exact Bt.drop _ hh rfl (by simp only [ok_tu, okL_cons, okL_nil, ok_ag, ok_ns, ok_i, Bool.and_true])
 by_cases i1 : i = 1
 ·subst i1
  have c0 := hc0 (Nat.le_refl _)
  rw [if_neg (not_not_intro c0)] at e
  by_cases c1 : checkG hs' xs' ds' = 0
  ·simp only [walkW, walkQ, walkX, if_true, if_false, ↓reduceIte, Nat.reduceAdd, Nat.reduceSub, Nat.reduceLeDiff, Nat.reduceEqDiff, Nat.reduceMul, Nat.reduceLT, Int.reduceLT, Int.reduceLE, Int.reduceEq, CO.tmps, Opd.tmps, optT, Nat.reducePow, Nat.reduceDiv, Nat.reduceMod, f1, f2, f3, f4, f5, f6, opR_ixa, ix1, T_pgCheck, c1, hL2, zw12, ne_eq, Int.natCast_one, not_false_eq_true, not_true_eq_false, decide_true, decide_false]
   exact ⟨2, ⟨by decide, fun _ => c0, by simp⟩, by decide, Bt.sel [0, 1, 2] hh (by decide) (by simp only [walkS, FrSel, BlkSel, AV.ren, renL, AV.ok, okL, Option.some.injEq, exists_eq_left', List.length_cons, List.length_nil, Nat.reduceAdd, Nat.reduceLT, reduceCtorEq, implies_true, exists_eq', fo, fr]) (by simp only [walkS, FrSel, BlkSel, AV.ren, renL, AV.ok, okL, Option.some.injEq, exists_eq_left', List.length_cons, List.length_nil, Nat.reduceAdd, Nat.reduceLT, reduceCtorEq, implies_true, exists_eq', fo, fr, wag, Int.cast_ofNat_Int])⟩
  ·have c1' := eq_false c1
   rw [if_pos c1] at e
   cases e
   simp only [walkW, walkQ, walkX, if_true, if_false, ↓reduceIte, Nat.reduceAdd, Nat.reduceSub, Nat.reduceLeDiff, Nat.reduceEqDiff, Nat.reduceMul, Nat.reduceLT, Int.reduceLT, Int.reduceLE, Int.reduceEq, CO.tmps, Opd.tmps, optT, Nat.reducePow, Nat.reduceDiv, Nat.reduceMod, f1, f2, f3, f4, f5, f6, opR_ixa, ix1, T_pgCheck, c1', hL2, zw12, ne_eq, Int.natCast_one, not_false_eq_true, not_true_eq_false, decide_true, decide_false]
   exact Bt.drop _ hh rfl (by simp only [ok_tu, okL_cons, okL_nil, ok_ag, ok_ns, ok_i, Bool.and_true])
 obtain rfl : i = 2 := by omega
 have c0 := hc0 (by decide)
 have c1 := hc1 (by decide)
 clear hc0 hc1
 rw [if_neg (not_not_intro c0), if_neg (not_not_intro c1)] at e
 have ra := checkG_rg.1 c0
 have rb := checkG_rg.1 c1
 simp only [walkW, walkQ, walkX, if_true, if_false, ↓reduceIte, Nat.reduceAdd, Nat.reduceSub, Nat.reduceLeDiff, Nat.reduceEqDiff, Nat.reduceMul, Nat.reduceLT, Int.reduceLT, Int.reduceLE, Int.reduceEq, CO.tmps, Opd.tmps, optT, Nat.reducePow, Nat.reduceDiv, Nat.reduceMod, f1, f2, f3, f4, f5, f6, Int.cast_ofNat_Int]
 have ih := (held_fx hl')
 refine W_loopS (S := Nat) (fun i => hs.length - i) (fun i => tp 2 ++ [.p (h.length + 0) 0, .p (h.length + 1) 0, .p (h.length + 2) 0] ++ tp 4 ++ [.p (h.length + 3) 0, apS heldR (h.length + 4) (bothI (hs.take i) hs')] ++ tp 23 ++ [l, .i .i64 hs.length, .i .i64 i] ++ tp 59) (fun i => h ++ [.blk false true [l, s, t], .blk false true [l', s', t'], .blk false true [.ns, .ns, .ns], .blk false true [l, s, t, l', s', t'], resB heldR true (bothI (hs.take i) hs')]) (fun i => i ≤ hs.length ∧ agreeP (hs.take i) hs') 0 ⟨Nat.zero_le _, fun x hx => by simp at hx⟩ ?_ fun i hi => ?_
 ·show Bt _ _ _ _ _ (h ++ ([.blk false true [l, s, t], .blk false true [l', s', t'], .blk false true [.ns, .ns, .ns], .blk false true [l, s, t, l', s', t']] ++ List.replicate 1 .dead))
  rw [← List.append_assoc]
  refine Bt.trans (Bt.wk ?_) (Bt.pad _ _ 1)
  rw [show apS heldR (h.length + 4) (bothI (hs.take 0) hs') = .ns from rfl]
  simp only [walkW, walkX, if_true, if_false, reduceIte, Nat.reduceAdd, Nat.reduceSub, Nat.reduceLeDiff, Nat.reduceEqDiff, Nat.reduceMul, Nat.reduceLT, Int.reduceLT, Int.reduceLE, Int.reduceEq]
 obtain ⟨hi2, hag⟩ := hi
 have lo := bothI_len hs hs' i
 by_cases gi : i < hs.length
 ·have gi' := eq_true gi
  have e1 : IntKind.i64.wrap ((i : Int) + 1) = ((i + 1 : Nat) : Int) := wrap_in (by unfold In64; omega)
  have hst := bothI_step (l' := hs') gi
  have hxm : hs.getD i heldR.d ∈ hs := by rw [List.getD_eq_getElem?_getD, List.getElem?_eq_getElem gi]; exact List.getElem_mem gi
  have htk : ∀ z, z ∈ hs.take (i + 1) ↔ z ∈ hs.take i ∨ z = hs.getD i heldR.d := fun z => by
   rw [List.take_succ_eq_append_getElem gi, List.mem_append, List.mem_singleton, List.getD_eq_getElem?_getD, List.getElem?_eq_getElem gi]
   rfl
  generalize hx : hs.getD i heldR.d = x at *
  generalize ho : bothI (hs.take i) hs' = o at *
  have ao : ∀ (n : Nat) (L : List Hd), (apS heldR (n + 4) L).ok (fun i => decide (i < n + 5)) = true := fun n L => apS_ok _ _ _ (by simp)
  by_cases hn : idx (fun y : Hd => y.1 = x.1) hs' < 0
  ·have hn' := eq_true hn
   have hno := idx_neg hn
   rw [if_neg hno, List.append_nil] at hst
   simp only [walkW, walkQ, walkX, if_true, if_false, ↓reduceIte, Nat.reduceAdd, Nat.reduceSub, Nat.reduceLeDiff, Nat.reduceEqDiff, Nat.reduceMul, Nat.reduceLT, Int.reduceLT, Int.reduceLE, Int.reduceEq, CO.tmps, Opd.tmps, optT, Nat.reducePow, Nat.reduceDiv, Nat.reduceMod, f1, f2, f3, f4, f5, f6, gi', hx, held_all1, held_len, held_take, over_at, List.length_cons, List.length_nil, T_idxJ, getH_f, rdBlk_app, hn', e1, ne_eq, not_false_eq_true, not_true_eq_false, decide_true, decide_false]
   refine ⟨i + 1, ⟨gi, fun z hz y hy ez => ?_⟩, by dsimp only; omega, ?_⟩
   ·rcases (htk z).1 hz with q | q
    ·exact hag z q y hy ez
    ·exact absurd ⟨y, hy, by rw [← ez, q]⟩ hno
   ·dsimp only
    rw [hst]
    exact Bt.sel [0, 1, 2, 3, 4] hh (by decide) (by simp only [walkS, FrSel, BlkSel, AV.ren, renL, AV.ok, okL, Option.some.injEq, exists_eq_left', List.length_cons, List.length_nil, Nat.reduceAdd, Nat.reduceLT, reduceCtorEq, implies_true, exists_eq', fo, fr]) (by simp only [walkS, FrSel, BlkSel, AV.ren, renL, AV.ok, okL, Option.some.injEq, exists_eq_left', List.length_cons, List.length_nil, Nat.reduceAdd, Nat.reduceLT, reduceCtorEq, implies_true, exists_eq', fo, fr, wag, ao, heldR_sz])
  ·have hn' := eq_false hn
   obtain ⟨j, hj, hij, hjd⟩ := idx_get heldR.d hn
   have hj' := eq_true hj
   have jn0 : ((j : Int) < 0) = False := eq_false (by omega)
   have hjm : hs'.getD j heldR.d ∈ hs' := by rw [List.getD_eq_getElem?_getD, List.getElem?_eq_getElem hj]; exact List.getElem_mem hj
   have hyes : ∃ y ∈ hs', y.1 = x.1 := ⟨_, hjm, hjd⟩
   rw [if_pos hyes] at hst
   generalize hy : hs'.getD j heldR.d = y at *
   by_cases hc : y.2 = x.2
   ·have hc' := eq_true hc
    have hagN : agreeP (hs.take (i + 1)) hs' := fun z hz y' hy' ez => by
     rcases (htk z).1 hz with q | q
     ·exact hag z q y' hy' ez
     ·have : y' = y := rb.one hy' hjm (by rw [← ez, q, hjd])
      rw [this, q, hc]
    by_cases hB : o = []
    ·rw [hB, List.nil_append] at hst
     have z3 : (1 * 48 ≤ 140737488355328 ∧ 1 ≤ maxLen) = True := eq_true ⟨by decide, by unfold maxLen; omega⟩
     simp only [hB, apS_nil, walkW, walkQ, walkX, if_true, if_false, ↓reduceIte, Nat.reduceAdd, Nat.reduceSub, Nat.reduceLeDiff, Nat.reduceEqDiff, Nat.reduceMul, Nat.reduceLT, Int.reduceLT, Int.reduceLE, Int.reduceEq, CO.tmps, Opd.tmps, optT, Nat.reducePow, Nat.reduceDiv, Nat.reduceMod, f1, f2, f3, f4, f5, f6, ih, gi', hx, hy, hj', held_all1, held_len, held_take, over_at, List.length_cons, List.length_nil, T_idxJ, getH_f, rdBlk_app, hij, jn0, hc', e1, eqc_id, held_id, id_ok, z3, ne_eq, not_false_eq_true, not_true_eq_false, decide_true, decide_false, HOk_own hh, mask_ownC hz, mask_ownQ hz, mask_ownQ0 hz]
     refine ⟨i + 1, ⟨gi, hagN⟩, by dsimp only; omega, ?_⟩
     dsimp only
     rw [hst]
     simp only [apS_one1, resB_one1]
     exact Bt.sel [0, 1, 2, 3, 7] hh (by decide) (by simp only [walkS, FrSel, BlkSel, AV.ren, renL, AV.ok, okL, Option.some.injEq, exists_eq_left', List.length_cons, List.length_nil, Nat.reduceAdd, Nat.reduceLT, reduceCtorEq, implies_true, exists_eq', fo, fr, wag]) (by simp only [walkS, FrSel, BlkSel, AV.ren, renL, AV.ok, okL, Option.some.injEq, exists_eq_left', List.length_cons, List.length_nil, Nat.reduceAdd, Nat.reduceLT, reduceCtorEq, implies_true, exists_eq', fo, fr, wag, heldR_sz])
    ·have hlB : o.length ≠ 0 := fun q => hB (List.eq_nil_of_length_eq_zero q)
     have gr : ∀ id, apS heldR id o = rsl heldR id o := fun id => apS_rsl _ hlB
     have fa := fun L k ys hb => appW_rslP (h := h) (p := h.length) rfl (r := heldR) (sz := 34) rfl L k o 48 1 ys hlB hb (by decide) (by omega) (by unfold maxLen; omega)
     simp only [gr, walkW, walkQ, walkX, if_true, if_false, ↓reduceIte, Nat.reduceAdd, Nat.reduceSub, Nat.reduceLeDiff, Nat.reduceEqDiff, Nat.reduceMul, Nat.reduceLT, Int.reduceLT, Int.reduceLE, Int.reduceEq, CO.tmps, Opd.tmps, optT, Nat.reducePow, Nat.reduceDiv, Nat.reduceMod, f1, f2, f3, f4, f5, f6, ih, gi', hx, hy, hj', held_all1, held_len, held_take, over_at, List.length_cons, List.length_nil, T_idxJ, getH_f, rdBlk_app, hij, jn0, hc', e1, eqc_id, held_id, id_ok, fa, ne_eq, not_false_eq_true, not_true_eq_false, decide_true, decide_false, HOk_own hh, mask_ownC hz, mask_ownQ hz, mask_ownQ0 hz]
     refine ⟨i + 1, ⟨gi, hagN⟩, by dsimp only; omega, ?_⟩
     dsimp only
     rw [hst]
     simp only [apS_snoc, resB_snoc]
     exact Bt.sel [0, 1, 2, 3, 7] hh (by decide) (by simp only [walkS, FrSel, BlkSel, AV.ren, renL, AV.ok, okL, Option.some.injEq, exists_eq_left', List.length_cons, List.length_nil, Nat.reduceAdd, Nat.reduceLT, reduceCtorEq, implies_true, exists_eq', fo, fr, wag]) (by simp only [walkS, FrSel, BlkSel, AV.ren, renL, AV.ok, okL, Option.some.injEq, exists_eq_left', List.length_cons, List.length_nil, Nat.reduceAdd, Nat.reduceLT, reduceCtorEq, implies_true, exists_eq', fo, fr, wag, heldR_sz])
   ·have hna : ¬ agreeP hs hs' := fun q => hc (q x hxm y hjm hjd.symm).symm
    have hc' := eq_false hc
    rw [if_pos hna] at e
    cases e
    simp only [walkW, walkQ, walkX, if_true, if_false, ↓reduceIte, Nat.reduceAdd, Nat.reduceSub, Nat.reduceLeDiff, Nat.reduceEqDiff, Nat.reduceMul, Nat.reduceLT, Int.reduceLT, Int.reduceLE, Int.reduceEq, CO.tmps, Opd.tmps, optT, Nat.reducePow, Nat.reduceDiv, Nat.reduceMod, f1, f2, f3, f4, f5, f6, ih, gi', hx, hy, hj', held_all1, held_len, held_take, over_at, List.length_cons, List.length_nil, T_idxJ, getH_f, rdBlk_app, hij, jn0, hc', e1, eqc_id, held_id, id_ok, ne_eq, not_false_eq_true, not_true_eq_false, decide_true, decide_false, HOk_own hh, mask_ownC hz, mask_ownQ hz, mask_ownQ0 hz]
    exact Bt.drop _ hh rfl (by simp only [ok_tu, okL_cons, okL_nil, ok_ag, ok_ns, ok_i, Bool.and_true])
 obtain rfl : i = hs.length := by omega
 have gi' := eq_false gi
 rw [List.take_length] at hag
 rw [if_neg (not_not_intro hag)] at e
 rw [List.take_length]
 rw [List.take_length] at lo
 simp only [walkW, walkQ, walkX, if_true, if_false, ↓reduceIte, Nat.reduceAdd, Nat.reduceSub, Nat.reduceLeDiff, Nat.reduceEqDiff, Nat.reduceMul, Nat.reduceLT, Int.reduceLT, Int.reduceLE, Int.reduceEq, CO.tmps, Opd.tmps, optT, Nat.reducePow, Nat.reduceDiv, Nat.reduceMod, f1, f2, f3, f4, f5, f6, gi']
 generalize hb : bothI hs hs' = o0 at *
 have hm : ∃ Lm : Nat → List Hd, Lm 0 = o0 ∧ Lm 1 = o0 ++ outL xs' ds' hs ∧ Lm 2 = o0 ++ outL xs' ds' hs ++ outL xs ds hs' := ⟨fun n => if n = 0 then o0 else if n = 1 then o0 ++ outL xs' ds' hs else o0 ++ outL xs' ds' hs ++ outL xs ds hs', rfl, rfl, rfl⟩
 obtain ⟨Lm, m0, m1, m2⟩ := hm
 have hp : ∃ Pm : Nat → AB, Pm 0 = .blk false true [l, s, t, l', s', t'] ∧ Pm 1 = .blk false true [l', s', t', l, s, t] ∧ Pm 2 = .blk false true [l, s, t, l', s', t'] := ⟨fun n => if n = 1 then .blk false true [l', s', t', l, s, t] else .blk false true [l, s, t, l', s', t'], rfl, rfl, rfl⟩
 obtain ⟨Pm, p0, p1, p2⟩ := hp
 have hS : ∃ Sm : Nat → AV, Sm 0 = apS heldR (h.length + 4) o0 ∧ Sm 1 = apS heldR (h.length + 4) (Lm 1) ∧ Sm 2 = rsl heldR (h.length + 4) (Lm 2) := ⟨fun n => if n = 0 then apS heldR (h.length + 4) o0 else if n = 1 then apS heldR (h.length + 4) (Lm 1) else rsl heldR (h.length + 4) (Lm 2), rfl, rfl, rfl⟩
 obtain ⟨Sm, S0, S1, S2⟩ := hS
 have ao : ∀ (n : Nat) (L : List Hd), (apS heldR (n + 4) L).ok (fun i => decide (i < n + 5)) = true := fun n L => apS_ok _ _ _ (by simp)
 have ro : ∀ (n : Nat) (L : List Hd), (rsl heldR (n + 4) L).ok (fun i => decide (i < n + 5)) = true := fun n L => rsl_ok _ _ _ (by simp)
 have apW : ∀ (n : Nat) (L : List Hd), Wk (rsl heldR n L) (apS heldR n L) = True := fun n L => eq_true (apS_wk n L)
 refine W_loopS (S := Nat) (fun i => 2 - i) (fun i => tp 2 ++ [.p (h.length + 0) 0, .p (h.length + 1) 0, .p (h.length + 2) 0] ++ tp 4 ++ [.p (h.length + 3) 0, Sm i] ++ tp 50 ++ [.i .i64 i] ++ tp 34) (fun i => h ++ [.blk false true [l, s, t], .blk false true [l', s', t'], .blk false true [.ns, .ns, .ns], Pm i, resB heldR true (Lm i)]) (fun i => i ≤ 2) 0 (by decide) (by
  show Bt _ _ _ _ _ (h ++ [.blk false true [l, s, t], .blk false true [l', s', t'], .blk false true [.ns, .ns, .ns], Pm 0, resB heldR true (Lm 0)])
  rw [m0, p0]
  exact Bt.wk (by simp only [walkW, walkX, if_true, if_false, reduceIte, Nat.reduceAdd, Nat.reduceSub, Nat.reduceLeDiff, Nat.reduceEqDiff, Nat.reduceMul, Nat.reduceLT, Int.reduceLT, Int.reduceLE, Int.reduceEq, S0])) fun i hi => ?_
 have lo0 : o0.length ≤ 100000 := by omega
 have la0 := outL_le xs' ds' hs
 have la1 := outL_le xs ds hs'
 have lo1 : (o0 ++ outL xs' ds' hs).length ≤ 100000 := by rw [List.length_append]; omega
 by_cases i0 : i = 0
 ·subst i0
  rw [m0, p0]
  have zw := zw01
  by_cases hB : o0 = []
  ·have asn := as_nil hl hv' hd' (by omega)
   simp only [hB, apS_nil, wsA_ns, asn, zw, S0, walkW, walkQ, walkX, if_true, if_false, ↓reduceIte, Nat.reduceAdd, Nat.reduceSub, Nat.reduceLeDiff, Nat.reduceEqDiff, Nat.reduceMul, Nat.reduceLT, Int.reduceLT, Int.reduceLE, Int.reduceEq, CO.tmps, Opd.tmps, optT, Nat.reducePow, Nat.reduceDiv, Nat.reduceMod, f1, f2, f3, f4, f5, f6, T_unseen, T_turn, hl.isSl, hv.isSl, hd.isSl, hl'.isSl, hv'.isSl, hd'.isSl, bxc_own, own_at', ne_eq, not_false_eq_true, not_true_eq_false, decide_true, decide_false, HOk_own hh, mask_ownC hz, mask_ownQ hz, mask_ownQ0 hz]
   refine ⟨1, by decide, by decide, ?_⟩
   simp only [m1, p1, S1, hB, List.nil_append]
   exact Bt.sel [0, 1, 2, 3, 7] hh (by decide) (by simp only [walkS, FrSel, BlkSel, AV.ren, renL, AV.ok, okL, Option.some.injEq, exists_eq_left', List.length_cons, List.length_nil, Nat.reduceAdd, Nat.reduceLT, reduceCtorEq, implies_true, exists_eq', fo, fr]) (by simp only [walkS, FrSel, BlkSel, AV.ren, renL, AV.ok, okL, Option.some.injEq, exists_eq_left', List.length_cons, List.length_nil, Nat.reduceAdd, Nat.reduceLT, reduceCtorEq, implies_true, exists_eq', fo, fr, wag, ao, ro, apW, Int.natCast_one])
  ·have hlB : (o0).length ≠ 0 := fun q => hB (List.eq_nil_of_length_eq_zero q)
   have gr : ∀ id, apS heldR id (o0) = rsl heldR id (o0) := fun id => apS_rsl _ hlB
   by_cases hO : outL xs' ds' hs = []
   ·have asa := fun L k a b hk b1 b2 => (as_app hl hv' hd' (by omega) hB lo0 L k a b hk b1 b2).trans (if_pos hO)
    simp only [gr, wsA_rsl, asa, zw, S0, walkW, walkQ, walkX, if_true, if_false, ↓reduceIte, Nat.reduceAdd, Nat.reduceSub, Nat.reduceLeDiff, Nat.reduceEqDiff, Nat.reduceMul, Nat.reduceLT, Int.reduceLT, Int.reduceLE, Int.reduceEq, CO.tmps, Opd.tmps, optT, Nat.reducePow, Nat.reduceDiv, Nat.reduceMod, f1, f2, f3, f4, f5, f6, T_unseen, T_turn, hl.isSl, hv.isSl, hd.isSl, hl'.isSl, hv'.isSl, hd'.isSl, bxc_own, own_at', ne_eq, not_false_eq_true, not_true_eq_false, decide_true, decide_false, HOk_own hh, mask_ownC hz, mask_ownQ hz, mask_ownQ0 hz]
    refine ⟨1, by decide, by decide, ?_⟩
    simp only [m1, p1, S1, hO, List.append_nil, gr]
    exact Bt.sel [0, 1, 2, 3, 4] hh (by decide) (by simp only [walkS, FrSel, BlkSel, AV.ren, renL, AV.ok, okL, Option.some.injEq, exists_eq_left', List.length_cons, List.length_nil, Nat.reduceAdd, Nat.reduceLT, reduceCtorEq, implies_true, exists_eq', fo, fr]) (by simp only [walkS, FrSel, BlkSel, AV.ren, renL, AV.ok, okL, Option.some.injEq, exists_eq_left', List.length_cons, List.length_nil, Nat.reduceAdd, Nat.reduceLT, reduceCtorEq, implies_true, exists_eq', fo, fr, wag, ao, ro, apW, Int.natCast_one])
   ·have asa := fun L k a b hk b1 b2 => (as_app hl hv' hd' (by omega) hB lo0 L k a b hk b1 b2).trans (if_neg hO)
    simp only [gr, wsA_rsl, asa, zw, S0, walkW, walkQ, walkX, if_true, if_false, ↓reduceIte, Nat.reduceAdd, Nat.reduceSub, Nat.reduceLeDiff, Nat.reduceEqDiff, Nat.reduceMul, Nat.reduceLT, Int.reduceLT, Int.reduceLE, Int.reduceEq, CO.tmps, Opd.tmps, optT, Nat.reducePow, Nat.reduceDiv, Nat.reduceMod, f1, f2, f3, f4, f5, f6, T_unseen, T_turn, hl.isSl, hv.isSl, hd.isSl, hl'.isSl, hv'.isSl, hd'.isSl, bxc_own, own_at', ne_eq, not_false_eq_true, not_true_eq_false, decide_true, decide_false, HOk_own hh, mask_ownC hz, mask_ownQ hz, mask_ownQ0 hz]
    refine ⟨1, by decide, by decide, ?_⟩
    simp only [m1, p1, S1]
    exact Bt.sel [0, 1, 2, 3, 7] hh (by decide) (by simp only [walkS, FrSel, BlkSel, AV.ren, renL, AV.ok, okL, Option.some.injEq, exists_eq_left', List.length_cons, List.length_nil, Nat.reduceAdd, Nat.reduceLT, reduceCtorEq, implies_true, exists_eq', fo, fr]) (by simp only [walkS, FrSel, BlkSel, AV.ren, renL, AV.ok, okL, Option.some.injEq, exists_eq_left', List.length_cons, List.length_nil, Nat.reduceAdd, Nat.reduceLT, reduceCtorEq, implies_true, exists_eq', fo, fr, wag, ao, ro, apW, Int.natCast_one])
 by_cases i1 : i = 1
 ·subst i1
  rw [m1, p1]
  have zw := zw12
  by_cases hB : o0 ++ outL xs' ds' hs = []
  ·have asn := as_nil hl' hv hd (by omega)
   simp only [hB, apS_nil, wsA_ns, asn, zw, S1, m1, Int.natCast_one, walkW, walkQ, walkX, if_true, if_false, ↓reduceIte, Nat.reduceAdd, Nat.reduceSub, Nat.reduceLeDiff, Nat.reduceEqDiff, Nat.reduceMul, Nat.reduceLT, Int.reduceLT, Int.reduceLE, Int.reduceEq, CO.tmps, Opd.tmps, optT, Nat.reducePow, Nat.reduceDiv, Nat.reduceMod, f1, f2, f3, f4, f5, f6, T_unseen, T_turn, hl.isSl, hv.isSl, hd.isSl, hl'.isSl, hv'.isSl, hd'.isSl, bxc_own, own_at', ne_eq, not_false_eq_true, not_true_eq_false, decide_true, decide_false, HOk_own hh, mask_ownC hz, mask_ownQ hz, mask_ownQ0 hz]
   refine ⟨2, by decide, by decide, ?_⟩
   simp only [m2, p2, S2, hB, List.nil_append]
   exact Bt.sel [0, 1, 2, 3, 7] hh (by decide) (by simp only [walkS, FrSel, BlkSel, AV.ren, renL, AV.ok, okL, Option.some.injEq, exists_eq_left', List.length_cons, List.length_nil, Nat.reduceAdd, Nat.reduceLT, reduceCtorEq, implies_true, exists_eq', fo, fr]) (by simp only [walkS, FrSel, BlkSel, AV.ren, renL, AV.ok, okL, Option.some.injEq, exists_eq_left', List.length_cons, List.length_nil, Nat.reduceAdd, Nat.reduceLT, reduceCtorEq, implies_true, exists_eq', fo, fr, wag, ao, ro, apW, Int.cast_ofNat_Int])
  ·have hlB : (o0 ++ outL xs' ds' hs).length ≠ 0 := fun q => hB (List.eq_nil_of_length_eq_zero q)
   have gr : ∀ id, apS heldR id (o0 ++ outL xs' ds' hs) = rsl heldR id (o0 ++ outL xs' ds' hs) := fun id => apS_rsl _ hlB
   by_cases hO : outL xs ds hs' = []
   ·have asa := fun L k a b hk b1 b2 => (as_app hl' hv hd (by omega) hB lo1 L k a b hk b1 b2).trans (if_pos hO)
    simp only [gr, wsA_rsl, asa, zw, S1, m1, Int.natCast_one, walkW, walkQ, walkX, if_true, if_false, ↓reduceIte, Nat.reduceAdd, Nat.reduceSub, Nat.reduceLeDiff, Nat.reduceEqDiff, Nat.reduceMul, Nat.reduceLT, Int.reduceLT, Int.reduceLE, Int.reduceEq, CO.tmps, Opd.tmps, optT, Nat.reducePow, Nat.reduceDiv, Nat.reduceMod, f1, f2, f3, f4, f5, f6, T_unseen, T_turn, hl.isSl, hv.isSl, hd.isSl, hl'.isSl, hv'.isSl, hd'.isSl, bxc_own, own_at', ne_eq, not_false_eq_true, not_true_eq_false, decide_true, decide_false, HOk_own hh, mask_ownC hz, mask_ownQ hz, mask_ownQ0 hz]
    refine ⟨2, by decide, by decide, ?_⟩
    simp only [m2, p2, S2, hO, List.append_nil]
    exact Bt.sel [0, 1, 2, 3, 4] hh (by decide) (by simp only [walkS, FrSel, BlkSel, AV.ren, renL, AV.ok, okL, Option.some.injEq, exists_eq_left', List.length_cons, List.length_nil, Nat.reduceAdd, Nat.reduceLT, reduceCtorEq, implies_true, exists_eq', fo, fr]) (by simp only [walkS, FrSel, BlkSel, AV.ren, renL, AV.ok, okL, Option.some.injEq, exists_eq_left', List.length_cons, List.length_nil, Nat.reduceAdd, Nat.reduceLT, reduceCtorEq, implies_true, exists_eq', fo, fr, wag, ao, ro, apW, Int.cast_ofNat_Int])
   ·have asa := fun L k a b hk b1 b2 => (as_app hl' hv hd (by omega) hB lo1 L k a b hk b1 b2).trans (if_neg hO)
    simp only [gr, wsA_rsl, asa, zw, S1, m1, Int.natCast_one, walkW, walkQ, walkX, if_true, if_false, ↓reduceIte, Nat.reduceAdd, Nat.reduceSub, Nat.reduceLeDiff, Nat.reduceEqDiff, Nat.reduceMul, Nat.reduceLT, Int.reduceLT, Int.reduceLE, Int.reduceEq, CO.tmps, Opd.tmps, optT, Nat.reducePow, Nat.reduceDiv, Nat.reduceMod, f1, f2, f3, f4, f5, f6, T_unseen, T_turn, hl.isSl, hv.isSl, hd.isSl, hl'.isSl, hv'.isSl, hd'.isSl, bxc_own, own_at', ne_eq, not_false_eq_true, not_true_eq_false, decide_true, decide_false, HOk_own hh, mask_ownC hz, mask_ownQ hz, mask_ownQ0 hz]
    refine ⟨2, by decide, by decide, ?_⟩
    simp only [m2, p2, S2]
    exact Bt.sel [0, 1, 2, 3, 7] hh (by decide) (by simp only [walkS, FrSel, BlkSel, AV.ren, renL, AV.ok, okL, Option.some.injEq, exists_eq_left', List.length_cons, List.length_nil, Nat.reduceAdd, Nat.reduceLT, reduceCtorEq, implies_true, exists_eq', fo, fr]) (by simp only [walkS, FrSel, BlkSel, AV.ren, renL, AV.ok, okL, Option.some.injEq, exists_eq_left', List.length_cons, List.length_nil, Nat.reduceAdd, Nat.reduceLT, reduceCtorEq, implies_true, exists_eq', fo, fr, wag, ao, ro, apW, Int.cast_ofNat_Int])
 obtain rfl : i = 2 := by omega
 have hU : Lm 2 = jnU hs hs' xs xs' ds ds' := by
  rw [m2, ← hb, outL_outG rb.nf rb.len, outL_outG ra.nf ra.len]
  rfl
 have cs := ra.nf.check ra.len
 have cs' := rb.nf.check rb.len
 have lU : (jnU hs hs' xs xs' ds ds').length ≤ 1000000 := by rw [← hU, m2, List.length_append, List.length_append]; omega
 have lU' := eq_true lU
 have lU2 : ((jnU hs hs' xs xs' ds ds').length ≤ maxLen) = True := eq_true (by unfold maxLen; omega)
 have hsr : ∀ id, rsl heldR id (jnU hs hs' xs xs' ds ds') = rsl heldR id (jnL hs hs' xs xs' ds ds') := fun id => by unfold rsl jnL; rw [sortH_len]
 simp only [S2, hU, p2]
 by_cases g : (joinO xs xs' ds ds').2.length ≤ 4096
 ·rw [if_neg (not_not_intro g)] at e
  cases e
  have g' := eq_true g
  have hJ : sortP cfH (jnU hs hs' xs xs' ds ds') = jnL hs hs' xs xs' ds ds' := rfl
  simp only [walkW, walkQ, walkX, if_true, if_false, ↓reduceIte, Nat.reduceAdd, Nat.reduceSub, Nat.reduceLeDiff, Nat.reduceEqDiff, Nat.reduceMul, Nat.reduceLT, Int.reduceLT, Int.reduceLE, Int.reduceEq, CO.tmps, Opd.tmps, optT, Nat.reducePow, Nat.reduceDiv, Nat.reduceMod, f1, f2, f3, f4, f5, f6, Int.cast_ofNat_Int, T_cJoin, T_SortH, cs, cs', g', k1, k2, lU', lU2, hJ, idOf_rsl, rsl_isSl, own_at', ne_eq, not_false_eq_true, not_true_eq_false, decide_true, decide_false]
  simp only [hsr]
  exact Bt.sel [4, 5, 6] hh (by decide) (by simp only [walkS, FrSel, BlkSel, AV.ren, renL, AV.ok, okL, Option.some.injEq, exists_eq_left', List.length_cons, List.length_nil, Nat.reduceAdd, Nat.reduceLT, reduceCtorEq, implies_true, exists_eq']) (by simp only [walkS, FrSel, BlkSel, AV.ren, renL, AV.ok, okL, Option.some.injEq, exists_eq_left', List.length_cons, List.length_nil, Nat.reduceAdd, Nat.reduceLT, reduceCtorEq, implies_true, exists_eq'])
 ·rw [if_pos g] at e
  cases e
  have g' := eq_false g
  simp only [walkW, walkQ, walkX, if_true, if_false, ↓reduceIte, Nat.reduceAdd, Nat.reduceSub, Nat.reduceLeDiff, Nat.reduceEqDiff, Nat.reduceMul, Nat.reduceLT, Int.reduceLT, Int.reduceLE, Int.reduceEq, CO.tmps, Opd.tmps, optT, Nat.reducePow, Nat.reduceDiv, Nat.reduceMod, f1, f2, f3, f4, f5, f6, Int.cast_ofNat_Int, T_cJoin, cs, cs', g', k1, k2, ne_eq, not_false_eq_true, not_true_eq_false, decide_true, decide_false]
  exact Bt.drop _ hh rfl (by simp only [ok_tu, okL_cons, okL_nil, ok_ag, ok_ns, ok_i, Bool.and_true])
theorem pJoin_spec : Spec Tryz.prog 12 T_pJoin := by
 intro args h v h' e
 unfold T_pJoin at e
 split at e
 ·rename_i l s t l' s' t'
  obtain ⟨hs, hl, e⟩ := getS_bind e
  obtain ⟨xs, hv, e⟩ := getS_bind e
  obtain ⟨ds, hd, e⟩ := getS_bind e
  obtain ⟨hs', hl', e⟩ := getS_bind e
  obtain ⟨xs', hv', e⟩ := getS_bind e
  obtain ⟨ds', hd', e⟩ := getS_bind e
  split at e
  ·rename_i hL
   have key0 : ∀ v, (∀ h : List AB, Rd heldR h l hs → Rd intR h s xs → Rd dotR h t ds → Rd heldR h l' hs' → Rd intR h s' xs' → Rd dotR h t' ds' → T_pJoin [.ag [l, s, t], .ag [l', s', t']] h = some (v, h)) → FnC Tryz.prog 12 [.ag [l, s, t], .ag [l', s', t']] h v h := fun v q => FnAt.c (FnAt.frz0 fun hz => pJoin_at hz hl.frz hv.frz hd.frz hl'.frz hv'.frz hd'.frz hL.1 hL.2.1 hL.2.2 _ _ (q _ hl.frz hv.frz hd.frz hl'.frz hv'.frz hd'.frz))
   split at e
   ·rename_i c
    cases e
    refine key0 _ fun h hl hv hd hl' hv' hd' => ?_
    simp only [T_pJoin, hl.get, hv.get, hd.get, hl'.get, hv'.get, hd'.get, Option.bind_some]
    rw [if_pos hL, if_pos c]
   ·rename_i c
    split at e
    ·rename_i c1
     cases e
     refine key0 _ fun h hl hv hd hl' hv' hd' => ?_
     simp only [T_pJoin, hl.get, hv.get, hd.get, hl'.get, hv'.get, hd'.get, Option.bind_some]
     rw [if_pos hL, if_neg c, if_pos c1]
    ·rename_i c1
     split at e
     ·rename_i c2
      cases e
      refine key0 _ fun h hl hv hd hl' hv' hd' => ?_
      simp only [T_pJoin, hl.get, hv.get, hd.get, hl'.get, hv'.get, hd'.get, Option.bind_some]
      rw [if_pos hL, if_neg c, if_neg c1, if_pos c2]
     ·rename_i c2
      split at e
      ·rename_i c3
       cases e
       refine key0 _ fun h hl hv hd hl' hv' hd' => ?_
       simp only [T_pJoin, hl.get, hv.get, hd.get, hl'.get, hv'.get, hd'.get, Option.bind_some]
       rw [if_pos hL, if_neg c, if_neg c1, if_neg c2, if_pos c3]
      ·rename_i c3
       cases e
       refine FnAt.c (FnAt.frz fun hz => pJoin_at hz hl.frz hv.frz hd.frz hl'.frz hv'.frz hd'.frz hL.1 hL.2.1 hL.2.2 _ _ ?_)
       simp only [T_pJoin, hl.frz.get, hv.frz.get, hd.frz.get, hl'.frz.get, hv'.frz.get, hd'.frz.get, Option.bind_some, List.length_map]
       rw [if_pos hL, if_neg c, if_neg c1, if_neg c2, if_neg c3]
  ·cases e
 ·cases e
end Go.Proofs.YtcncpbcbedfakaaGreat
end
section
namespace Go.Proofs.YtcncpbcbedfakaaGreat
set_option maxRecDepth 100000
set_option maxHeartbeats 4000000
set_option linter.unusedSimpArgs false
noncomputable instance (l l' : List Hd) : Decidable (agreeP l l') := Classical.propDecidable _
end Go.Proofs.YtcncpbcbedfakaaGreat
end
section
namespace Go.Proofs.YtcncpbcbedfakaaGreat
set_option linter.unusedSimpArgs false
section
variable {la lb lc : List Hd} {va vb vc : List Int} {da db dc : Dots}
theorem jnL_len (l l' : List Hd) (v v' : List Int) (ds ds' : Dots) : (jnL l l' v v' ds ds').length ≤ 2 * l.length + l'.length := by
 unfold jnL
 rw [sortH_len]
 unfold jnU
 rw [List.length_append, List.length_append]
 refine Nat.le_trans (Nat.add_le_add (Nat.add_le_add (List.length_filter_le _ l) (show (outG v' ds' l).length ≤ l.length from List.length_filter_le _ _)) (show (outG v ds l').length ≤ l'.length from List.length_filter_le _ _)) ?_
 omega
theorem jnL_mem {x : Hd} : x ∈ jnL la lb va vb da db ↔ x ∈ jnU la lb va vb da db := sortH_mem _ x
theorem jnL_ext (a : RG la va da) (b : RG lb vb db) {m : List Hd} (hr : m.Pairwise lessH) (hm : ∀ x, x ∈ m ↔ x ∈ jnU la lb va vb da db) : m = jnL la lb va vb da db := Jn.uniq ⟨hr, hm⟩ (jnL_jn a b)
theorem jnL_rg (a : RG la va da) (b : RG lb vb db) (hl : (joinO va vb da db).2.length ≤ 4096) : RG (jnL la lb va vb da db) (joinO va vb da db).1 (joinO va vb da db).2 := (jnL_jn a b).rg a b hl
theorem jnL_comm (a : RG la va da) (b : RG lb vb db) (g : agreeP la lb) : jnL lb la vb va db da = jnL la lb va vb da db := jnL_ext a b (jnL_jn b a).rise fun x => by rw [jnL_mem, jn_comm g]
theorem join_sub (a : NF va da) (c : NF vc dc) (h : ∀ d, inC vc dc d → inC va da d) : joinO va vc da dc = (va, da) := by
 have := (join_nf a c).ext a fun d => by
  rw [join_mem a c]
  exact ⟨fun q => q.elim id (h d), .inl⟩
 exact this
theorem mk_rg (a : NF va da) {d : Int × Int} (hd : dottedP d) : rangedP va (da ++ [d]) := ⟨a.rg.1, a.rg.2.1, fun x hx => by
 rcases List.mem_append.1 hx with q | q
 ·exact a.rg.2.2 x q
 ·rw [List.mem_singleton.1 q]; exact hd⟩
theorem mk_nf (a : NF va da) {d : Int × Int} (hd : dottedP d) : NF (mkO va da d).1 (mkO va da d).2 := NF.fm (mk_rg a hd)
theorem mk_mem (a : NF va da) {d : Int × Int} (hd : dottedP d) (e : Int × Int) : inC (mkO va da d).1 (mkO va da d).2 e ↔ inC va da e ∨ e = d := by
 unfold mkO
 rw [fm_in (mk_rg a hd)]
 unfold inC
 rw [List.mem_append, List.mem_singleton]
 constructor
 ·rintro ⟨h1, h2 | h2 | h2⟩
  ·exact .inl ⟨h1, .inl h2⟩
  ·exact .inl ⟨h1, .inr h2⟩
  ·exact .inr h2
 ·rintro (⟨h1, h2 | h2⟩ | rfl)
  ·exact ⟨h1, .inl h2⟩
  ·exact ⟨h1, .inr (.inl h2)⟩
  ·exact ⟨hd, .inr (.inr rfl)⟩
theorem mkO_len (a : NF va da) {d : Int × Int} (hd : dottedP d) : (mkO va da d).2.length ≤ da.length + 1 := by
 have := fmO_len2 (mk_rg a hd)
 rw [List.length_append] at this
 exact this
theorem wrL_mem {l : List Hd} {c : NF vc dc} (hc : dc.length ≤ 4096) {x y : Hd} : y ∈ wrL l vc dc x ↔ y = x ∨ (y ∈ l ∧ ¬ inC vc dc y.1) := by
 unfold wrL
 rw [layG_mem, outL_outG c hc, outG_mem]
theorem wrL_rise (a : RG la va da) (c : NF vc dc) (hc : dc.length ≤ 4096) {x : Hd} (hx : ¬ inC va da x.1) : (wrL la vc dc x).Pairwise lessH := by
 unfold wrL
 refine layG_rise lessH_ord (a.rise.filter _) fun y hy => lessH_tri fun e => hx ?_
 rw [← e]
 exact a.sn y (List.mem_filter.1 hy).1
theorem wr_rg (a : RG la va da) (c : NF vc dc) (hc : dc.length ≤ 4096) {x : Hd} (hd : dottedP x.1) (hx : ¬ inC va da x.1) (hl : (mkO (joinO va vc da dc).1 (joinO va vc da dc).2 x.1).2.length ≤ 4096) : RG (wrL la vc dc x) (mkO (joinO va vc da dc).1 (joinO va vc da dc).2 x.1).1 (mkO (joinO va vc da dc).1 (joinO va vc da dc).2 x.1).2 :=
 ⟨mk_nf (join_nf a.nf c) hd, hl, wrL_rise a c hc hx, fun y hy => (mk_mem (join_nf a.nf c) hd _).2 (by
  rcases (wrL_mem (c := c) hc).1 hy with q | q
  ·rw [q]; exact .inr rfl
  ·exact .inl ((join_mem a.nf c _).2 (.inl (a.sn y q.1))))⟩
end
end Go.Proofs.YtcncpbcbedfakaaGreat
end
section
namespace Go.Proofs.YtcncpbcbedfakaaGreat
set_option maxRecDepth 100000
set_option maxHeartbeats 4000000
set_option linter.unusedSimpArgs false
def T_known : List AV → List AB → Option (AV × List AB)
 | [], h => some (.b true, h)
 | _, _ => none
end Go.Proofs.YtcncpbcbedfakaaGreat
end
section
namespace Go.Proofs.YtcncpbcbedfakaaGreat
set_option maxRecDepth 100000
set_option maxHeartbeats 4000000
set_option linter.unusedSimpArgs false
theorem wrE_ok {hs : List Hd} {v : List Int} {ds : Dots} {d : Int × Int} {v' : List Int} {ds' : Dots} (c1 : checkG hs v ds = 0) (c2 : dottedP d) (c3 : checkR v' ds' = 0) (c4 : ¬ rhasP v ds d) (c5 : ¬ rhasP v' ds' d) (c6 : (joinO v v' ds ds').2.length ≤ 4096) (c7 : (mkO (joinO v v' ds ds').1 (joinO v v' ds ds').2 d).2.length ≤ 4096) : wrE hs v ds d v' ds' = 0 := by
 unfold wrE
 rw [if_neg (not_not_intro c1), if_neg (not_not_intro c2), if_neg (not_not_intro c3), if_neg (fun q => q.elim c4 c5), if_neg (not_not_intro c6), if_neg (not_not_intro c7)]
end Go.Proofs.YtcncpbcbedfakaaGreat
end
section
namespace Go.Proofs.YtcncpbcbedfakaaGreat
open Go.Extern
theorem ba_get (l : List UInt8) (i : Nat) : (⟨l.toArray⟩ : ByteArray)[i]! = l.getD i 0 := by
 by_cases h : i < l.length
 ·have h' : i < (⟨l.toArray⟩ : ByteArray).size := by simpa [ByteArray.size] using h
  rw [getElem!_pos _ i h', List.getD_eq_getElem?_getD, List.getElem?_eq_getElem h]
  rfl
 ·have h' : ¬ i < (⟨l.toArray⟩ : ByteArray).size := by simpa [ByteArray.size] using h
  rw [getElem!_neg _ i h', List.getD_eq_getElem?_getD, List.getElem?_eq_none (by omega)]
  rfl
theorem ba_size (l : List UInt8) : (⟨l.toArray⟩ : ByteArray).size = l.length := by simp [ByteArray.size]
theorem bcmp_eq : ∀ (l m : List UInt8), BytealgCompare.cmp ⟨l.toArray⟩ ⟨m.toArray⟩ = cmpB l m := by
 have key : ∀ (l m : List UInt8), BytealgCompare.cmp ⟨l.toArray⟩ ⟨m.toArray⟩ = match (List.range (min l.length m.length)).find? fun i => l.getD i 0 != m.getD i 0 with
   | some i => if l.getD i 0 < m.getD i 0 then -1 else 1
   | none => if l.length < m.length then -1 else if l.length > m.length then 1 else 0 := fun l m => by
  unfold BytealgCompare.cmp
  simp only [ba_get, ba_size]
  rfl
 intro l
 induction l with
 | nil =>
  intro m
  rw [key]
  cases m with
  | nil => rfl
  | cons b m => simp [cmpB]
 | cons a l ih =>
  intro m
  cases m with
  | nil => rw [key]; simp [cmpB]
  | cons b m =>
   have h2 := ih m
   rw [key] at h2 ⊢
   have e : min (a :: l).length (b :: m).length = min l.length m.length + 1 := by simp only [List.length_cons]; omega
   rw [e, List.range_succ_eq_map, List.find?_cons]
   unfold cmpB
   by_cases hab : a = b
   ·subst hab
    have : ((a :: l).getD 0 0 != (a :: m).getD 0 0) = false := by simp
    rw [this, List.find?_map]
    rw [if_neg (UInt8.lt_irrefl a), if_neg (UInt8.lt_irrefl a), ← h2]
    have e2 : ((fun i => (a :: l).getD i 0 != (a :: m).getD i 0) ∘ Nat.succ) = fun i => l.getD i 0 != m.getD i 0 := by funext i; simp
    rw [e2]
    cases (List.range (min l.length m.length)).find? fun i => l.getD i 0 != m.getD i 0 with
    | none => simp
    | some i => simp
   ·have : ((a :: l).getD 0 0 != (b :: m).getD 0 0) = true := by simpa using hab
    rw [this]
    dsimp only
    by_cases h1 : a < b
    ·rw [if_pos h1]; simp [h1]
    ·rw [if_neg h1, if_pos (UInt8.lt_of_le_of_ne (UInt8.not_lt.1 h1) (Ne.symm hab))]
     simp [h1]
theorem bytesOf_u8 : ∀ l : List UInt8, bytesOf (l.map u8A) = some l
 | [] => rfl
 | a :: l => by
  show (bytesOf (l.map u8A)).map (UInt8.ofNat ((a.toNat : Int)).toNat :: ·) = _
  rw [bytesOf_u8 l, Int.toNat_natCast, UInt8.ofNat_toNat]
  rfl
end Go.Proofs.YtcncpbcbedfakaaGreat
end
section
namespace Go.Proofs.YtcncpbcbedfakaaGreat
open Go.Shelf
def sortRen66 : Go.Shelf.Ren := ⟨fun | 6 => 66 | 15 => 88 | 14 => 106 | 28 => 127 | 29 => 128 | 20 => 137 | 21 => 138 | 22 => 139 | 23 => 140 | 24 => 141 | 25 => 142 | 26 => 143 | 27 => 144 | 46 => 163 | 47 => 149 | 48 => 150 | 49 => 164 | 50 => 165 | 57 => 173 | n => n, fun | 22 => 45 | 24 => 40 | 25 => 96 | 3 => 3 | 39 => 119 | 0 => 0 | 53 => 151 | 55 => 153 | 4 => 4 | 46 => 145 | 45 => 144 | 50 => 135 | 5 => 5 | 9 => 9 | 66 => 164 | 70 => 168 | 76 => 183 | 77 => 184 | n => n, fun | n => n⟩
theorem sortLays66 : Go.Proofs.SlLaysF0.n6 Tryz.prog sortRen66 := {
 mixed := by kernel_rfl
 f6 := ⟨Tryz.f66.name, by decide, Tryz.func66.trans (congrArg some (by kernel_rfl))⟩
 f14 := ⟨Tryz.f106.name, by decide, Tryz.func106.trans (congrArg some (by kernel_rfl))⟩
 f15 := Tryz.func88.trans (congrArg some (by kernel_rfl))
 f20 := ⟨Tryz.f137.name, by decide, Tryz.func137.trans (congrArg some (by kernel_rfl))⟩
 f21 := ⟨Tryz.f138.name, by decide, Tryz.func138.trans (congrArg some (by kernel_rfl))⟩
 f22 := ⟨Tryz.f139.name, by decide, Tryz.func139.trans (congrArg some (by kernel_rfl))⟩
 f23 := ⟨Tryz.f140.name, by decide, Tryz.func140.trans (congrArg some (by kernel_rfl))⟩
 f24 := ⟨Tryz.f141.name, by decide, Tryz.func141.trans (congrArg some (by kernel_rfl))⟩
 f25 := ⟨Tryz.f142.name, by decide, Tryz.func142.trans (congrArg some (by kernel_rfl))⟩
 f26 := ⟨Tryz.f143.name, by decide, Tryz.func143.trans (congrArg some (by kernel_rfl))⟩
 f27 := ⟨Tryz.f144.name, by decide, Tryz.func144.trans (congrArg some (by kernel_rfl))⟩
 f28 := Tryz.func127.trans (congrArg some (by kernel_rfl))
 f29 := Tryz.func128.trans (congrArg some (by kernel_rfl))
 f46 := ⟨Tryz.f163.name, by decide, Tryz.func163.trans (congrArg some (by kernel_rfl))⟩
 f47 := Tryz.func149.trans (congrArg some (by kernel_rfl))
 f48 := Tryz.func150.trans (congrArg some (by kernel_rfl))
 f49 := ⟨Tryz.f164.name, by decide, Tryz.func164.trans (congrArg some (by kernel_rfl))⟩
 f50 := ⟨Tryz.f165.name, by decide, Tryz.func165.trans (congrArg some (by kernel_rfl))⟩
 f57 := ⟨Tryz.f173.name, by decide, Tryz.func173.trans (congrArg some (by kernel_rfl))⟩
 t0 := Tryz.underlying0
 a0 := Tryz.isAgg0
 z0 := Tryz.sizeOf0
 v0 := Tryz.zeroValue0
 t3 := Tryz.underlying3
 a3 := Tryz.isAgg3
 z3 := Tryz.sizeOf3
 v3 := Tryz.zeroValue3
 t4 := Tryz.underlying4
 a4 := Tryz.isAgg4
 z4 := Tryz.sizeOf4
 v4 := Tryz.zeroValue4
 t5 := Tryz.underlying5
 a5 := Tryz.isAgg5
 z5 := Tryz.sizeOf5
 v5 := Tryz.zeroValue5
 t9 := Tryz.underlying9
 a9 := Tryz.isAgg9
 z9 := Tryz.sizeOf9
 v9 := Tryz.zeroValue9
 t22 := Tryz.underlying45
 a22 := Tryz.isAgg45
 z22 := Tryz.sizeOf45
 v22 := Tryz.zeroValue45
 t25 := Tryz.underlying96
 a25 := Tryz.isAgg96
 z25 := Tryz.sizeOf96
 v25 := Tryz.zeroValue96
 t39 := Tryz.underlying119
 a39 := Tryz.isAgg119
 z39 := Tryz.sizeOf119
 v39 := Tryz.zeroValue119
 t45 := Tryz.underlying144
 a45 := Tryz.isAgg144
 z45 := Tryz.sizeOf144
 v45 := Tryz.zeroValue144
 t46 := Tryz.underlying145
 a46 := Tryz.isAgg145
 z46 := Tryz.sizeOf145
 v46 := Tryz.zeroValue145
 t50 := Tryz.underlying135
 a50 := Tryz.isAgg135
 z50 := Tryz.sizeOf135
 v50 := Tryz.zeroValue135
 t53 := Tryz.underlying151
 a53 := Tryz.isAgg151
 z53 := Tryz.sizeOf151
 v53 := Tryz.zeroValue151
 t55 := Tryz.underlying153
 a55 := Tryz.isAgg153
 z55 := Tryz.sizeOf153
 v55 := Tryz.zeroValue153
 t66 := Tryz.underlying164
 a66 := Tryz.isAgg164
 z66 := Tryz.sizeOf164
 v66 := Tryz.zeroValue164
 t70 := Tryz.underlying168
 a70 := Tryz.isAgg168
 z70 := Tryz.sizeOf168
 v70 := Tryz.zeroValue168
 t76 := Tryz.underlying183
 a76 := Tryz.isAgg183
 z76 := Tryz.sizeOf183
 v76 := Tryz.zeroValue183
 t77 := Tryz.underlying184
 a77 := Tryz.isAgg184
 z77 := Tryz.sizeOf184
 v77 := Tryz.zeroValue184 }
end Go.Proofs.YtcncpbcbedfakaaGreat
end
