/- Part 27 of what the laws' proofs rest on. No condition. -/
import Derived.Test.YtfaccliekejngaaGreatOt26
set_option linter.all false
section
namespace Go.Proofs.YtfaccliekejngaaGreat
set_option maxRecDepth 100000
set_option maxHeartbeats 8000000
theorem KQ4 {h : List AB} (L : List AB) (k i n : Nat) (ys : List AV) (hb : YpO L k = true) (hx : (blkX L k).length = n * 32) (hi : i < n) (hy : ys.length = 32) (ha : ys.all (wrOk true) = true) :
  appW (h ++ L) true 32 32 (.sl (h.length + k) 0 i n (some 32)) 1 ys = some (.sl (h.length + k) 0 (i + 1) n (some 32), h ++ L.set k (.blk true true (over (blkX L k) (i * 32) ys))) := by
 have hx2 := Kwk L k hb
 unfold appW
 dsimp only
 rw [if_neg Nat.one_ne_zero, if_pos (by omega)]
 unfold stB
 rw [Yn6, hx2]
 dsimp only
 rw [if_pos ⟨by omega, ha⟩, Nat.zero_add, zpT]
 rfl
theorem QT6 {h : List AB} (L : List AB) (k i n m : Nat) (ys : List AV) (hb : YpO L k = true) (hx : (blkX L k).length = n * 32) (h0 : i ≠ 0) (hi : i ≤ n) (hm : n < i + m) (h1 : (i + m) * 32 ≤ 140737488355328) (h2 : i + m ≤ maxLen) :
  appW (h ++ L) true 32 32 (.sl (h.length + k) 0 i n (some 32)) m ys = some (.sl (h.length + L.length) 0 (i + m) (i + m) (some 32), h ++ (Ycl L k ++ [.blk true true ((blkX L k).take (i * 32) ++ ys)])) := by
 by_cases q : i = n
 ·subst q
  rw [KrC L k i 32 32 m ys hb hx (by decide) (by omega) h1 h2, List.take_of_length_le (by omega)]
 ·exact ZiD L k i n 32 32 m ys hb hx (by decide) (by omega) hm h1 h2
theorem XJF (c : List Dg) (X : Dg) {i : Nat} (hi : i < c.length) : (over (idR.cells c) (i * 32) (idR.f X)).take ((i + 1) * 32) = (idR.cells c).take (i * 32) ++ idR.f X := by
 have h1 : (idR.cells c).length = c.length * 32 := idR.cells_len c
 have h2 : ((idR.cells c).take (i * 32)).length = i * 32 := by rw [List.length_take]; omega
 unfold over
 rw [List.take_append_of_le_length (by rw [List.length_append, h2, XwU]; omega)]
 exact List.take_of_length_le (by rw [List.length_append, h2, XwU]; omega)
theorem JMP (c : List Dg) (X : Dg) {i : Nat} (hi : i < c.length) : (over (idR.cells c) (i * 32) (idR.f X)).length = c.length * 32 := by
 have h1 : (idR.cells c).length = c.length * 32 := idR.cells_len c
 unfold over
 rw [List.length_append, List.length_append, List.length_take, List.length_drop, XwU]
 omega
theorem Que {h : List AB} (hz : h.map AB.freeze = h) {l s t : AV} {hs : List Hd} {xs : List Int} {ds : Dots} (hl : Rd qjO h l hs) (hv : Rd intR h s xs) (hd : Rd dotR h t ds) (hL : hs.length ≤ 100000) (v : AV) (h' : List AB) (e : QrX [.ag [l, s, t]] h = some (v, h')) :
  FnAt Tryz.prog 30 [.ag [l, s, t]] h v h' := by
 simp only [QrX, hl.get, hv.get, hd.get, Option.bind_some] at e
 rw [if_pos hL] at e
 refine FnAt.run (by kernel_rfl) (T := ⟨[⟨32, Q1I, fun _ => []⟩, ⟨83, KNS, fun _ => []⟩], []⟩) ⟨⟨JxU, QZJ, trivial⟩, trivial⟩ Tryz.func30 sw30 fun ho hh => ?_
 simp only [qMC, JAX, Bool.and_eq_true] at ho
 have f1 := hl.fx ho.1.1 (sz := 34) rfl
 have f2 := hv.fx ho.1.2.1 (sz := 1) rfl
 have f3 := hd.fx ho.1.2.2.1 (sz := 2) rfl
 have f7 := zxg hl
 have mm : ∀ v : AV, v.ok (fun i => decide (i < h.length)) = true → ∀ c, v.ok (fun i => decide (i < h.length + c)) = true := fun v q c => AV.ok_mono (fun i q => by simp only [decide_eq_true_eq] at q ⊢; omega) v q
 have fo1 := mm _ ho.1.1
 have fo2 := mm _ ho.1.2.1
 have fo3 := mm _ ho.1.2.2.1
 have rr : ∀ v : AV, v.ok (fun i => decide (i < h.length)) = true → ∀ sel, Wk (v.ren (selN h.length sel)) v := fun v q sel => Wk.ren (fun i hi => Xdk hi) q
 have fr1 := rr _ ho.1.1
 have fr2 := rr _ ho.1.2.1
 have fr3 := rr _ ho.1.2.2.1
 unfold w30
 by_cases c0 : Kq6 hs xs ds = 0
 case neg =>
  rw [if_neg c0] at e
  cases e
  have c0' := eq_false c0
  simp only [XH8, QN9, X1r, X5W, zVq, simprocAttr, CO.tmps, Opd.tmps, optT, Nat.reducePow, Nat.reduceDiv, Nat.reduceMod, f1, f2, f3]
  refine YHj (S := Unit) (fun _ => 0) (fun _ => tp 1 ++ [.p (h.length + 0) 0] ++ tp 1 ++ [.ns, .i .i64 0] ++ tp 62) (fun _ => h ++ [.blk false true [l, s, t]]) (fun _ => True) () trivial (Bt.wk (by simp only [X1r, zVq, simprocAttr])) fun _ _ => ?_
  by_cases h0 : (0 : Int) < (hs.length : Int)
  ·have h0' := eq_true h0
   simp only [X1r, X5W, zVq, simprocAttr, CO.tmps, Opd.tmps, optT, Nat.reducePow, Nat.reduceDiv, Nat.reduceMod, f1, f2, f3, Q1I, c0', h0', QNE hh, QFK hz, K9V hz, Ksi hz, ne_eq, not_false_eq_true, not_true_eq_false, decide_true, decide_false]
   exact Bt.drop _ hh rfl rfl
  ·have h0' := eq_false h0
   simp only [X1r, X5W, zVq, simprocAttr, CO.tmps, Opd.tmps, optT, Nat.reducePow, Nat.reduceDiv, Nat.reduceMod, f1, f2, f3, Q1I, c0', h0', QNE hh, QFK hz, K9V hz, Ksi hz, ne_eq, not_false_eq_true, not_true_eq_false, decide_true, decide_false]
   exact Bt.drop _ hh rfl rfl
 rw [if_pos c0] at e
 cases e
 simp only [XH8, QN9, X1r, X5W, zVq, simprocAttr, CO.tmps, Opd.tmps, optT, Nat.reducePow, Nat.reduceDiv, Nat.reduceMod, f1, f2, f3]
 refine YHj (S := Nat × List Dg) (fun σ => hs.length - σ.1) (fun σ => tp 1 ++ [.p (h.length + 0) 0] ++ tp 1 ++ [apS idR (h.length + 1) σ.2, .i .i64 (σ.1 : Nat)] ++ tp 62) (fun σ => h ++ [.blk false true [l, s, t], resB idR true σ.2]) (fun σ => σ.1 ≤ hs.length ∧ InsI hs σ.1 σ.2) (0, []) ⟨Nat.zero_le _, InsI.zero hs⟩ ?_ fun σ hσ => ?_
 ·show Bt _ _ _ _ _ (h ++ ([.blk false true [l, s, t]] ++ List.replicate 1 .dead))
  rw [← List.append_assoc]
  refine Bt.trans (Bt.wk ?_) (Bt.pad _ _ 1)
  show WkL (tp 1 ++ [.p (h.length + 0) 0] ++ tp 1 ++ [.ns, .i .i64 (0 : Nat)] ++ tp 62) _
  simp only [X1r, zVq, simprocAttr]
 obtain ⟨k, c⟩ := σ
 obtain ⟨hk, hI⟩ := hσ
 dsimp only at hk hI ⊢
 have hcl := hI.2.2
 by_cases g1 : k < hs.length
 case neg =>
  obtain rfl : k = hs.length := by omega
  have g1' := eq_false g1
  have hfin := hI.fin
  subst hfin
  simp only [X1r, X5W, zVq, simprocAttr, CO.tmps, Opd.tmps, optT, Nat.reducePow, Nat.reduceDiv, Nat.reduceMod, f1, f2, f3, g1', Q1I, QNE hh, QFK hz, K9V hz, Ksi hz, ne_eq, not_false_eq_true, not_true_eq_false, decide_true, decide_false]
  refine Bt.trans (Bt.wk1 (J2U _ _)) ?_
  exact Bt.sel [1] hh (by decide) (by simp only [q9C, FrSel, BlkSel, AV.ren, renL, AV.ok, okL, Option.some.injEq, exists_eq_left', List.length_cons, List.length_nil, Nat.reduceAdd, Nat.reduceLT, reduceCtorEq, implies_true, exists_eq']) (by simp only [q9C, FrSel, BlkSel, AV.ren, renL, AV.ok, okL, Option.some.injEq, exists_eq_left', List.length_cons, List.length_nil, Nat.reduceAdd, Nat.reduceLT, reduceCtorEq, implies_true, exists_eq'])
 have g1' := eq_true g1
 have ek : IntKind.i64.wrap ((k : Int) + 1) = ((k + 1 : Nat) : Int) := ZL4 (by unfold In64; omega)
 obtain ⟨X, hX⟩ : ∃ X, (hs.getD k qjO.d).2 = X := ⟨_, rfl⟩
 have hsame := fun {i : Nat} (hi : i < c.length) (e : c.getD i idR.d = X) => hI.same g1 hi (e.trans hX.symm)
 have hlay := fun {i : Nat} (hi : i ≤ c.length) => hI.lay g1 hi
 rw [hX] at hlay
 simp only [X1r, X5W, zVq, simprocAttr, CO.tmps, Opd.tmps, optT, Nat.reducePow, Nat.reduceDiv, Nat.reduceMod, f1, f2, f3, Q1I, KNS, ZK2, c0, qfY, Ydx, XwU, Kb6, Zph, QLO, Ke3, List.length_cons, List.length_nil, QNE hh, QFK hz, K9V hz, Ksi hz, ne_eq, not_false_eq_true, not_true_eq_false, decide_true, decide_false, f7, g1', hX]
 refine YHj (S := Nat) (fun i => c.length - i) (fun i => tp 1 ++ [.p (h.length + 0) 0] ++ tp 1 ++ [apS idR (h.length + 1) c, .i .i64 k, .p (h.length + 2) 0, .i .i64 i] ++ tp 60) (fun _ => h ++ [.blk false true [l, s, t], resB idR true c, .blk true true (idR.f X)]) (fun i => i ≤ c.length ∧ ∀ j, j < i → Q9r (c.getD j idR.d) X) 0 ⟨Nat.zero_le _, fun j hj => by omega⟩ (Bt.wk (by simp only [X1r, zVq, simprocAttr])) fun i hi => ?_
 obtain ⟨hi, hlt⟩ := hi
 by_cases g2 : i < c.length
 ·have hlc : c.length ≠ 0 := by omega
  have g2' : ((i : Int) < (c.length : Int)) = True := eq_true (by omega)
  have g2n := eq_true g2
  have g3 : ((i : Int) = (c.length : Int)) = False := eq_false (by omega)
  have ei : IntKind.i64.wrap ((i : Int) + 1) = ((i + 1 : Nat) : Int) := ZL4 (by unfold In64; omega)
  have gr : ∀ id, apS idR id c = rsl idR id c := fun id => J0z _ hlc
  have ia := fun (id : Nat) (m : Int) => KnF (r := idR) (sz := 32) rfl id c .i64 m
  have ld := fun (L : List AB) (k : Nat) e => JVv (r := idR) (h := h) (sz := 32) rfl L k c i e g2
  have okE := fun (q : Nat → Bool) (id : Nat) hq => ZyD (r := idR) q id 32 i 0 c hq
  by_cases q : cmpG (c.getD i idR.d) X < 0
  ·have q' := eq_true q
   simp only [X1r, X5W, zVq, simprocAttr, CO.tmps, Opd.tmps, optT, Nat.reducePow, Nat.reduceDiv, Nat.reduceMod, f1, f2, f3, Q1I, KNS, ZK2, c0, qfY, Ydx, XwU, Kb6, Zph, QLO, Ke3, List.length_cons, List.length_nil, QNE hh, QFK hz, K9V hz, Ksi hz, ne_eq, not_false_eq_true, not_true_eq_false, decide_true, decide_false, gr, ia, ld, okE, g2', g2n, q', ei, Int.toNat_natCast]
   exact ⟨i + 1, ⟨g2, fun j hj => by
    rcases Nat.lt_or_ge j i with w | w
    ·exact hlt j w
    ·obtain rfl : j = i := by omega
     exact q⟩, by dsimp only; omega, Bt.wk (by simp only [X1r, zVq, simprocAttr])⟩
  ·have q' := eq_false q
   by_cases q2 : c.getD i idR.d = X
   ·have q2' := eq_true q2
    simp only [X1r, X5W, zVq, simprocAttr, CO.tmps, Opd.tmps, optT, Nat.reducePow, Nat.reduceDiv, Nat.reduceMod, f1, f2, f3, Q1I, KNS, ZK2, c0, qfY, Ydx, XwU, Kb6, Zph, QLO, Ke3, List.length_cons, List.length_nil, QNE hh, QFK hz, K9V hz, Ksi hz, ne_eq, not_false_eq_true, not_true_eq_false, decide_true, decide_false, gr, ia, ld, okE, g2', g2n, q', g3, q2', ek, Int.toNat_natCast]
    refine ⟨(k + 1, c), ⟨g1, hsame g2 q2⟩, by dsimp only; omega, ?_⟩
    dsimp only
    rw [gr]
    exact Bt.sel [0, 1] hh (by decide) (by simp only [q9C, FrSel, BlkSel, AV.ren, renL, AV.ok, okL, Option.some.injEq, exists_eq_left', List.length_cons, List.length_nil, Nat.reduceAdd, Nat.reduceLT, reduceCtorEq, implies_true, exists_eq', fo1, fo2, fo3, fr1, fr2, fr3]) (by simp only [q9C, FrSel, BlkSel, AV.ren, renL, AV.ok, okL, Option.some.injEq, exists_eq_left', List.length_cons, List.length_nil, Nat.reduceAdd, Nat.reduceLT, reduceCtorEq, implies_true, exists_eq', fo1, fo2, fo3, fr1, fr2, fr3])
   ·have q2' := eq_false q2
    have hn := hlay hi hlt fun _ => ⟨q, q2⟩
    have k8 : (idR.cells c).length = c.length * 32 := idR.cells_len c
    have rB : resB idR true c = .blk true true (idR.cells c) := by unfold resB; rw [if_neg hlc]
    have gs : ∀ id, rsl idR id c = .sl id 0 c.length c.length (some 32) := fun id => by unfold rsl; rw [if_neg hlc]; rfl
    have s1 := fun id => KRe id c.length i 32 hi
    obtain ⟨kk, _, s2⟩ := JIT 0 c.length i 32 g2
    have n0 : (c.length - i = 0) = False := eq_false (by omega)
    have mR : ((c.length - i) * 32 ≤ 140737488355328 ∧ c.length - i ≤ maxLen) = True := eq_true ⟨by omega, by unfold maxLen; omega⟩
    have w1 : (i * 32 + (c.length - i) * 32 ≤ c.length * 32) = True := eq_true (by omega)
    have c1 : (idR.cells c).drop (i * 32) = idR.cells (c.drop i) := by exact idR.cells_drop c i
    have kd : (idR.cells (c.drop i)).length = (c.length - i) * 32 := by rw [← c1, List.length_drop, k8]; omega
    have tk : (List.drop (i * 32) (idR.cells c)).take ((c.length - i) * 32) = idR.cells (c.drop i) := by
     rw [c1]
     exact List.take_of_length_le (by rw [kd]; exact Nat.le_refl _)
    have tk2 : (idR.cells (c.drop i)).take ((c.length - i) * 32) = idR.cells (c.drop i) := List.take_of_length_le (by rw [kd]; exact Nat.le_refl _)
    have ya : (idR.cells (c.drop i)).all (wrOk true) = true := QnJ Ydx _
    have ovl := JMP c X g2
    have ovc := XJF c X g2
    have ap1 := fun (L : List AB) k ys hb hx hy ha => KQ4 (h := h) L k i c.length ys hb hx g2 hy ha
    have ap2 := fun (L : List AB) k ys hb hx => QT6 (h := h) L k (i + 1) c.length (c.length - i) ys hb hx (Nat.succ_ne_zero i) g2 (by omega) (by omega) (by unfold maxLen; omega)
    simp only [X1r, X5W, zVq, simprocAttr, CO.tmps, Opd.tmps, optT, Nat.reducePow, Nat.reduceDiv, Nat.reduceMod, f1, f2, f3, Q1I, KNS, ZK2, c0, qfY, Ydx, XwU, Kb6, Zph, QLO, Ke3, List.length_cons, List.length_nil, QNE hh, QFK hz, K9V hz, Ksi hz, ne_eq, not_false_eq_true, not_true_eq_false, decide_true, decide_false, gr, ia, ld, okE, g2', g2n, q', g3, q2', Int.toNat_natCast]
    simp only [X1r, X5W, zVq, simprocAttr, CO.tmps, Opd.tmps, optT, Nat.reducePow, Nat.reduceDiv, Nat.reduceMod, f1, f2, f3, Q1I, KNS, ZK2, c0, qfY, Ydx, XwU, Kb6, Zph, QLO, Ke3, List.length_cons, List.length_nil, QNE hh, QFK hz, K9V hz, Ksi hz, ne_eq, not_false_eq_true, not_true_eq_false, decide_true, decide_false, gs, ek, s1, s2, rB, k8, n0, mR, w1, ap1, ap2, ovl, ovc, kd, tk, tk2, ya, z1m, Nat.zero_add, Nat.le_refl, Bool.and_self, Xc9, qdZ, KYW, qJ3]
    refine ⟨(k + 1, c.take i ++ X :: c.drop i), ⟨g1, hn⟩, by dsimp only; omega, ?_⟩
    dsimp only
    have el : (c.take i ++ X :: c.drop i).length = i + (1 + (c.length - i)) := by rw [List.length_append, List.length_cons, List.length_take, List.length_drop]; omega
    have eA : ∀ id, apS idR id (c.take i ++ X :: c.drop i) = .sl id 0 (i + (1 + (c.length - i))) (i + (1 + (c.length - i))) (some 32) := fun id => by
     unfold apS
     rw [el, if_neg (by omega)]
     rfl
    have eB : resB idR true (c.take i ++ X :: c.drop i) = .blk true true ((idR.cells c).take (i * 32) ++ idR.f X ++ idR.cells (c.drop i)) := by
     unfold resB
     rw [el, if_neg (by omega), show (idR.cells c).take (i * 32) = idR.cells (c.take i) from idR.cells_take c i]
     simp [Row.cells]
    rw [eA, eB]
    exact Bt.sel [0, 6] hh (by decide) (by simp only [q9C, FrSel, BlkSel, AV.ren, renL, AV.ok, okL, Option.some.injEq, exists_eq_left', List.length_cons, List.length_nil, Nat.reduceAdd, Nat.reduceLT, reduceCtorEq, implies_true, exists_eq', fo1, fo2, fo3, fr1, fr2, fr3]) (by simp only [q9C, FrSel, BlkSel, AV.ren, renL, AV.ok, okL, Option.some.injEq, exists_eq_left', List.length_cons, List.length_nil, Nat.reduceAdd, Nat.reduceLT, reduceCtorEq, implies_true, exists_eq', fo1, fo2, fo3, fr1, fr2, fr3])
 ·obtain rfl : i = c.length := by omega
  have hn := hlay hi hlt fun w => absurd w g2
  rw [List.take_length, List.drop_length] at hn
  by_cases hB : c = []
  ·subst hB
   have z3 : (1 * 32 ≤ 140737488355328 ∧ 1 ≤ maxLen) = True := eq_true ⟨by decide, by unfold maxLen; omega⟩
   have s0 : slL 32 .ns none (some (.i .i64 0)) none = some .ns := by simp [slL, bnd]
   have s1 : slL 32 .ns (some (.i .i64 0)) none none = some .ns := by simp [slL, bnd]
   have q2 : ∀ H, srcV H 32 .ns = some (0, []) := fun H => rfl
   simp only [X1r, X5W, zVq, simprocAttr, CO.tmps, Opd.tmps, optT, Nat.reducePow, Nat.reduceDiv, Nat.reduceMod, f1, f2, f3, Q1I, KNS, ZK2, c0, qfY, Ydx, XwU, Kb6, Zph, QLO, Ke3, List.length_cons, List.length_nil, QNE hh, QFK hz, K9V hz, Ksi hz, ne_eq, not_false_eq_true, not_true_eq_false, decide_true, decide_false, s0, s1, q2, Y8m, ZLN, List.length_nil, Int.natCast_zero, Int.lt_irrefl, z3, ek, zp7, zHp]
   refine ⟨(k + 1, [X]), ⟨g1, hn⟩, by dsimp only; omega, ?_⟩
   dsimp only
   simp only [J8D, KvS]
   exact Bt.sel [0, 5] hh (by decide) (by simp only [q9C, FrSel, BlkSel, AV.ren, renL, AV.ok, okL, Option.some.injEq, exists_eq_left', List.length_cons, List.length_nil, Nat.reduceAdd, Nat.reduceLT, reduceCtorEq, implies_true, exists_eq', fo1, fo2, fo3, fr1, fr2, fr3]) (by simp only [q9C, FrSel, BlkSel, AV.ren, renL, AV.ok, okL, Option.some.injEq, exists_eq_left', List.length_cons, List.length_nil, Nat.reduceAdd, Nat.reduceLT, reduceCtorEq, implies_true, exists_eq', fo1, fo2, fo3, fr1, fr2, fr3, QvR])
  ·have hlc : c.length ≠ 0 := fun w => hB (List.eq_nil_of_length_eq_zero w)
   have gr : ∀ id, apS idR id c = rsl idR id c := fun id => J0z _ hlc
   have k8 : (idR.cells c).length = c.length * 32 := idR.cells_len c
   have rB : resB idR true c = .blk true true (idR.cells c) := by unfold resB; rw [if_neg hlc]
   have gs : ∀ id, rsl idR id c = .sl id 0 c.length c.length (some 32) := fun id => by unfold rsl; rw [if_neg hlc]; rfl
   have s1 := fun id => KRe id c.length c.length 32 (Nat.le_refl _)
   have s2 := fun id => Q52 id c.length 32 hlc
   have ap2 := fun (L : List AB) k ys hb hx => KrC (h := h) L k c.length 32 32 1 ys hb hx (by decide) (by decide) (by omega) (by unfold maxLen; omega)
   simp only [X1r, X5W, zVq, simprocAttr, CO.tmps, Opd.tmps, optT, Nat.reducePow, Nat.reduceDiv, Nat.reduceMod, f1, f2, f3, Q1I, KNS, ZK2, c0, qfY, Ydx, XwU, Kb6, Zph, QLO, Ke3, List.length_cons, List.length_nil, QNE hh, QFK hz, K9V hz, Ksi hz, ne_eq, not_false_eq_true, not_true_eq_false, decide_true, decide_false, gr, Int.lt_irrefl]
   have q1 : ∀ q, AV.se.ok q = true := fun q => by simp [AV.ok]
   have q2 : ∀ H, srcV H 32 .se = some (0, []) := fun H => rfl
   simp only [X1r, X5W, zVq, simprocAttr, CO.tmps, Opd.tmps, optT, Nat.reducePow, Nat.reduceDiv, Nat.reduceMod, f1, f2, f3, Q1I, KNS, ZK2, c0, qfY, Ydx, XwU, Kb6, Zph, QLO, Ke3, List.length_cons, List.length_nil, QNE hh, QFK hz, K9V hz, Ksi hz, ne_eq, not_false_eq_true, not_true_eq_false, decide_true, decide_false, gs, ek, s1, s2, rB, k8, ap2, zHp, q1, q2, Y8m, Xc9, qdZ, KYW, qJ3]
   refine ⟨(k + 1, c ++ [X]), ⟨g1, hn⟩, by dsimp only; omega, ?_⟩
   dsimp only
   simp only [XlZ, zbl]
   exact Bt.sel [0, 5] hh (by decide) (by simp only [q9C, FrSel, BlkSel, AV.ren, renL, AV.ok, okL, Option.some.injEq, exists_eq_left', List.length_cons, List.length_nil, Nat.reduceAdd, Nat.reduceLT, reduceCtorEq, implies_true, exists_eq', fo1, fo2, fo3, fr1, fr2, fr3]) (by simp only [q9C, FrSel, BlkSel, AV.ren, renL, AV.ok, okL, Option.some.injEq, exists_eq_left', List.length_cons, List.length_nil, Nat.reduceAdd, Nat.reduceLT, reduceCtorEq, implies_true, exists_eq', fo1, fo2, fo3, fr1, fr2, fr3, QvR])
theorem qSV : Spec Tryz.prog 30 QrX := by
 intro args h v h' e
 unfold QrX at e
 split at e
 ·rename_i l s t
  obtain ⟨hs, hl, e⟩ := YI8 e
  obtain ⟨xs, hv, e⟩ := YI8 e
  obtain ⟨ds, hd, e⟩ := YI8 e
  split at e
  ·rename_i hL
   split at e
   ·rename_i c
    cases e
    refine FnAt.c (FnAt.frz fun hz => Que hz hl.frz hv.frz hd.frz hL _ _ ?_)
    simp only [QrX, hl.frz.get, hv.frz.get, hd.frz.get, Option.bind_some, List.length_map]
    rw [if_pos hL, if_pos c]
   ·rename_i c
    cases e
    refine FnAt.c (FnAt.frz0 fun hz => Que hz hl.frz hv.frz hd.frz hL _ _ ?_)
    simp only [QrX, hl.frz.get, hv.frz.get, hd.frz.get, Option.bind_some]
    rw [if_pos hL, if_neg c]
  ·cases e
 ·cases e
end Go.Proofs.YtfaccliekejngaaGreat
end
section
namespace Go.Proofs.YtfaccliekejngaaGreat
set_option maxRecDepth 100000
set_option maxHeartbeats 8000000
theorem qUh (x : Hd) : ∀ (l : List Hd) (k : Nat), k ≤ l.length → (∀ j, j < k → ¬ KBL x (l.getD j qjO.d)) → (k < l.length → KBL x (l.getD k qjO.d)) → layG KBL l x = l.take k ++ x :: l.drop k
 | [], k, hk, _, _ => by
  have : k = 0 := by simpa using hk
  subst this
  rfl
 | y :: l, 0, _, _, h => by
  have := h (by simp)
  unfold layG
  rw [if_pos (by simpa using this)]
  rfl
 | y :: l, k + 1, hk, h1, h2 => by
  have h0 : ¬ KBL x y := by simpa using h1 0 (Nat.succ_pos _)
  unfold layG
  rw [if_neg h0, qUh x l k (by simpa using hk) (fun j hj => by simpa using h1 (j + 1) (by omega)) (fun q => by simpa using h2 (by simpa using q))]
  rfl
open Classical in
noncomputable def YKJ : List AV → List AB → Option (AV × List AB)
 | [s, y], h => (getS qjO h s).bind fun l => (getH y).bind fun x => if l.length ≤ 100000 ∧ s.capOk = true ∧ ∀ z ∈ l, z.1 ≠ x.1 then some (rsl qjO h.length (layG KBL l x), h ++ [resB qjO true (layG KBL l x)]) else none
 | _, _ => none
theorem z3E {h : List AB} (hz : h.map AB.freeze = h) {s : AV} {l : List Hd} {x : Hd} (hl : Rd qjO h s l) (hL : l.length ≤ 100000) (hc : s.capOk = true) (hx : ∀ z ∈ l, z.1 ≠ x.1) :
  FnAt Tryz.prog 76 [s, .ag (qjO.f x)] h (rsl qjO h.length (layG KBL l x)) (h ++ [resB qjO true (layG KBL l x)]) := by
 refine FnAt.run (by kernel_rfl) (T := ⟨[⟨122, JoE, fun _ => []⟩], []⟩) ⟨⟨zrV, trivial⟩, trivial⟩ Tryz.func76 sw76 fun ho hh => ?_
 simp only [qMC, JAX, Bool.and_eq_true] at ho
 have f1 := hl.fx ho.1 (sz := 34) rfl
 have f4 := zxg hl
 have kd : ∀ z : Hd, (qjO.f z).take 2 = [.i .i64 z.1.1, .i .i64 z.1.2] := fun _ => rfl
 unfold w76
 simp only [XH8, QN9, X1r, X5W, zVq, simprocAttr, CO.tmps, Opd.tmps, optT, Nat.reducePow, Nat.reduceDiv, Nat.reduceMod, f1, XEe, zp7, ZOt, Ke3]
 refine YMr (S := Nat) (fun i => l.length - i) (fun i => [s] ++ tp 2 ++ [.p (h.length + 0) 0] ++ tp 1 ++ [.i .i64 i] ++ tp 32) (fun i => i ≤ l.length ∧ ∀ j, j < i → ZwT (l.getD j qjO.d).1 x.1) 0 ⟨Nat.zero_le _, fun j hj => absurd hj (Nat.not_lt_zero _)⟩ (by simp only [X1r, zVq, simprocAttr]) fun i hi => ?_
 have done : (i = l.length ∨ (i < l.length ∧ ¬ ZwT (l.getD i qjO.d).1 x.1)) → layG KBL l x = l.take i ++ x :: l.drop i := fun q => by
  refine qUh x l i hi.1 (fun j hj z => zng _ (YKM z (hi.2 j hj))) fun hil => ?_
  rcases q with q | ⟨_, q⟩
  ·omega
  ·have hm : l.getD i qjO.d ∈ l := by rw [List.getD_eq_getElem?_getD, List.getElem?_eq_getElem hil]; exact List.getElem_mem hil
   rcases Y5F (l.getD i qjO.d).1 x.1 with z | z | z
   ·exact absurd z q
   ·exact absurd z (hx _ hm)
   ·exact z
 obtain ⟨s1, q1, r1, o1⟩ := hl.takeS hc hi.1 (sz := 34) rfl
 obtain ⟨s2, q2, r2, o2⟩ := hl.dropS hc hi.1 (sz := 34) rfl
 have g1 := r1.fx (o1 _ ho.1) (sz := 34) rfl
 have g2 := r2.fx (o2 _ ho.1) (sz := 34) rfl
 have u1 := r1.src (sz := 34) rfl
 have u2 := r2.src (sz := 34) rfl
 have lt1 : (l.take i).length = i := by rw [List.length_take]; omega
 have lt2 : (l.drop i).length = l.length - i := List.length_drop
 rw [lt1] at u1
 rw [lt2] at u2
 have za : ∀ m : List Hd, (qjO.cells m).all (wrOk true) = true := fun m => QnJ XEe m
 have hN : (l.take i ++ x :: l.drop i).length = l.length + 1 := by rw [List.length_append, List.length_cons, lt1, lt2]; omega
 have hC : qjO.cells (l.take i ++ x :: l.drop i) = qjO.cells (l.take i) ++ (qjO.f x ++ qjO.cells (l.drop i)) := by simp [Row.cells]
 have hne : (l.take i ++ x :: l.drop i).length ≠ 0 := by omega
 have hT : (qjO.cells (l.take i)).length = i * 34 := by rw [qjO.cells_len, lt1]; rfl
 have hD : (qjO.cells (l.drop i)).length = (l.length - i) * 34 := by rw [qjO.cells_len, lt2]; rfl
 have tkD : (qjO.cells (l.drop i)).take ((l.length - i) * 34) = qjO.cells (l.drop i) := List.take_of_length_le (by omega)
 have ap0 : ∀ H id n k ys, appW H true 34 48 (.sl id 0 n n k) 0 ys = some (.sl id 0 n n k, H) := fun H id n k ys => rfl
 have mI : (i * 48 ≤ 140737488355328 ∧ i ≤ maxLen) = True := eq_true ⟨by omega, by unfold maxLen; omega⟩
 have mR : ((l.length - i) * 48 ≤ 140737488355328 ∧ l.length - i ≤ maxLen) = True := eq_true ⟨by omega, by unfold maxLen; omega⟩
 have m1 : (1 * 48 ≤ 140737488355328 ∧ 1 ≤ maxLen) = True := eq_true ⟨by decide, by unfold maxLen; omega⟩
 have a1 := fun (L : List AB) (k : Nat) (ys : List AV) hb hx => KrC (h := h) L k i 34 48 1 ys hb hx (by decide) (by decide) (by omega) (by unfold maxLen; omega)
 have hX1 : (qjO.f x).length = 1 * 34 := qjO.len x
 have hX2 : (qjO.cells (l.take i) ++ qjO.f x).length = (i + 1) * 34 := by rw [List.length_append, hT, qjO.len]; show i * 34 + 34 = _; omega
 by_cases gi : i < l.length
 case neg =>
  have gi' := eq_false gi
  have z2 : ((l.length - i) = 0) = True := eq_true (by omega)
  rw [done (.inl (by omega))]
  by_cases i0 : i = 0
  ·have i0t : (i = 0) = True := eq_true i0
   have cnt : 1 = l.length + 1 := by omega
   simp only [X1r, X5W, zVq, simprocAttr, CO.tmps, Opd.tmps, optT, Nat.reducePow, Nat.reduceDiv, Nat.reduceMod, f1, gi', kd, JoE, ZIt, q1, q2, g1, g2, u1, u2, za, Xc9, qdZ, KYW, qJ3, Nat.zero_add, Nat.le_refl, KJo, true_and, i0t, z2, ap0, m1, z1m, hT, hD, hX1, hX2, XEe, zp7, ZOt, Ke3, QNE hh, QFK hz, K9V hz, Ksi hz]
   have eF : ∀ id, rsl qjO id (l.take i ++ x :: l.drop i) = .sl id 0 1 1 (some 34) := fun id => by rw [ZZP _ hne, hN, show l.length + 1 = 1 by omega]; rfl
   have eB : resB qjO true (l.take i ++ x :: l.drop i) = .blk true true (qjO.f x) := by rw [XCu _ hne, hC]; rw [show qjO.cells (l.take i) = [] from by rw [i0]; rfl, show qjO.cells (l.drop i) = [] from by rw [List.drop_eq_nil_of_le (by omega)]; rfl, List.nil_append, List.append_nil]
   rw [eF, eB]
   exact Bt.sel [4] hh (by decide) (by simp only [q9C, FrSel, BlkSel, AV.ren, renL, AV.ok, okL, Option.some.injEq, exists_eq_left', List.length_cons, List.length_nil, Nat.reduceAdd, Nat.reduceLT, reduceCtorEq, implies_true, exists_eq']) (by simp only [q9C, FrSel, BlkSel, AV.ren, renL, AV.ok, okL, Option.some.injEq, exists_eq_left', List.length_cons, List.length_nil, Nat.reduceAdd, Nat.reduceLT, reduceCtorEq, implies_true, exists_eq'])
  ·have i0f : (i = 0) = False := eq_false i0
   have cnt : (i + 1) = l.length + 1 := by omega
   simp only [X1r, X5W, zVq, simprocAttr, CO.tmps, Opd.tmps, optT, Nat.reducePow, Nat.reduceDiv, Nat.reduceMod, f1, gi', kd, JoE, ZIt, q1, q2, g1, g2, u1, u2, za, Xc9, qdZ, KYW, qJ3, Nat.zero_add, Nat.le_refl, KJo, true_and, i0f, z2, a1, mI, ap0, m1, z1m, hT, hD, hX1, hX2, XEe, zp7, ZOt, Ke3, QNE hh, QFK hz, K9V hz, Ksi hz]
   have eF : ∀ id, rsl qjO id (l.take i ++ x :: l.drop i) = .sl id 0 (i + 1) (i + 1) (some 34) := fun id => by rw [ZZP _ hne, hN, show l.length + 1 = (i + 1) by omega]; rfl
   have eB : resB qjO true (l.take i ++ x :: l.drop i) = .blk true true (qjO.cells (l.take i) ++ qjO.f x) := by rw [XCu _ hne, hC]; rw [show qjO.cells (l.drop i) = [] from by rw [List.drop_eq_nil_of_le (by omega)]; rfl, List.append_nil]
   rw [eF, eB]
   exact Bt.sel [5] hh (by decide) (by simp only [q9C, FrSel, BlkSel, AV.ren, renL, AV.ok, okL, Option.some.injEq, exists_eq_left', List.length_cons, List.length_nil, Nat.reduceAdd, Nat.reduceLT, reduceCtorEq, implies_true, exists_eq']) (by simp only [q9C, FrSel, BlkSel, AV.ren, renL, AV.ok, okL, Option.some.injEq, exists_eq_left', List.length_cons, List.length_nil, Nat.reduceAdd, Nat.reduceLT, reduceCtorEq, implies_true, exists_eq'])
 have gi' := eq_true gi
 by_cases gl : ZwT (l.getD i qjO.d).1 x.1
 ·have e1 : IntKind.i64.wrap ((i : Int) + 1) = ((i + 1 : Nat) : Int) := ZL4 (by unfold In64; omega)
  have gl' := eq_true gl
  simp only [X1r, X5W, zVq, simprocAttr, CO.tmps, Opd.tmps, optT, Nat.reducePow, Nat.reduceDiv, Nat.reduceMod, f1, f4, gi', gl', e1, kd, JoE, ZIt, XEe, zp7, QNE hh, QFK hz, K9V hz, Ksi hz]
  refine ⟨i + 1, ⟨gi, fun j hj => ?_⟩, by omega, Wk.refl _⟩
  rcases Nat.lt_succ_iff_lt_or_eq.1 hj with z | rfl
  ·exact hi.2 j z
  ·exact gl
 ·have gl' := eq_false gl
  have z2 : ((l.length - i) = 0) = False := eq_false (by omega)
  rw [done (.inr ⟨gi, gl⟩)]
  by_cases i0 : i = 0
  ·have i0t : (i = 0) = True := eq_true i0
   have a2 := fun (L : List AB) (k : Nat) (ys : List AV) hb hx => KrC (h := h) L k 1 34 48 (l.length - i) ys hb hx (by decide) (by omega) (by omega) (by unfold maxLen; omega)
   have cnt : (1 + (l.length - i)) = l.length + 1 := by omega
   simp only [X1r, X5W, zVq, simprocAttr, CO.tmps, Opd.tmps, optT, Nat.reducePow, Nat.reduceDiv, Nat.reduceMod, f1, f4, gi', gl', kd, JoE, ZIt, q1, q2, g1, g2, u1, u2, za, Xc9, qdZ, KYW, qJ3, Nat.zero_add, Nat.le_refl, KJo, true_and, i0t, z2, a2, tkD, mR, ap0, m1, z1m, hT, hD, hX1, hX2, XEe, zp7, ZOt, Ke3, QNE hh, QFK hz, K9V hz, Ksi hz]
   have eF : ∀ id, rsl qjO id (l.take i ++ x :: l.drop i) = .sl id 0 (1 + (l.length - i)) (1 + (l.length - i)) (some 34) := fun id => by rw [ZZP _ hne, hN, show l.length + 1 = (1 + (l.length - i)) by omega]; rfl
   have eB : resB qjO true (l.take i ++ x :: l.drop i) = .blk true true (qjO.f x ++ qjO.cells (l.drop i)) := by rw [XCu _ hne, hC]; rw [show qjO.cells (l.take i) = [] from by rw [i0]; rfl, List.nil_append]
   rw [eF, eB]
   exact Bt.sel [6] hh (by decide) (by simp only [q9C, FrSel, BlkSel, AV.ren, renL, AV.ok, okL, Option.some.injEq, exists_eq_left', List.length_cons, List.length_nil, Nat.reduceAdd, Nat.reduceLT, reduceCtorEq, implies_true, exists_eq']) (by simp only [q9C, FrSel, BlkSel, AV.ren, renL, AV.ok, okL, Option.some.injEq, exists_eq_left', List.length_cons, List.length_nil, Nat.reduceAdd, Nat.reduceLT, reduceCtorEq, implies_true, exists_eq'])
  ·have i0f : (i = 0) = False := eq_false i0
   have a2 := fun (L : List AB) (k : Nat) (ys : List AV) hb hx => KrC (h := h) L k (i + 1) 34 48 (l.length - i) ys hb hx (by decide) (by omega) (by omega) (by unfold maxLen; omega)
   have cnt : (i + 1 + (l.length - i)) = l.length + 1 := by omega
   simp only [X1r, X5W, zVq, simprocAttr, CO.tmps, Opd.tmps, optT, Nat.reducePow, Nat.reduceDiv, Nat.reduceMod, f1, f4, gi', gl', kd, JoE, ZIt, q1, q2, g1, g2, u1, u2, za, Xc9, qdZ, KYW, qJ3, Nat.zero_add, Nat.le_refl, KJo, true_and, i0f, z2, a2, tkD, mR, a1, mI, ap0, m1, z1m, hT, hD, hX1, hX2, XEe, zp7, ZOt, Ke3, QNE hh, QFK hz, K9V hz, Ksi hz]
   have eF : ∀ id, rsl qjO id (l.take i ++ x :: l.drop i) = .sl id 0 (i + (1 + (l.length - i))) (i + (1 + (l.length - i))) (some 34) := fun id => by rw [ZZP _ hne, hN, show l.length + 1 = (i + (1 + (l.length - i))) by omega]; rfl
   have eB : resB qjO true (l.take i ++ x :: l.drop i) = .blk true true (qjO.cells (l.take i) ++ qjO.f x ++ qjO.cells (l.drop i)) := by rw [XCu _ hne, hC]; rw [List.append_assoc]
   rw [eF, eB]
   exact Bt.sel [7] hh (by decide) (by simp only [q9C, FrSel, BlkSel, AV.ren, renL, AV.ok, okL, Option.some.injEq, exists_eq_left', List.length_cons, List.length_nil, Nat.reduceAdd, Nat.reduceLT, reduceCtorEq, implies_true, exists_eq']) (by simp only [q9C, FrSel, BlkSel, AV.ren, renL, AV.ok, okL, Option.some.injEq, exists_eq_left', List.length_cons, List.length_nil, Nat.reduceAdd, Nat.reduceLT, reduceCtorEq, implies_true, exists_eq'])
theorem qZC : Spec Tryz.prog 76 YKJ := by
 intro args h v h' e
 unfold YKJ at e
 split at e
 ·rename_i s y
  obtain ⟨l, hl, e⟩ := YI8 e
  obtain ⟨x, hx, e2⟩ := KFu e
  clear e
  subst hx
  split at e2
  ·rename_i hc
   cases e2
   refine FnAt.c (FnAt.frz fun hz => ?_)
   rw [show h.length = (h.map AB.freeze).length from (List.length_map _).symm]
   exact z3E hz hl.frz hc.1 hc.2.1 hc.2.2
  ·cases e2
 ·cases e
end Go.Proofs.YtfaccliekejngaaGreat
end
section
namespace Go.Proofs.YtfaccliekejngaaGreat
set_option maxRecDepth 100000
set_option maxHeartbeats 8000000
theorem qVE : Spec Tryz.prog 62 q7G := by
 intro args h v h' e
 unfold q7G at e
 split at e
 ·rename_i v d
  obtain ⟨xs, hv, e⟩ := YI8 e
  obtain ⟨ds, hd, e⟩ := YI8 e
  split at e
  ·rename_i hl
   cases e
   refine FnAt.c (FnAt.frz fun hz => ?_)
   rw [show h.length = (h.map AB.freeze).length from (List.length_map _).symm]
   replace hv := hv.frz
   replace hd := hd.frz
   generalize h.map AB.freeze = h at *
   refine FnAt.run (by kernel_rfl) (T := ⟨[], []⟩) ⟨trivial, trivial⟩ Tryz.func62 sw62 fun ho hh => ?_
   simp only [qMC, JAX, Bool.and_eq_true] at ho
   have f1 := hv.fx ho.1.1 (sz := 1) rfl
   have f2 := hd.fx ho.1.2.1 (sz := 2) rfl
   have u1 := hv.src (sz := 1) rfl
   have u2 := hd.src (sz := 2) rfl
   have mI : (xs.length * 8 ≤ 140737488355328 ∧ xs.length ≤ maxLen) = True := eq_true ⟨by omega, by unfold maxLen; omega⟩
   have mD : (ds.length * 16 ≤ 140737488355328 ∧ ds.length ≤ maxLen) = True := eq_true ⟨by omega, by unfold maxLen; omega⟩
   unfold w62
   by_cases h1 : xs.length = 0 <;> by_cases h2 : ds.length = 0
   ·have e1 : xs = [] := List.eq_nil_of_length_eq_zero h1
    have e2 : ds = [] := List.eq_nil_of_length_eq_zero h2
    subst e1 e2
    simp only [XH8, QN9, X1r, X5W, zVq, simprocAttr, CO.tmps, Opd.tmps, optT, Nat.reducePow, Nat.reduceDiv, Nat.reduceMod, f1, f2, u1, u2, z1m, List.length_nil, Qj7, QNE hh, QFK hz, K9V hz, Ksi hz]
    refine Bt.trans (Bt.wk1 (JEJ (l' := [.sl (h.length + 2) 0 0 0 (some 0), .sl (h.length + 3) 0 0 0 (some 0)]) ⟨Wk.empty (h.length + 2) 0 _ _ _ _, Wk.empty (h.length + 3) 0 _ _ _ _, trivial⟩)) ?_
    exact Bt.sel [2, 3] hh (by decide) (by simp only [q9C, FrSel, BlkSel, AV.ren, renL, AV.ok, okL, Option.some.injEq, exists_eq_left', List.length_cons, List.length_nil, Nat.reduceAdd, Nat.reduceLT, reduceCtorEq, implies_true, exists_eq', zc6]) (by simp only [q9C, FrSel, BlkSel, AV.ren, renL, AV.ok, okL, Option.some.injEq, exists_eq_left', List.length_cons, List.length_nil, Nat.reduceAdd, Nat.reduceLT, reduceCtorEq, implies_true, exists_eq', Y8D])
   ·have e1 : xs = [] := List.eq_nil_of_length_eq_zero h1
    have h2' := eq_false h2
    subst e1
    simp only [XH8, QN9, X1r, X5W, zVq, simprocAttr, CO.tmps, Opd.tmps, optT, Nat.reducePow, Nat.reduceDiv, Nat.reduceMod, f1, f2, u1, u2, z1m, h2', mD, List.length_nil, Qj7, QNE hh, QFK hz, K9V hz, Ksi hz]
    refine Bt.trans (Bt.wk1 (JEJ (l' := [.sl (h.length + 2) 0 0 0 (some 0), .sl (h.length + 4) 0 ds.length ds.length (some 2)]) ⟨Wk.empty (h.length + 2) 0 _ _ _ _, Wk.refl _, trivial⟩)) ?_
    rw [ZZP _ h2, XCu _ h2]
    exact Bt.sel [2, 4] hh (by decide) (by simp only [q9C, FrSel, BlkSel, AV.ren, renL, AV.ok, okL, Option.some.injEq, exists_eq_left', List.length_cons, List.length_nil, Nat.reduceAdd, Nat.reduceLT, reduceCtorEq, implies_true, exists_eq', zc6]) (by simp only [q9C, FrSel, BlkSel, AV.ren, renL, AV.ok, okL, Option.some.injEq, exists_eq_left', List.length_cons, List.length_nil, Nat.reduceAdd, Nat.reduceLT, reduceCtorEq, implies_true, exists_eq', Y8D, ZeP])
   ·have e2 : ds = [] := List.eq_nil_of_length_eq_zero h2
    have h1' := eq_false h1
    subst e2
    simp only [XH8, QN9, X1r, X5W, zVq, simprocAttr, CO.tmps, Opd.tmps, optT, Nat.reducePow, Nat.reduceDiv, Nat.reduceMod, f1, f2, u1, u2, z1m, h1', mI, List.length_nil, Qj7, QNE hh, QFK hz, K9V hz, Ksi hz]
    refine Bt.trans (Bt.wk1 (JEJ (l' := [.sl (h.length + 3) 0 xs.length xs.length (some 1), .sl (h.length + 4) 0 0 0 (some 0)]) ⟨Wk.refl _, Wk.empty (h.length + 4) 0 _ _ _ _, trivial⟩)) ?_
    rw [ZZP _ h1, XCu _ h1]
    exact Bt.sel [3, 4] hh (by decide) (by simp only [q9C, FrSel, BlkSel, AV.ren, renL, AV.ok, okL, Option.some.injEq, exists_eq_left', List.length_cons, List.length_nil, Nat.reduceAdd, Nat.reduceLT, reduceCtorEq, implies_true, exists_eq', zc6]) (by simp only [q9C, FrSel, BlkSel, AV.ren, renL, AV.ok, okL, Option.some.injEq, exists_eq_left', List.length_cons, List.length_nil, Nat.reduceAdd, Nat.reduceLT, reduceCtorEq, implies_true, exists_eq', Y8D, QPQ])
   ·have h1' := eq_false h1
    have h2' := eq_false h2
    simp only [XH8, QN9, X1r, X5W, zVq, simprocAttr, CO.tmps, Opd.tmps, optT, Nat.reducePow, Nat.reduceDiv, Nat.reduceMod, f1, f2, u1, u2, z1m, h1', h2', mI, mD, QNE hh, QFK hz, K9V hz, Ksi hz]
    rw [ZZP _ h1, XCu _ h1, ZZP _ h2, XCu _ h2]
    exact Bt.sel [3, 5] hh (by decide) (by simp only [q9C, FrSel, BlkSel, AV.ren, renL, AV.ok, okL, Option.some.injEq, exists_eq_left', List.length_cons, List.length_nil, Nat.reduceAdd, Nat.reduceLT, reduceCtorEq, implies_true, exists_eq']) (by simp only [q9C, FrSel, BlkSel, AV.ren, renL, AV.ok, okL, Option.some.injEq, exists_eq_left', List.length_cons, List.length_nil, Nat.reduceAdd, Nat.reduceLT, reduceCtorEq, implies_true, exists_eq', QPQ, ZeP])
  ·cases e
 ·cases e
end Go.Proofs.YtfaccliekejngaaGreat
end
section
namespace Go.Proofs.YtfaccliekejngaaGreat
set_option maxRecDepth 100000
set_option maxHeartbeats 8000000
def delL (i : Dg) (l : List Hd) : List Hd := l.filter fun y => decide (¬ y.2 = i)
theorem Xc5 (i : Dg) {l : List Hd} {k : Nat} (h : k < l.length) : delL i (l.take (k + 1)) = delL i (l.take k) ++ (if ¬ (l.getD k qjO.d).2 = i then [l.getD k qjO.d] else []) := by
 unfold delL
 rw [List.take_succ_eq_append_getElem h, List.filter_append, List.getD_eq_getElem?_getD, List.getElem?_eq_getElem h]
 simp only [Option.getD_some, List.filter_cons, List.filter_nil, decide_eq_true_eq]
theorem Yfa (i : Dg) (l : List Hd) : (delL i l).length ≤ l.length := List.length_filter_le _ _
theorem YA6 {i : Dg} {l : List Hd} (h : ¬ ∃ x ∈ l, x.2 = i) : delL i l = l := List.filter_eq_self.2 fun y hy => decide_eq_true fun q => h ⟨y, hy, q⟩
theorem qUn (i : Dg) : ∀ (l : List Hd) (n : Nat), 0 ≤ XBh (fun y : Hd => y.2 = i) l n → ∃ j, j < l.length ∧ XBh (fun y : Hd => y.2 = i) l n = ((n + j : Nat) : Int) ∧ delL i (l.take (j + 1)) = l.take j
 | [], n, h => by simp [XBh] at h
 | a :: l, n, h => by
  unfold XBh at h ⊢
  split
  ·rename_i q
   exact ⟨0, by simp, by simp, by simp [delL, q]⟩
  ·rename_i q
   rw [if_neg q] at h
   obtain ⟨j, h1, h2, h3⟩ := qUn i l (n + 1) h
   refine ⟨j + 1, by simpa using h1, by rw [h2]; congr 1; omega, ?_⟩
   rw [List.take_succ_cons, List.take_succ_cons, ← h3]
   unfold delL
   rw [List.filter_cons, if_pos (decide_eq_true q)]
noncomputable def JBi : List AV → List AB → Option (AV × List AB)
 | [y, .p b 0], h => (XAh h b).bind fun c => (getI (.ag c)).bind fun i => (getH y).bind fun x => some (.b (decide (x.2 = i)), h)
 | _, _ => none
theorem ztO {h : List AB} {i : Nat} {c : List AV} {x : Dg} (e : XAh h i = some c) (hx : getI (.ag c) = some x) : XAh h i = some (idR.f x) := by
 unfold getI at hx
 split at hx
 ·rename_i q
  cases hx
  have := q.choose_spec
  rw [AV.ag.injEq] at this
  rw [e, ← this]
 ·cases hx
theorem Xeh : Spec Tryz.prog 78 JBi := by
 intro args h v h' e
 unfold JBi at e
 split at e
 ·rename_i y b
  obtain ⟨c, hc, e⟩ := Option.bind_eq_some_iff.1 e
  obtain ⟨i, hi, e⟩ := Option.bind_eq_some_iff.1 e
  obtain ⟨x, hx, e2⟩ := KFu e
  clear e
  subst hx
  cases e2
  have f1 := qee (ztO hc hi)
  refine FnAt.c (FnAt.run (by kernel_rfl) (T := ⟨[], []⟩) ⟨trivial, trivial⟩ Tryz.func78 sw78 fun ho hh => ?_)
  unfold w78
  simp only [XH8, QN9, X1r, X5W, zVq, simprocAttr, CO.tmps, Opd.tmps, optT, Nat.reducePow, Nat.reduceDiv, Nat.reduceMod, f1, qfY, XwU, Kb6, XEe, zp7, ZOt, Ke3, QLO]
  exact Bt.dropB _ hh rfl
 ·cases e
noncomputable def KYg : List AV → List AB → Option (AV × List AB)
 | [s, .f (.func 78) [] [.p b 0]], h => (XAh h b).bind fun c => (getI (.ag c)).bind fun i => (getS qjO h s).bind fun l => some (.i .i64 (idx (fun y : Hd => y.2 = i) l), h)
 | _, _ => none
theorem YgJ : Spec Tryz.prog 123 KYg := by
 intro args h v h' e
 unfold KYg at e
 split at e
 ·rename_i s b
  obtain ⟨c, hc, e⟩ := Option.bind_eq_some_iff.1 e
  obtain ⟨i, hi, e⟩ := Option.bind_eq_some_iff.1 e
  obtain ⟨l, hx, e⟩ := YI8 e
  cases e
  have hb := ztO hc hi
  refine FnAt.c (FnAt.run (by kernel_rfl) (T := ⟨[⟨78, JBi, fun _ => []⟩], []⟩) ⟨⟨Xeh, trivial⟩, trivial⟩ Tryz.func123 z9j fun ho hh => ?_)
  simp only [qMC, Bool.and_eq_true] at ho
  have f1 := hx.fx ho.1 (sz := 34) rfl
  have k0 : ∀ y, XAh (h ++ y) b = some (idR.f i) := (qee hb).1
  unfold w123
  simp only [XH8, QN9, X1r, zVq, simprocAttr, f1]
  refine YMr (S := Nat) (fun j => l.length - j) (fun j => [s, .f (.func 78) [] [.p b 0]] ++ tp 5 ++ [.i .i64 l.length, .i .i64 j] ++ tp 10) (fun j => j ≤ l.length ∧ idx (fun y : Hd => y.2 = i) l = XBh (fun y : Hd => y.2 = i) (l.drop j) j) 0 ⟨Nat.zero_le _, rfl⟩ (by simp only [X1r, zVq, simprocAttr]) fun j hj => ?_
  simp only [X1r, zVq, simprocAttr, f1]
  refine ⟨fun h2 => ?_, fun h2 => ?_⟩
  ·have e1 : IntKind.i64.wrap ((j : Int) + 1) = ((j + 1 : Nat) : Int) := ZL4 (by have := hx.2; unfold maxLen at this; unfold In64; omega)
   have e2 := qVK (fun y : Hd => y.2 = i) qjO.d j h2
   simp only [X1r, zVq, simprocAttr, f1, h2, e1, JBi, KDg, ZK2, k0]
   refine ⟨fun h3 => Bt.eq (by rw [hj.2, e2, if_pos h3]) (List.append_nil h), fun h3 => ⟨j + 1, ⟨h2, ?_⟩, by omega, Wk.refl _⟩⟩
   rw [hj.2, e2, if_neg h3]
  ·exact Bt.eq (by rw [hj.2, List.drop_eq_nil_of_le (by omega)]; rfl) (List.append_nil h)
 ·cases e
structure DelSt (i : Dg) (l L : List Hd) (j k : Nat) : Prop where
 len : L.length = l.length
 lt : k < j
 le : j ≤ l.length
 hd : L.take k = delL i (l.take j)
 tl : ∀ m, j ≤ m → L.getD m qjO.d = l.getD m qjO.d
theorem DelSt.skip {i : Dg} {l L : List Hd} {j k : Nat} (s : DelSt i l L j k) (hj : j < l.length) (q : (l.getD j qjO.d).2 = i) : DelSt i l L (j + 1) k :=
 ⟨s.len, Nat.lt_succ_of_lt s.lt, hj, by rw [Xc5 i hj, if_neg (not_not_intro q), List.append_nil]; exact s.hd, fun m hm => s.tl m (by omega)⟩
theorem DelSt.keep {i : Dg} {l L : List Hd} {j k : Nat} (s : DelSt i l L j k) (hj : j < l.length) (q : ¬ (l.getD j qjO.d).2 = i) : DelSt i l (L.set k (l.getD j qjO.d)) (j + 1) (k + 1) := by
 have hk : k < L.length := by have := s.len; have := s.lt; omega
 refine ⟨by rw [List.length_set]; exact s.len, Nat.succ_lt_succ s.lt, hj, ?_, fun m hm => ?_⟩
 ·rw [Xc5 i hj, if_pos q, ← s.hd, List.take_succ_eq_append_getElem (by rw [List.length_set]; exact hk), List.getElem_set_self]
  congr 1
  rw [List.take_set, List.set_eq_of_length_le (by rw [List.length_take]; omega)]
 ·rw [List.getD_eq_getElem?_getD, List.getElem?_set_ne (by have := s.lt; omega), ← List.getD_eq_getElem?_getD]
  exact s.tl m (by omega)
open Classical in
noncomputable def qY9 : List AV → List AB → Option (AV × List AB)
 | [s, .f (.func 78) [] [.p b 0]], h => (XAh h b).bind fun c => (getI (.ag c)).bind fun i => (getS qjO h s).bind fun l => match idOf s with
   | [id] => if s = rsl qjO id l ∧ h[id]? = some (resB qjO true l) ∧ b ≠ id ∧ l.length ≤ 1000000 then some (rsl qjO id (delL i l), h.set id (resB qjO true (delL i l))) else none
   | _ => none
 | _, _ => none
theorem XtY : Spec Tryz.prog 77 qY9 := by
 intro args h v h' e
 unfold qY9 at e
 split at e
 ·rename_i s b
  obtain ⟨c, hc, e⟩ := Option.bind_eq_some_iff.1 e
  obtain ⟨i, hi, e⟩ := Option.bind_eq_some_iff.1 e
  obtain ⟨l, hs, e⟩ := YI8 e
  split at e
  ·rename_i id hid
   split at e
   ·rename_i hcc
    cases e
    obtain ⟨h1, h2, hbn, h3⟩ := hcc
    have hb := ztO hc hi
    have hlt := (List.getElem?_eq_some_iff.1 h2).1
    have hS2 : s.isSl = true := hs.isSl
    by_cases hn : idx (fun y : Hd => y.2 = i) l < 0
    ·have hd : delL i l = l := YA6 fun q => by
      have := (zpY (fun y : Hd => y.2 = i) l).2 q
      omega
     have hm1 : idx (fun y : Hd => y.2 = i) l = -1 := by
      have : ∀ (l : List Hd) (n : Nat), XBh (fun y : Hd => y.2 = i) l n < 0 → XBh (fun y : Hd => y.2 = i) l n = -1 := by
       intro l
       induction l with
       | nil => intro n _; rfl
       | cons a l ih =>
        intro n hq
        unfold XBh at hq ⊢
        split
        ·rename_i z
         rw [if_pos z] at hq
         omega
        ·rename_i z
         rw [if_neg z] at hq
         exact ih _ hq
      exact this l 0 hn
     rw [hd, Js6 h2, ← h1]
     refine FnAt.c (FnAt.run (by kernel_rfl) (T := ⟨[⟨123, KYg, fun _ => []⟩], []⟩) ⟨⟨YgJ, trivial⟩, trivial⟩ Tryz.func77 sw77 fun ho hh => ?_)
     simp only [qMC, Bool.and_eq_true] at ho
     have f1 := hs.fx ho.1 (sz := 34) rfl
     have k0 : ∀ y, XAh (h ++ y) b = some (idR.f i) := (qee hb).1
     unfold w77
     simp only [XH8, QN9, X1r, X5W, zVq, simprocAttr, CO.tmps, Opd.tmps, optT, Nat.reducePow, Nat.reduceDiv, Nat.reduceMod, f1, KYg, k0, ZK2, hm1]
     exact Bt.eq rfl (List.append_nil h)
    ·obtain ⟨j0, hj0, hij, hdj⟩ := qUn i l 0 (by unfold idx at hn; omega)
     have hij2 : idx (fun y : Hd => y.2 = i) l = (j0 : Int) := by unfold idx; rw [hij, Nat.zero_add]
     have hpos : 0 < l.length := by omega
     have hS : rsl qjO id l = .sl id 0 l.length l.length (some 34) := by unfold rsl; rw [if_neg (by omega)]; rfl
     have kb0 : ∀ y, XAh (h ++ y) b = some (idR.f i) := (qee hb).1
     have hg : ∀ y, getS qjO (h ++ y) (.sl id 0 l.length l.length (some 34)) = some l := fun y => by rw [← hS, ← h1]; exact (hs.app y).get
     have ho1 : l.length ≠ 0 := by omega
     rw [h1, hS]
     refine FnAt.c (FnAt.run (by kernel_rfl) (T := ⟨[⟨123, KYg, fun _ => []⟩, ⟨78, JBi, fun _ => []⟩], []⟩) ⟨⟨YgJ, Xeh, trivial⟩, trivial⟩ Tryz.func77 sw77 fun ho hh => ?_)
     have nm1 : ((j0 : Int) = -1) = False := eq_false (by omega)
     have e0 : IntKind.i64.wrap ((j0 : Int) + 1) = ((j0 + 1 : Nat) : Int) := ZL4 (by unfold In64; omega)
     have hset : h.set id (resB qjO true l) = h := Js6 h2
     unfold w77
     simp only [XH8, QN9, X1r, X5W, zVq, simprocAttr, CO.tmps, Opd.tmps, optT, Nat.reducePow, Nat.reduceDiv, Nat.reduceMod, lenV, KYg, kb0, hg, ZK2, hij2, nm1, e0, false_implies, true_and]
     refine YHj (S := Nat × Nat × List Hd) (fun s => l.length - s.1) (fun s => [.sl id 0 l.length l.length (some 34), .f (.func 78) [] [.p b 0]] ++ tp 3 ++ [.i .i64 s.2.1, .i .i64 s.1] ++ tp 35) (fun s => h.set id (resB qjO true s.2.2) ++ []) (fun s => DelSt i l s.2.2 s.1 s.2.1) (j0 + 1, j0, l) ⟨rfl, Nat.lt_succ_self _, hj0, hdj.symm, fun _ _ => rfl⟩ (by rw [hset]; exact Bt.wk (by simp only [X1r, zVq, simprocAttr])) fun s hs => ?_
     obtain ⟨j, k, L⟩ := s
     dsimp only at hs ⊢
     have hL := hs.len
     have hk := hs.lt
     have hle := hs.le
     have hi2 : (h.set id (resB qjO true L))[id]? = some (resB qjO true L) := List.getElem?_set_self hlt
     have kb : ∀ y, XAh (h.set id (resB qjO true L) ++ y) b = some (idR.f i) := fun y => by
      have := kb0 []
      rw [List.append_nil] at this
      refine X94 ?_ y
      unfold XAh at this ⊢
      rw [List.getElem?_set_ne (fun q => hbn q.symm)]
      exact this
     by_cases hjl : j < l.length
     ·have g3 : ((j : Int) < (l.length : Int)) = True := eq_true (by omega)
      have g4 : (j < l.length) = True := eq_true hjl
      have g6 : (k < l.length) = True := eq_true (by omega)
      have e3 : IntKind.i64.wrap ((j : Int) + 1) = ((j + 1 : Nat) : Int) := ZL4 (by unfold In64; omega)
      have e5 : IntKind.i64.wrap ((k : Int) + 1) = ((k + 1 : Nat) : Int) := ZL4 (by unfold In64; omega)
      have q1 := fun x => Z2r (r := qjO) (o := 0 + j * 34) (j := j) hi2 (by omega) (by rw [YuL]; omega) x
      simp only [YuL, hs.tl j (Nat.le_refl _)] at q1
      have q3 := fun x => QTq (r := qjO) (o := 0 + k * 34) (j := k) (y := l.getD j qjO.d) hi2 (by omega) (by rw [YuL]; omega) (XEe _) x
      simp only [YuL, List.set_set] at q3
      generalize hx : l.getD j qjO.d = x at *
      simp only [X1r, X5W, zVq, simprocAttr, CO.tmps, Opd.tmps, optT, Nat.reducePow, Nat.reduceDiv, Nat.reduceMod, lenV, g3, g4, g6, iadV, e3, e5, q1, q3, JBi, KDg, ZK2, kb, KJo, XEe, zp7, ZOt, Ke3, List.length_cons, List.length_nil, false_implies]
      have hb2 : b < h.length := JwL hb
      have bk : ∀ (X : List Hd) (fr fr' : List AV), FrSel (h.set id (resB qjO true X)).length [] 0 fr fr' → Bt Tryz.prog h.length fr (h.set id (resB qjO true X) ++ [.blk true true (qjO.f x)]) fr' (h.set id (resB qjO true X) ++ []) := fun X fr fr' hf => by
       have hk := Kdm (r := qjO) hh id true X
       rw [List.append_nil] at hk
       have z := Bt.sel (P := Tryz.prog) (h := h.set id (resB qjO true X)) (l := [.blk true true (qjO.f x)]) (l' := []) [] (hk.mpr trivial) (by decide) (by simp only [q9C, FrSel, BlkSel, AV.ren, renL, AV.ok, okL, Option.some.injEq, exists_eq_left', List.length_cons, List.length_nil, Nat.reduceAdd, Nat.reduceLT, reduceCtorEq, implies_true, exists_eq']) hf
       rwa [List.length_set] at z
      have s1 : ∀ X : List Hd, selN (h.set id (resB qjO true X)).length [] id = id := fun X => Xdk (by rw [List.length_set]; exact hlt)
      have s2 : ∀ X : List Hd, selN (h.set id (resB qjO true X)).length [] b = b := fun X => Xdk (by rw [List.length_set]; exact hb2)
      have s3 : ∀ X : List Hd, (id < (h.set id (resB qjO true X)).length) = True := fun X => eq_true (by rw [List.length_set]; exact hlt)
      have s4 : ∀ X : List Hd, (b < (h.set id (resB qjO true X)).length) = True := fun X => eq_true (by rw [List.length_set]; exact hb2)
      refine ⟨fun q => ⟨(j + 1, k + 1, L.set k x), ?_, by dsimp only; omega, bk _ _ _ (by simp only [q9C, FrSel, BlkSel, AV.ren, renL, AV.ok, okL, Option.some.injEq, exists_eq_left', List.length_cons, List.length_nil, Nat.reduceAdd, Nat.reduceLT, reduceCtorEq, implies_true, exists_eq', s1, s2, s3, s4])⟩, fun q => ⟨(j + 1, k, L), hs.skip hjl (by rw [hx]; exact Classical.not_not.1 q), by dsimp only; omega, bk _ _ _ (by simp only [q9C, FrSel, BlkSel, AV.ren, renL, AV.ok, okL, Option.some.injEq, exists_eq_left', List.length_cons, List.length_nil, Nat.reduceAdd, Nat.reduceLT, reduceCtorEq, implies_true, exists_eq', s1, s2, s3, s4])⟩⟩
      have := hs.keep hjl (by rw [hx]; exact q)
      rw [hx] at this
      exact this
     ·have g3 : ((j : Int) < (l.length : Int)) = False := eq_false (by omega)
      simp only [X1r, zVq, simprocAttr, lenV, g3, false_implies, true_and]
      have g6 : (k < l.length) = True := eq_true (by omega)
      have hkl : k < l.length := by omega
      have sI : slL 34 (.sl id 0 l.length l.length (some 34)) (some (.i .i64 (k : Int))) none none = some (.sl id (0 + k * 34) (l.length - k) (l.length - k) (some 34)) := by
       rcases Nat.eq_zero_or_pos k with k0 | k0
       ·subst k0; simp [slL, bnd]
       ·simp [slL, bnd, kcut, hkl, Nat.le_of_lt hkl, Nat.ne_of_gt k0]
      have sJ : slL 34 (.sl id 0 l.length l.length (some 34)) none (some (.i .i64 (k : Int))) none = some (.sl id 0 k l.length (some 34)) := by
       simp [slL, bnd, kcut, Nat.le_of_lt hkl]
      have zi : ∀ (zl : List AV), zl = qjO.f ((0, 0), KFp) → ∀ x, clrV (h.set id (resB qjO true L) ++ x) zl (.sl id (0 + k * 34) (l.length - k) (l.length - k) (some 34)) = some (.tu [], h.set id (resB qjO true (L.take k ++ List.replicate (l.length - k) ((0, 0), KFp))) ++ x) := fun zl hz x => by
       rw [hz, JdP hi2 (by omega) (by omega), List.set_set]
      have zj := zi _ (show ([.i .i64 0, .i .i64 0] ++ List.replicate 32 (AV.i .u8 0)) = qjO.f ((0, 0), KFp) from rfl)
      simp only [List.replicate, List.cons_append, List.nil_append] at zj
      simp only [X1r, zVq, simprocAttr, sI, sJ, Jss, zj]
      have hm : (L.take k ++ List.replicate (l.length - k) ((0, 0), KFp)).take k = delL i l := by
       rw [List.take_left' (by rw [List.length_take]; omega), hs.hd]
       have : j = l.length := by omega
       rw [this, List.take_length]
      exact q5h hlt (by rw [List.length_append, List.length_take, List.length_replicate]; omega) (by omega) (by omega) hm
   ·cases e
  ·cases e
 ·cases e
theorem Q9A {h : List AB} (L : List AB) (k b : Nat) (l : List Hd) (i : Dg) (hk : ownM qjO l L k) (hb : ownC L b = some (idR.f i)) (n : (b = k) = False) (hl : l.length ≤ 1000000) : qY9 [rsl qjO (h.length + k) l, .f (.func 78) [] [.p (h.length + b) 0]] (h ++ L) = some (rsl qjO (h.length + k) (delL i l), h ++ L.set k (resB qjO true (delL i l))) := by
 have h1 : (h ++ L)[h.length + k]? = some (resB qjO true l) := by rw [Yn6]; exact ZLZ l L k hk
 have g := (zRx h1 (by unfold maxLen; omega)).get
 have hn : ¬ b = k := fun q => by rw [q] at n; simp at n
 simp only [qY9, Q4R, hb, ZK2, g, Option.bind_some, XPg]
 rw [if_pos ⟨rfl, h1, by omega, hl⟩, zpT]
noncomputable def qBn : List AV → List AB → Option (AV × List AB)
 | [.ag [l, s, t], y], h => (getS qjO h l).bind fun hs => (getS intR h s).bind fun v => (getS dotR h t).bind fun ds => (getI y).bind fun i =>
   if hs.length ≤ 100000 ∧ v.length ≤ 1000000 ∧ ds.length ≤ 1000000 then
    if Kq6 hs v ds ≠ 0 then some (.tu [.ag [.ns, .ns, .ns], .i .i64 (Kq6 hs v ds)], h)
    else if ¬ ∃ x ∈ hs, x.2 = i then some (.tu [.ag [.ns, .ns, .ns], .i .i64 15], h)
    else some (.tu [.ag [rsl qjO h.length (delL i hs), rsl intR (h.length + 1) v, rsl dotR (h.length + 2) ds], .i .i64 0], h ++ [resB qjO true (delL i hs), resB intR true v, resB dotR true ds])
   else none
 | _, _ => none
def wsD : List AV → List Nat
 | [s, _] => idOf s
 | _ => []
theorem JOs : Spec Tryz.prog 26 qBn := by
 intro args h v h' e
 unfold qBn at e
 split at e
 ·rename_i l s t y
  obtain ⟨hs, hl, e⟩ := YI8 e
  obtain ⟨xs, hv, e⟩ := YI8 e
  obtain ⟨ds, hd, e⟩ := YI8 e
  obtain ⟨i, hi, e2⟩ := Kky e
  clear e
  subst hi
  split at e2
  ·rename_i hL
   have hR := (⟨⟨zRg, J2q, QZy, XtY, Jqn, trivial⟩, trivial⟩ : Env.Ok Tryz.prog ⟨[⟨31, X7Q, fun _ => []⟩, ⟨33, zSr, fun _ => []⟩, ⟨73, zLz, fun _ => []⟩, ⟨77, qY9, wsD⟩, ⟨60, q7G, fun _ => []⟩], []⟩)
   refine FnAt.c (FnAt.run (by kernel_rfl) hR Tryz.func26 sw26 fun ho hh => ?_)
   simp only [qMC, JAX, Bool.and_eq_true] at ho
   have f1 := hl.fx ho.1.1 (sz := 34) rfl
   have f2 := hv.fx ho.1.2.1 (sz := 1) rfl
   have f3 := hd.fx ho.1.2.2.1 (sz := 2) rfl
   have hL1 : (hs.length ≤ 1000000) = True := eq_true (by omega)
   have hL2 := eq_true hL.1
   have hL3 := eq_true hL.2.1
   have hL4 := eq_true hL.2.2
   unfold w26
   by_cases c0 : Kq6 hs xs ds = 0
   case neg =>
    have c0' := eq_false c0
    rw [if_pos c0] at e2
    cases e2
    simp only [XH8, QN9, X1r, X5W, zVq, simprocAttr, CO.tmps, Opd.tmps, optT, Nat.reducePow, Nat.reduceDiv, Nat.reduceMod, f1, f2, f3, X7Q, c0', hL1, Ydx, XwU, Kb6, Ke3, ne_eq, not_false_eq_true, not_true_eq_false, decide_true, decide_false]
    exact Bt.drop _ hh rfl (by simp only [ZVg, qMC, YI0, JAX, Yiy, ok_i, Bool.and_true])
   rw [if_neg (not_not_intro c0)] at e2
   by_cases c1 : ∃ x ∈ hs, x.2 = i
   case neg =>
    have c1' := eq_false c1
    rw [if_pos c1] at e2
    cases e2
    simp only [XH8, QN9, X1r, X5W, zVq, simprocAttr, CO.tmps, Opd.tmps, optT, Nat.reducePow, Nat.reduceDiv, Nat.reduceMod, f1, f2, f3, X7Q, zSr, ZK2, c0, c1', hL1, hL2, Ydx, XwU, Kb6, Ke3, ne_eq, not_false_eq_true, not_true_eq_false, decide_true, decide_false]
    exact Bt.drop _ hh rfl (by simp only [ZVg, qMC, YI0, JAX, Yiy, ok_i, Bool.and_true])
   have c1' := eq_true c1
   rw [if_neg (not_not_intro c1)] at e2
   cases e2
   have dl := fun L k b hk hb n => Q9A (h := h) L k b hs i hk hb n (by omega)
   have ldl := Yfa i hs
   simp only [XH8, QN9, X1r, X5W, zVq, simprocAttr, CO.tmps, Opd.tmps, optT, Nat.reducePow, Nat.reduceDiv, Nat.reduceMod, f1, f2, f3, X7Q, zSr, zLz, q7G, dl, ZK2, c0, c1', hL1, hL2, hL3, hL4, Ydx, XwU, Kb6, Ke3, ne_eq, not_false_eq_true, not_true_eq_false, decide_true, decide_false]
   exact Bt.sel [3, 4, 5] hh (by decide) (by simp only [q9C, FrSel, BlkSel, AV.ren, renL, AV.ok, okL, Option.some.injEq, exists_eq_left', List.length_cons, List.length_nil, Nat.reduceAdd, Nat.reduceLT, reduceCtorEq, implies_true, exists_eq']) (by simp only [q9C, FrSel, BlkSel, AV.ren, renL, AV.ok, okL, Option.some.injEq, exists_eq_left', List.length_cons, List.length_nil, Nat.reduceAdd, Nat.reduceLT, reduceCtorEq, implies_true, exists_eq'])
  ·cases e2
 ·cases e
end Go.Proofs.YtfaccliekejngaaGreat
end
