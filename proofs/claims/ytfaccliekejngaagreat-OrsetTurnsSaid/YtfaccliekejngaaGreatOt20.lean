/- Part 20 of what the laws' proofs rest on. No condition. -/
import Derived.Test.YtfaccliekejngaaGreatOt19
set_option linter.all false
section
namespace Go.Proofs.YtfaccliekejngaaGreat
set_option maxRecDepth 100000
set_option maxHeartbeats 4000000
def XF1 (v v' : List Int) (n : Nat) : List Int := (List.range n).map fun i => max (rAt v ((i + 1 : Nat) : Int)) (rAt v' ((i + 1 : Nat) : Int))
theorem ZsI (v v' : List Int) (n : Nat) : (XF1 v v' n).length = n := by simp [XF1]
theorem Zf6 (v v' : List Int) (n : Nat) : XF1 v v' (n + 1) = XF1 v v' n ++ [max (rAt v ((n + 1 : Nat) : Int)) (rAt v' ((n + 1 : Nat) : Int))] := by
 simp [XF1, List.range_succ]
theorem XIy (v v' : List Int) (h : ∀ n ∈ v, 0 ≤ n ∧ n ≤ 1048576) (h' : ∀ n ∈ v', 0 ≤ n ∧ n ≤ 1048576) (n : Nat) : ∀ x ∈ XF1 v v' n, 0 ≤ x ∧ x ≤ 1048576 := fun x hx => by
 obtain ⟨i, -, rfl⟩ := List.mem_map.1 hx
 have h1 := XNb v h ((i + 1 : Nat) : Int)
 have h2 := XNb v' h' ((i + 1 : Nat) : Int)
 omega
theorem Zdb {v v' : List Int} {ds ds' : Dots} (h : J6E v ds) (h' : J6E v' ds') : J6E (XF1 v v' 16) (ds ++ ds') :=
 ⟨by rw [ZsI]; omega, XIy v v' h.2.1 h'.2.1 16, fun d hd => (List.mem_append.1 hd).elim (h.2.2 d) (h'.2.2 d)⟩
noncomputable def KfK : List AV → List AB → Option (AV × List AB)
 | [.ag [s, t], .ag [s', t']], h => (getS intR h s).bind fun v => (getS dotR h t).bind fun ds => (getS intR h s').bind fun v' => (getS dotR h t').bind fun ds' =>
   if KXy v ds ≠ 0 then some (.tu [.ag [.ns, .ns], .i .i64 (KXy v ds)], h)
   else if KXy v' ds' ≠ 0 then some (.tu [.ag [.ns, .ns], .i .i64 (KXy v' ds')], h)
   else if (fmO (XF1 v v' 16) (ds ++ ds')).2.length ≤ 4096 then some (.tu [.ag [.sl h.length 0 (topI (fmR (XF1 v v' 16) (layR (ds ++ ds'))).1 16) 16 none, rsl dotR (h.length + 1) (fmR (XF1 v v' 16) (layR (ds ++ ds'))).2], .i .i64 0], h ++ [.blk true true (intR.cells (fmR (XF1 v v' 16) (layR (ds ++ ds'))).1), resB dotR true (fmR (XF1 v v' 16) (layR (ds ++ ds'))).2])
   else some (.tu [.ag [.ns, .ns], .i .i64 10], h)
 | _, _ => none
theorem qUK (h : List AB) (s t s' t' : AV) (vs vs' : List Int) (ds ds' : Dots) (hs : Rd intR h s vs) (ht : Rd dotR h t ds) (hs' : Rd intR h s' vs') (ht' : Rd dotR h t' ds') (q : (if KXy vs ds = 0 then KXy vs' ds' else KXy vs ds) ≠ 0) : FnC Tryz.prog 75 [.ag [s, t], .ag [s', t']] h (.tu [.ag [.ns, .ns], .i .i64 (if KXy vs ds = 0 then KXy vs' ds' else KXy vs ds)]) h := by
 refine FnAt.c (FnAt.run (by kernel_rfl) (T := ⟨[⟨120, YZu, fun _ => []⟩], []⟩) ⟨⟨JjG, trivial⟩, trivial⟩ Tryz.func75 sw75 fun ho hh => ?_)
 simp only [qMC, JAX, Bool.and_eq_true] at ho
 have f1 := hs.fx ho.1.1 (sz := 1) rfl
 have f2 := ht.fx ho.1.2.1 (sz := 2) rfl
 have f3 := hs'.fx ho.2.1.1 (sz := 1) rfl
 have f4 := ht'.fx ho.2.1.2.1 (sz := 2) rfl
 generalize hc : (if KXy vs ds = 0 then KXy vs' ds' else KXy vs ds) = c at *
 unfold w75
 simp only [XH8, QN9, X1r, zVq, if_true, if_false, reduceIte, Nat.reduceAdd, Nat.reduceSub, Nat.reduceLeDiff, Nat.reduceEqDiff, Nat.reduceMul, Nat.reduceLT, Int.reduceLT, Int.reduceLE, Int.reduceEq, f1, f2, f3, f4, YZu, hc]
 exact ⟨fun _ => Bt.drop _ hh rfl rfl, fun z => absurd q z⟩
noncomputable def qJx (p : Nat) (J : List Int) (D : Dots) : AV × List AB :=
 if (fmO J D).2.length ≤ 4096 then (.tu [.ag [.sl p 0 (topI (fmR J (layR D)).1 16) 16 none, rsl dotR (p + 1) (fmR J (layR D)).2], .i .i64 0], [.blk true true (intR.cells (fmR J (layR D)).1), resB dotR true (fmR J (layR D)).2])
 else (.tu [.ag [.ns, .ns], .i .i64 10], [])
theorem J4T (h : List AB) (hz : h.map AB.freeze = h) (s t s' t' : AV) (vs vs' : List Int) (ds ds' : Dots) (hs : Rd intR h s vs) (ht : Rd dotR h t ds) (hs' : Rd intR h s' vs') (ht' : Rd dotR h t' ds') (c1 : KXy vs ds = 0) (c2 : KXy vs' ds' = 0) : FnAt Tryz.prog 75 [.ag [s, t], .ag [s', t']] h (qJx h.length (XF1 vs vs' 16) (ds ++ ds')).1 (h ++ (qJx h.length (XF1 vs vs' 16) (ds ++ ds')).2) := by
 obtain ⟨a1, a2, -⟩ := Xgv c1
 obtain ⟨b1, b2, -⟩ := Xgv c2
 have hJ := Zdb a1 b1
 have hJl : (XF1 vs vs' 16).length = 16 := ZsI _ _ _
 have hDl : (ds ++ ds').length = ds.length + ds'.length := List.length_append
 refine FnAt.run (by kernel_rfl) (T := ⟨[⟨120, YZu, fun _ => []⟩, ⟨121, KoJ, fun _ => []⟩, ⟨74, Yci, fun _ => []⟩], []⟩) ⟨⟨JjG, Kcs, q8x, trivial⟩, trivial⟩ Tryz.func75 sw75 fun ho hh => ?_
 simp only [qMC, JAX, Bool.and_eq_true] at ho
 have f1 := hs.fx ho.1.1 (sz := 1) rfl
 have f2 := ht.fx ho.1.2.1 (sz := 2) rfl
 have f3 := hs'.fx ho.2.1.1 (sz := 1) rfl
 have f4 := ht'.fx ho.2.1.2.1 (sz := 2) rfl
 have u2 := ht.src (sz := 2) rfl
 have u4 := ht'.src (sz := 2) rfl
 have cb : (if KXy vs ds = 0 then KXy vs' ds' else KXy vs ds) = 0 := by rw [if_pos c1]; exact c2
 have fo : ∀ c, s.ok (fun i => decide (i < h.length + c)) = true ∧ t.ok (fun i => decide (i < h.length + c)) = true ∧ s'.ok (fun i => decide (i < h.length + c)) = true ∧ t'.ok (fun i => decide (i < h.length + c)) = true := fun c => by
  have m : ∀ v : AV, v.ok (fun i => decide (i < h.length)) = true → v.ok (fun i => decide (i < h.length + c)) = true := fun v => AV.ok_mono (fun i q => by simp only [decide_eq_true_eq] at q ⊢; omega) v
  exact ⟨m _ ho.1.1, m _ ho.1.2.1, m _ ho.2.1.1, m _ ho.2.1.2.1⟩
 have fr : ∀ sel, Wk (s.ren (selN h.length sel)) s ∧ Wk (t.ren (selN h.length sel)) t ∧ Wk (s'.ren (selN h.length sel)) s' ∧ Wk (t'.ren (selN h.length sel)) t' := fun sel => ⟨Wk.ren (fun i hi => Xdk hi) ho.1.1, Wk.ren (fun i hi => Xdk hi) ho.1.2.1, Wk.ren (fun i hi => Xdk hi) ho.2.1.1, Wk.ren (fun i hi => Xdk hi) ho.2.1.2.1⟩
 unfold w75
 simp only [XH8, QN9, X1r, zVq, if_true, if_false, reduceIte, Nat.reduceAdd, Nat.reduceSub, Nat.reduceLeDiff, Nat.reduceEqDiff, Nat.reduceMul, Nat.reduceLT, Int.reduceLT, Int.reduceLE, Int.reduceEq, f1, f2, f3, f4, YZu, cb]
 refine ⟨fun q => q.elim, ?_⟩
 refine YHj (S := Nat) (fun n => 16 - n) (fun n => tp 2 ++ [.p (h.length + 0) 0, .p (h.length + 1) 0, .p (h.length + 2) 0] ++ tp 2 ++ [apS intR (h.length + 3) (XF1 vs vs' n), .i .i64 ((n + 1 : Nat) : Int)] ++ tp 32) (fun n => h ++ [.blk false true [s, t], .blk false true [s', t'], .blk false true [.ns, .ns], resB intR true (XF1 vs vs' n)]) (fun n => n ≤ 16) 0 (Nat.zero_le _) ?_ fun n hn => ?_
 ·show Bt _ _ _ _ _ (h ++ [.blk false true [s, t], .blk false true [s', t'], .blk false true [.ns, .ns], .dead])
  rw [show h ++ [AB.blk false true [s, t], .blk false true [s', t'], .blk false true [.ns, .ns], .dead] = (h ++ [AB.blk false true [s, t], .blk false true [s', t'], .blk false true [.ns, .ns]]) ++ List.replicate 1 .dead from by rw [List.append_assoc]; rfl]
  refine Bt.trans (Bt.wk ?_) (Bt.pad _ _ 1)
  rw [show apS intR (h.length + 3) (XF1 vs vs' 0) = .ns from rfl]
  simp only [X1r, zVq, if_true, if_false, reduceIte, Nat.reduceAdd, Nat.reduceSub, Nat.reduceLeDiff, Nat.reduceEqDiff, Nat.reduceMul, Nat.reduceLT, Int.reduceLT, Int.reduceLE, Int.reduceEq]
 have hnl := ZsI vs vs' n
 have e1 : IntKind.i64.wrap (((n + 1 : Nat) : Int) + 1) = ((n + 1 + 1 : Nat) : Int) := ZL4 (by unfold In64; omega)
 have fa := fun L k ys hb => J7h (h := h) (r := intR) (sz := 1) rfl L k (XF1 vs vs' n) 8 1 ys hb (by decide) (by omega) (by unfold maxLen; omega)
 by_cases g1 : n < 16
 ·have g1' : (((n + 1 : Nat) : Int) ≤ 16) = True := eq_true (by omega)
  by_cases n0 : n = 0
  ·subst n0
   have z0 : XF1 vs vs' 0 = [] := rfl
   have z1 : XF1 vs vs' (0 + 1) = [max (rAt vs 1) (rAt vs' 1)] := rfl
   have z1' : XF1 vs vs' 1 = [max (rAt vs 1) (rAt vs' 1)] := rfl
   have z2 : ((0 + 1 : Nat) : Int) = 1 := rfl
   have z3 : (1 * 8 ≤ 140737488355328 ∧ 1 ≤ maxLen) = True := eq_true ⟨by decide, by unfold maxLen; omega⟩
   simp only [z0, ZLN, X1r, Z1D, zVq, if_true, if_false, reduceIte, Nat.reduceAdd, Nat.reduceSub, Nat.reduceLeDiff, Nat.reduceEqDiff, Nat.reduceMul, Nat.reduceLT, Int.reduceLT, Int.reduceLE, Int.reduceEq, CO.tmps, Opd.tmps, optT, Nat.reducePow, Nat.reduceDiv, Nat.reduceMod, f1, f2, f3, f4, KoJ, z3, g1', e1, QZp hz, QNE hh]
   refine ⟨by unfold maxLen; omega, 1, by omega, by dsimp only; omega, ?_⟩
   have e12 : IntKind.i64.wrap (1 + 1) = ((1 + 1 : Nat) : Int) := ZL4 (by unfold In64; omega)
   simp only [z1', J8D, KvS, JEE, e12]
   exact Bt.sel [0, 1, 2, 5] hh (by decide) (by simp only [q9C, FrSel, BlkSel, AV.ren, renL, AV.ok, okL, Option.some.injEq, exists_eq_left', List.length_cons, List.length_nil, Nat.reduceAdd, Nat.reduceLT, reduceCtorEq, implies_true, exists_eq', fo, fr]) (by simp only [q9C, FrSel, BlkSel, AV.ren, renL, AV.ok, okL, Option.some.injEq, exists_eq_left', List.length_cons, List.length_nil, Nat.reduceAdd, Nat.reduceLT, reduceCtorEq, implies_true, exists_eq', fo, fr])
  ·have gr : ∀ id, apS intR id (XF1 vs vs' n) = rsl intR id (XF1 vs vs' n) := fun id => J0z _ (by omega)
   have fa := fun L k ys hb => KDi (h := h) (p := h.length) rfl (r := intR) (sz := 1) rfl L k (XF1 vs vs' n) 8 1 ys (by omega) hb (by decide) (by omega) (by unfold maxLen; omega)
   simp only [gr, X1r, Z1D, zVq, if_true, if_false, reduceIte, Nat.reduceAdd, Nat.reduceSub, Nat.reduceLeDiff, Nat.reduceEqDiff, Nat.reduceMul, Nat.reduceLT, Int.reduceLT, Int.reduceLE, Int.reduceEq, CO.tmps, Opd.tmps, optT, Nat.reducePow, Nat.reduceDiv, Nat.reduceMod, f1, f2, f3, f4, KoJ, fa, g1', e1, QZp hz, QNE hh]
   refine ⟨n + 1, g1, by dsimp only; omega, ?_⟩
   simp only [Zf6, XlZ, zbl, JEE, Nat.add_assoc, Nat.reduceAdd]
   exact Bt.sel [0, 1, 2, 5] hh (by decide) (by simp only [q9C, FrSel, BlkSel, AV.ren, renL, AV.ok, okL, Option.some.injEq, exists_eq_left', List.length_cons, List.length_nil, Nat.reduceAdd, Nat.reduceLT, reduceCtorEq, implies_true, exists_eq', fo, fr]) (by simp only [q9C, FrSel, BlkSel, AV.ren, renL, AV.ok, okL, Option.some.injEq, exists_eq_left', List.length_cons, List.length_nil, Nat.reduceAdd, Nat.reduceLT, reduceCtorEq, implies_true, exists_eq', fo, fr])
 ·obtain rfl : n = 16 := by omega
  have g1' : (((16 + 1 : Nat) : Int) ≤ 16) = False := eq_false (by omega)
  have gr : ∀ id, apS intR id (XF1 vs vs' 16) = rsl intR id (XF1 vs vs' 16) := fun id => J0z _ (by omega)
  have k1 : ((XF1 vs vs' 16).length ≤ maxLen) = True := eq_true (by unfold maxLen; omega)
  have k2 : J6E (XF1 vs vs' 16) (ds ++ ds') = True := eq_true hJ
  have k3 : ((ds ++ ds').length ≤ 1000000) = True := eq_true (by omega)
  have k4 : (ds.length * 16 ≤ 140737488355328 ∧ ds.length ≤ maxLen) = True := eq_true ⟨by omega, by unfold maxLen; omega⟩
  have k5 : (ds'.length * 16 ≤ 140737488355328 ∧ ds'.length ≤ maxLen) = True := eq_true ⟨by omega, by unfold maxLen; omega⟩
  have k6 : ((ds.length + ds'.length) * 16 ≤ 140737488355328) = True := eq_true (by omega)
  have k7 : (ds.length + ds'.length ≤ maxLen) = True := eq_true (by unfold maxLen; omega)
  have k8 : (dotR.cells ds).length = ds.length * 2 := dotR.cells_len ds
  have r1 : ∀ (L : List AB) (k n : Nat) (kk : Option Nat), n = (ds ++ ds').length → ownC L k = some (dotR.cells (ds ++ ds')) → getS dotR (h ++ L) (.sl (h.length + k) 0 n n kk) = some (ds ++ ds') := fun L k n kk hn hL => by
   subst hn
   exact (Xc0 hL (by unfold maxLen; omega)).get
  have r2 : dotR.cells ds ++ dotR.cells ds' = dotR.cells (ds ++ ds') := by simp [Row.cells]
  have r0 : ∀ (H : List AB) (id : Nat) (kk : Option Nat), (ds ++ ds').length = 0 → getS dotR H (.sl id 0 0 0 kk) = some (ds ++ ds') := fun H id kk hn => (Rd.mk0 hn).get
  by_cases h4 : (fmO (XF1 vs vs' 16) (ds ++ ds')).2.length ≤ 4096
  ·have h4' := eq_true h4
   simp only [qJx, if_pos h4]
   by_cases d0 : ds.length = 0
   ·have d1 : (ds.length = 0) = True := eq_true d0
    have dn : ds = [] := List.eq_nil_of_length_eq_zero d0
    by_cases b0 : ds'.length = 0
    ·have b1 : (ds'.length = 0) = True := eq_true b0
     have bn : ds' = [] := List.eq_nil_of_length_eq_zero b0
     have rr := fun H id kk => r0 H id kk (by omega)
     simp only [gr, X1r, Z1D, zVq, if_true, if_false, reduceIte, Nat.reduceAdd, Nat.reduceSub, Nat.reduceLeDiff, Nat.reduceEqDiff, Nat.reduceMul, Nat.reduceLT, Int.reduceLT, Int.reduceLE, Int.reduceEq, CO.tmps, Opd.tmps, optT, Nat.reducePow, Nat.reduceDiv, Nat.reduceMod, f1, f2, f3, f4, u2, u4, d1, b1, k1, k2, k3, k4, k5, k6, k7, k8, rr, KrC, zHp, ne_eq, Xc9, qdZ, KYW, qJ3, YaF, qBT, z3R, Yci, h4', g1', QZp hz, QNE hh]
     exact Bt.sel [5, 6] hh (by decide) (by simp only [q9C, FrSel, BlkSel, AV.ren, renL, AV.ok, okL, Option.some.injEq, exists_eq_left', List.length_cons, List.length_nil, Nat.reduceAdd, Nat.reduceLT, reduceCtorEq, implies_true, exists_eq']) (by simp only [q9C, FrSel, BlkSel, AV.ren, renL, AV.ok, okL, Option.some.injEq, exists_eq_left', List.length_cons, List.length_nil, Nat.reduceAdd, Nat.reduceLT, reduceCtorEq, implies_true, exists_eq'])
    ·have b1 : (ds'.length = 0) = False := eq_false b0
     have r3 : dotR.cells ds' = dotR.cells (ds ++ ds') := by rw [dn]; rfl
     have rr : ∀ (L : List AB) (k : Nat) (kk : Option Nat), ownC L k = some (dotR.cells ds') → getS dotR (h ++ L) (.sl (h.length + k) 0 ds'.length ds'.length kk) = some (ds ++ ds') := fun L k kk hL => r1 L k _ kk (by omega) (hL.trans (congrArg some r3))
     simp only [gr, X1r, Z1D, zVq, if_true, if_false, reduceIte, Nat.reduceAdd, Nat.reduceSub, Nat.reduceLeDiff, Nat.reduceEqDiff, Nat.reduceMul, Nat.reduceLT, Int.reduceLT, Int.reduceLE, Int.reduceEq, CO.tmps, Opd.tmps, optT, Nat.reducePow, Nat.reduceDiv, Nat.reduceMod, f1, f2, f3, f4, u2, u4, d1, b1, k1, k2, k3, k4, k5, k6, k7, k8, rr, KrC, zHp, ne_eq, Xc9, qdZ, KYW, qJ3, YaF, qBT, z3R, Yci, h4', g1', QZp hz, QNE hh]
     exact Bt.sel [6, 7] hh (by decide) (by simp only [q9C, FrSel, BlkSel, AV.ren, renL, AV.ok, okL, Option.some.injEq, exists_eq_left', List.length_cons, List.length_nil, Nat.reduceAdd, Nat.reduceLT, reduceCtorEq, implies_true, exists_eq']) (by simp only [q9C, FrSel, BlkSel, AV.ren, renL, AV.ok, okL, Option.some.injEq, exists_eq_left', List.length_cons, List.length_nil, Nat.reduceAdd, Nat.reduceLT, reduceCtorEq, implies_true, exists_eq'])
   ·have d1 : (ds.length = 0) = False := eq_false d0
    by_cases b0 : ds'.length = 0
    ·have b1 : (ds'.length = 0) = True := eq_true b0
     have bn : ds' = [] := List.eq_nil_of_length_eq_zero b0
     have r3 : dotR.cells ds = dotR.cells (ds ++ ds') := by rw [bn, List.append_nil]
     have rr : ∀ (L : List AB) (k : Nat) (kk : Option Nat), ownC L k = some (dotR.cells ds) → getS dotR (h ++ L) (.sl (h.length + k) 0 ds.length ds.length kk) = some (ds ++ ds') := fun L k kk hL => r1 L k _ kk (by omega) (hL.trans (congrArg some r3))
     simp only [gr, X1r, Z1D, zVq, if_true, if_false, reduceIte, Nat.reduceAdd, Nat.reduceSub, Nat.reduceLeDiff, Nat.reduceEqDiff, Nat.reduceMul, Nat.reduceLT, Int.reduceLT, Int.reduceLE, Int.reduceEq, CO.tmps, Opd.tmps, optT, Nat.reducePow, Nat.reduceDiv, Nat.reduceMod, f1, f2, f3, f4, u2, u4, d1, b0, k1, k2, k3, k4, k5, k6, k7, k8, rr, KrC, zHp, ne_eq, Xc9, qdZ, KYW, qJ3, YaF, qBT, z3R, Yci, h4', g1', QZp hz, QNE hh]
     exact Bt.sel [6, 7] hh (by decide) (by simp only [q9C, FrSel, BlkSel, AV.ren, renL, AV.ok, okL, Option.some.injEq, exists_eq_left', List.length_cons, List.length_nil, Nat.reduceAdd, Nat.reduceLT, reduceCtorEq, implies_true, exists_eq']) (by simp only [q9C, FrSel, BlkSel, AV.ren, renL, AV.ok, okL, Option.some.injEq, exists_eq_left', List.length_cons, List.length_nil, Nat.reduceAdd, Nat.reduceLT, reduceCtorEq, implies_true, exists_eq'])
    ·have b1 : (ds'.length = 0) = False := eq_false b0
     have rr : ∀ (L : List AB) (k : Nat) (kk : Option Nat), ownC L k = some (dotR.cells ds ++ dotR.cells ds') → getS dotR (h ++ L) (.sl (h.length + k) 0 (ds.length + ds'.length) (ds.length + ds'.length) kk) = some (ds ++ ds') := fun L k kk hL => r1 L k _ kk (by omega) (hL.trans (congrArg some r2))
     simp only [gr, X1r, Z1D, zVq, if_true, if_false, reduceIte, Nat.reduceAdd, Nat.reduceSub, Nat.reduceLeDiff, Nat.reduceEqDiff, Nat.reduceMul, Nat.reduceLT, Int.reduceLT, Int.reduceLE, Int.reduceEq, CO.tmps, Opd.tmps, optT, Nat.reducePow, Nat.reduceDiv, Nat.reduceMod, f1, f2, f3, f4, u2, u4, d1, b1, k1, k2, k3, k4, k5, k6, k7, k8, rr, KrC, zHp, ne_eq, Xc9, qdZ, KYW, qJ3, YaF, qBT, z3R, Yci, h4', g1', QZp hz, QNE hh]
     exact Bt.sel [7, 8] hh (by decide) (by simp only [q9C, FrSel, BlkSel, AV.ren, renL, AV.ok, okL, Option.some.injEq, exists_eq_left', List.length_cons, List.length_nil, Nat.reduceAdd, Nat.reduceLT, reduceCtorEq, implies_true, exists_eq']) (by simp only [q9C, FrSel, BlkSel, AV.ren, renL, AV.ok, okL, Option.some.injEq, exists_eq_left', List.length_cons, List.length_nil, Nat.reduceAdd, Nat.reduceLT, reduceCtorEq, implies_true, exists_eq'])
  ·have h4' := eq_false h4
   simp only [qJx, if_neg h4]
   by_cases d0 : ds.length = 0
   ·have d1 : (ds.length = 0) = True := eq_true d0
    have dn : ds = [] := List.eq_nil_of_length_eq_zero d0
    by_cases b0 : ds'.length = 0
    ·have b1 : (ds'.length = 0) = True := eq_true b0
     have bn : ds' = [] := List.eq_nil_of_length_eq_zero b0
     have rr := fun H id kk => r0 H id kk (by omega)
     simp only [gr, X1r, Z1D, zVq, if_true, if_false, reduceIte, Nat.reduceAdd, Nat.reduceSub, Nat.reduceLeDiff, Nat.reduceEqDiff, Nat.reduceMul, Nat.reduceLT, Int.reduceLT, Int.reduceLE, Int.reduceEq, CO.tmps, Opd.tmps, optT, Nat.reducePow, Nat.reduceDiv, Nat.reduceMod, f1, f2, f3, f4, u2, u4, d1, b1, k1, k2, k3, k4, k5, k6, k7, k8, rr, KrC, zHp, ne_eq, Xc9, qdZ, KYW, qJ3, YaF, qBT, z3R, Yci, h4', g1', QZp hz, QNE hh]
     rw [show h ++ ([] : List AB) = h from List.append_nil h]
     exact Bt.drop _ hh rfl (by simp [AV.ok, okL])
    ·have b1 : (ds'.length = 0) = False := eq_false b0
     have r3 : dotR.cells ds' = dotR.cells (ds ++ ds') := by rw [dn]; rfl
     have rr : ∀ (L : List AB) (k : Nat) (kk : Option Nat), ownC L k = some (dotR.cells ds') → getS dotR (h ++ L) (.sl (h.length + k) 0 ds'.length ds'.length kk) = some (ds ++ ds') := fun L k kk hL => r1 L k _ kk (by omega) (hL.trans (congrArg some r3))
     simp only [gr, X1r, Z1D, zVq, if_true, if_false, reduceIte, Nat.reduceAdd, Nat.reduceSub, Nat.reduceLeDiff, Nat.reduceEqDiff, Nat.reduceMul, Nat.reduceLT, Int.reduceLT, Int.reduceLE, Int.reduceEq, CO.tmps, Opd.tmps, optT, Nat.reducePow, Nat.reduceDiv, Nat.reduceMod, f1, f2, f3, f4, u2, u4, d1, b1, k1, k2, k3, k4, k5, k6, k7, k8, rr, KrC, zHp, ne_eq, Xc9, qdZ, KYW, qJ3, YaF, qBT, z3R, Yci, h4', g1', QZp hz, QNE hh]
     rw [show h ++ ([] : List AB) = h from List.append_nil h]
     exact Bt.drop _ hh rfl (by simp [AV.ok, okL])
   ·have d1 : (ds.length = 0) = False := eq_false d0
    by_cases b0 : ds'.length = 0
    ·have b1 : (ds'.length = 0) = True := eq_true b0
     have bn : ds' = [] := List.eq_nil_of_length_eq_zero b0
     have r3 : dotR.cells ds = dotR.cells (ds ++ ds') := by rw [bn, List.append_nil]
     have rr : ∀ (L : List AB) (k : Nat) (kk : Option Nat), ownC L k = some (dotR.cells ds) → getS dotR (h ++ L) (.sl (h.length + k) 0 ds.length ds.length kk) = some (ds ++ ds') := fun L k kk hL => r1 L k _ kk (by omega) (hL.trans (congrArg some r3))
     simp only [gr, X1r, Z1D, zVq, if_true, if_false, reduceIte, Nat.reduceAdd, Nat.reduceSub, Nat.reduceLeDiff, Nat.reduceEqDiff, Nat.reduceMul, Nat.reduceLT, Int.reduceLT, Int.reduceLE, Int.reduceEq, CO.tmps, Opd.tmps, optT, Nat.reducePow, Nat.reduceDiv, Nat.reduceMod, f1, f2, f3, f4, u2, u4, d1, b0, k1, k2, k3, k4, k5, k6, k7, k8, rr, KrC, zHp, ne_eq, Xc9, qdZ, KYW, qJ3, YaF, qBT, z3R, Yci, h4', g1', QZp hz, QNE hh]
     rw [show h ++ ([] : List AB) = h from List.append_nil h]
     exact Bt.drop _ hh rfl (by simp [AV.ok, okL])
    ·have b1 : (ds'.length = 0) = False := eq_false b0
     have rr : ∀ (L : List AB) (k : Nat) (kk : Option Nat), ownC L k = some (dotR.cells ds ++ dotR.cells ds') → getS dotR (h ++ L) (.sl (h.length + k) 0 (ds.length + ds'.length) (ds.length + ds'.length) kk) = some (ds ++ ds') := fun L k kk hL => r1 L k _ kk (by omega) (hL.trans (congrArg some r2))
     simp only [gr, X1r, Z1D, zVq, if_true, if_false, reduceIte, Nat.reduceAdd, Nat.reduceSub, Nat.reduceLeDiff, Nat.reduceEqDiff, Nat.reduceMul, Nat.reduceLT, Int.reduceLT, Int.reduceLE, Int.reduceEq, CO.tmps, Opd.tmps, optT, Nat.reducePow, Nat.reduceDiv, Nat.reduceMod, f1, f2, f3, f4, u2, u4, d1, b1, k1, k2, k3, k4, k5, k6, k7, k8, rr, KrC, zHp, ne_eq, Xc9, qdZ, KYW, qJ3, YaF, qBT, z3R, Yci, h4', g1', QZp hz, QNE hh]
     rw [show h ++ ([] : List AB) = h from List.append_nil h]
     exact Bt.drop _ hh rfl (by simp [AV.ok, okL])
theorem Xqv : Spec Tryz.prog 75 KfK := by
 intro args h v h' e
 unfold KfK at e
 split at e
 ·rename_i s t s' t'
  obtain ⟨vs, hs, e⟩ := YI8 e
  obtain ⟨ds, ht, e⟩ := YI8 e
  obtain ⟨vs', hs', e⟩ := YI8 e
  obtain ⟨ds', ht', e⟩ := YI8 e
  by_cases c1 : KXy vs ds = 0
  ·rw [if_neg (by simpa using c1)] at e
   by_cases c2 : KXy vs' ds' = 0
   ·rw [if_neg (by simpa using c2)] at e
    have go := fun h hz hs ht hs' ht' => J4T h hz s t s' t' vs vs' ds ds' hs ht hs' ht' c1 c2
    by_cases h4 : (fmO (XF1 vs vs' 16) (ds ++ ds')).2.length ≤ 4096
    ·rw [if_pos h4] at e
     cases e
     refine FnAt.c (FnAt.frz fun hz => ?_)
     rw [show h.length = (h.map AB.freeze).length from (List.length_map _).symm]
     have := go (h.map AB.freeze) hz hs.frz ht.frz hs'.frz ht'.frz
     simp only [qJx, if_pos h4] at this
     exact this
    ·rw [if_neg h4] at e
     cases e
     refine FnAt.c (FnAt.frz0 fun hz => ?_)
     have := go (h.map AB.freeze) hz hs.frz ht.frz hs'.frz ht'.frz
     simp only [qJx, if_neg h4, List.append_nil] at this
     exact this
   ·rw [if_pos c2] at e
    cases e
    have := qUK h s t s' t' vs vs' ds ds' hs ht hs' ht' (by rw [if_pos c1]; exact c2)
    rwa [if_pos c1] at this
  ·rw [if_pos c1] at e
   cases e
   have := qUK h s t s' t' vs vs' ds ds' hs ht hs' ht' (by rw [if_neg c1]; exact c1)
   rwa [if_neg c1] at this
 ·cases e
end Go.Proofs.YtfaccliekejngaaGreat
end
