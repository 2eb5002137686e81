/- Part 18 of what the laws' proofs rest on. No condition. -/
import Derived.Test.YtbcpcjofkfgjoaaPh17
set_option linter.all false
section
namespace Go.Proofs.Ytbcpcjofkfgjoaa
set_option maxRecDepth 100000
set_option maxHeartbeats 4000000
theorem qQM (l : List (List UInt8)) : (risL l).length ≤ l.length := by
 have h : ∀ k, k ≤ l.length → ∃ c, InsT l k c := by
  intro k
  induction k with
  | zero => exact fun _ => ⟨[], InsT.zero l⟩
  | succ k ih =>
   intro hk
   obtain ⟨c, hc⟩ := ih (by omega)
   by_cases e : l.getD k [] = [] ∨ l.getD k [] ∈ c
   ·exact ⟨c, hc.same (by omega) e⟩
   ·refine ⟨layT c (l.getD k []), ?_⟩
    have ho := qf0 hc.1 (l.getD k [])
    refine ⟨ho.1, fun d => ?_, ?_⟩
    ·rw [ho.2, zYZ (by omega) (fun w => e (.inl w)), hc.2.1]
     exact ⟨fun q => q.imp (fun w => w) (fun w => w.1), fun q => q.imp (fun w => w) (fun w => ⟨w, fun z => e (.inl z)⟩)⟩
    ·unfold layT
     rw [if_neg e, JeW]
     exact Nat.succ_le_succ hc.2.2
 obtain ⟨c, hc⟩ := h l.length (Nat.le_refl _)
 rw [← hc.fin]
 exact hc.2.2
theorem K83 {c : List (List UInt8)} {i : Nat} (h : i < c.length) : c.getD i [] ∈ c := by
 rw [List.getD_eq_getElem?_getD, List.getElem?_eq_getElem h]
 exact List.getElem_mem h
noncomputable def Z6m : List AV → List AB → Option (AV × List AB)
 | [s], h => (getS strR h s).bind fun l => if l.length ≤ 100000 then some (apS strR h.length (risL l), h ++ [resB strR true (risL l)]) else none
 | _, _ => none
theorem Qef {h : List AB} (hz : h.map AB.freeze = h) {s : AV} {hs : List (List UInt8)} (hl : Rd strR h s hs) (hL : hs.length ≤ 100000) :
  FnAt Try.prog 26 [s] h (apS strR h.length (risL hs)) (h ++ [resB strR true (risL hs)]) := by
 refine FnAt.run (by kernel_rfl) (T := ⟨[], []⟩) ⟨trivial, trivial⟩ Try.func26 sw26 fun ho hh => ?_
 simp only [Qlf, Bool.and_eq_true] at ho
 have f1 := hl.fx ho.1 (sz := 1) rfl
 have fo1 : ∀ c, s.ok (fun i => decide (i < h.length + c)) = true := fun c => AV.ok_mono (fun i q => by simp only [decide_eq_true_eq] at q ⊢; omega) s ho.1
 have fr1 : ∀ sel, Wk (s.ren (selN h.length sel)) s := fun sel => Wk.ren (fun i hi => ZVh hi) ho.1
 unfold w26
 simp only [QZz, KkX, KtL, KED, Kg0, if_true, if_false, ↓reduceIte, Nat.reduceAdd, Nat.reduceSub, Nat.reduceLeDiff, Nat.reduceEqDiff, Nat.reduceMul, Nat.reduceLT, Int.reduceLT, Int.reduceLE, Int.reduceEq, CO.tmps, Opd.tmps, optT, Nat.reducePow, Nat.reduceDiv, Nat.reduceMod, f1]
 refine zIs (S := Nat × List (List UInt8)) (fun σ => hs.length - σ.1) (fun σ => [s] ++ tp 2 ++ [apS strR (h.length + 0) σ.2, .i .i64 (σ.1 : Nat)] ++ tp 60) (fun σ => h ++ [resB strR true σ.2]) (fun σ => σ.1 ≤ hs.length ∧ InsT hs σ.1 σ.2) (0, []) ⟨Nat.zero_le _, InsT.zero hs⟩ ?_ fun σ hσ => ?_
 ·show Bt _ _ _ _ _ (h ++ List.replicate 1 .dead)
  rw [List.append_nil]
  refine Bt.trans (Bt.wk ?_) (Bt.pad _ _ 1)
  show WkL ([s] ++ tp 2 ++ [.ns, .i .i64 (0 : Nat)] ++ tp 60) _
  simp only [KtL, Kg0, if_true, if_false, reduceIte, Nat.reduceAdd, Nat.reduceSub, Nat.reduceLeDiff, Nat.reduceEqDiff, Nat.reduceMul, Nat.reduceLT, Int.reduceLT, Int.reduceLE, Int.reduceEq]
 obtain ⟨k, c⟩ := σ
 obtain ⟨hk, hI⟩ := hσ
 dsimp only at hk hI ⊢
 have hcl := hI.2.2
 by_cases g1 : k < hs.length
 case neg =>
  obtain rfl : k = hs.length := by omega
  have g1' : ((hs.length : Int) < (hs.length : Int)) = False := eq_false (by omega)
  have hfin := hI.fin
  subst hfin
  simp only [KtL, KED, Kg0, if_true, if_false, ↓reduceIte, Nat.reduceAdd, Nat.reduceSub, Nat.reduceLeDiff, Nat.reduceEqDiff, Nat.reduceMul, Nat.reduceLT, Int.reduceLT, Int.reduceLE, Int.reduceEq, CO.tmps, Opd.tmps, optT, Nat.reducePow, Nat.reduceDiv, Nat.reduceMod, f1, g1', Ja7 hh, YNX hz, zzR hz, QDS hz, ne_eq, not_false_eq_true, not_true_eq_false, false_implies, forall_const, and_true, true_and]
  exact Bt.eq rfl rfl
 have g1' : ((k : Int) < (hs.length : Int)) = True := eq_true (by omega)
 have ek : IntKind.i64.wrap ((k : Int) + 1) = ((k + 1 : Nat) : Int) := qfV (by unfold In64; omega)
 obtain ⟨X, hX⟩ : ∃ X, hs.getD k [] = X := ⟨_, rfl⟩
 have hsame := fun (e : X = [] ∨ X ∈ c) => hI.same g1 (by rw [hX]; exact e)
 have hlay := fun {i : Nat} (hi : i ≤ c.length) => hI.lay g1 hi
 rw [hX] at hlay
 simp only [KtL, KED, Kg0, if_true, if_false, ↓reduceIte, Nat.reduceAdd, Nat.reduceSub, Nat.reduceLeDiff, Nat.reduceEqDiff, Nat.reduceMul, Nat.reduceLT, Int.reduceLT, Int.reduceLE, Int.reduceEq, CO.tmps, Opd.tmps, optT, Nat.reducePow, Nat.reduceDiv, Nat.reduceMod, f1, g1', Ja7 hh, YNX hz, zzR hz, QDS hz, ne_eq, not_false_eq_true, not_true_eq_false, false_implies, forall_const, and_true, true_and]
 refine zIs (S := Nat) (fun i => c.length - i) (fun i => [s] ++ tp 2 ++ [apS strR (h.length + 0) c, .i .i64 k, .i .i64 i] ++ tp 59) (fun _ => h ++ [resB strR true c]) (fun i => i ≤ c.length ∧ ∀ j, j < i → ltS (c.getD j []) X) 0 ⟨Nat.zero_le _, fun j hj => by omega⟩ (Bt.wk (by simp only [KtL, Kg0, if_true, if_false, reduceIte, Nat.reduceAdd, Nat.reduceSub, Nat.reduceLeDiff, Nat.reduceEqDiff, Nat.reduceMul, Nat.reduceLT, Int.reduceLT, Int.reduceLE, Int.reduceEq])) fun i hi => ?_
 obtain ⟨hi, hlt⟩ := hi
 by_cases g2 : i < c.length
 ·have hlc : c.length ≠ 0 := by omega
  have g2' : ((i : Int) < (c.length : Int)) = True := eq_true (by omega)
  have g2n := eq_true g2
  have g3 : ((i : Int) = (c.length : Int)) = False := eq_false (by omega)
  have ei : IntKind.i64.wrap ((i : Int) + 1) = ((i + 1 : Nat) : Int) := qfV (by unfold In64; omega)
  have gr : ∀ id, apS strR id c = rsl strR id c := fun id => Kte _ hlc
  have ia := fun (id : Nat) (m : Int) => ZNU (r := strR) (sz := 1) rfl id c .i64 m
  have ld := fun (L : List AB) (k : Nat) e => zlu (r := strR) (h := h) (sz := 1) rfl L k c i 0 e g2 Nat.zero_lt_one
  have okE := fun (q : Nat → Bool) (id : Nat) hq => XhQ (r := strR) q id 1 i 0 c hq
  by_cases q : ltS (c.getD i []) X
  ·have q' := eq_true q
   simp only [QZz, KkX, KtL, KED, Kg0, if_true, if_false, ↓reduceIte, Nat.reduceAdd, Nat.reduceSub, Nat.reduceLeDiff, Nat.reduceEqDiff, Nat.reduceMul, Nat.reduceLT, Int.reduceLT, Int.reduceLE, Int.reduceEq, CO.tmps, Opd.tmps, optT, Nat.reducePow, Nat.reduceDiv, Nat.reduceMod, f1, g1, g1', hX, zkT, ZjM, YLn, XAf, ek, Nat.zero_lt_one, Int.toNat_natCast, XqR, List.length_cons, List.length_nil, Ja7 hh, YNX hz, zzR hz, QDS hz, ne_eq, not_false_eq_true, not_true_eq_false, false_implies, forall_const, and_true, true_and, decide_true, decide_false, gr, ia, ld, okE, g2', g2n, q', ei]
   exact ⟨i + 1, ⟨g2, fun j hj => by
    rcases Nat.lt_or_ge j i with w | w
    ·exact hlt j w
    ·obtain rfl : j = i := by omega
     exact q⟩, by dsimp only; omega, Bt.wk (by simp only [KtL, Kg0, if_true, if_false, reduceIte, Nat.reduceAdd, Nat.reduceSub, Nat.reduceLeDiff, Nat.reduceEqDiff, Nat.reduceMul, Nat.reduceLT, Int.reduceLT, Int.reduceLE, Int.reduceEq])⟩
  ·have q' := eq_false q
   by_cases q0 : X = []
   ·have q0' := eq_true q0
    simp only [QZz, KkX, KtL, KED, Kg0, if_true, if_false, ↓reduceIte, Nat.reduceAdd, Nat.reduceSub, Nat.reduceLeDiff, Nat.reduceEqDiff, Nat.reduceMul, Nat.reduceLT, Int.reduceLT, Int.reduceLE, Int.reduceEq, CO.tmps, Opd.tmps, optT, Nat.reducePow, Nat.reduceDiv, Nat.reduceMod, f1, g1, g1', hX, zkT, ZjM, YLn, XAf, ek, Nat.zero_lt_one, Int.toNat_natCast, XqR, List.length_cons, List.length_nil, Ja7 hh, YNX hz, zzR hz, QDS hz, ne_eq, not_false_eq_true, not_true_eq_false, false_implies, forall_const, and_true, true_and, decide_true, decide_false, gr, ia, ld, okE, g2', g2n, q', g3, q0']
    refine ⟨(k + 1, c), ⟨g1, hsame (.inl q0)⟩, by dsimp only; omega, ?_⟩
    dsimp only
    rw [gr]
    exact Bt.sel [0] hh (by decide) (by simp only [JsM, FrSel, BlkSel, AV.ren, renL, AV.ok, okL, Option.some.injEq, exists_eq_left', List.length_cons, List.length_nil, Nat.reduceAdd, Nat.reduceLT, reduceCtorEq, implies_true, exists_eq', fo1, fr1]) (by simp only [JsM, FrSel, BlkSel, AV.ren, renL, AV.ok, okL, Option.some.injEq, exists_eq_left', List.length_cons, List.length_nil, Nat.reduceAdd, Nat.reduceLT, reduceCtorEq, implies_true, exists_eq', fo1, fr1])
   have q0' := eq_false q0
   by_cases q2 : c.getD i [] = X
   ·have q2' := eq_true q2
    simp only [QZz, KkX, KtL, KED, Kg0, if_true, if_false, ↓reduceIte, Nat.reduceAdd, Nat.reduceSub, Nat.reduceLeDiff, Nat.reduceEqDiff, Nat.reduceMul, Nat.reduceLT, Int.reduceLT, Int.reduceLE, Int.reduceEq, CO.tmps, Opd.tmps, optT, Nat.reducePow, Nat.reduceDiv, Nat.reduceMod, f1, g1, g1', hX, zkT, ZjM, YLn, XAf, ek, Nat.zero_lt_one, Int.toNat_natCast, XqR, List.length_cons, List.length_nil, Ja7 hh, YNX hz, zzR hz, QDS hz, ne_eq, not_false_eq_true, not_true_eq_false, false_implies, forall_const, and_true, true_and, decide_true, decide_false, gr, ia, ld, okE, g2', g2n, q', g3, q0', q2']
    refine ⟨(k + 1, c), ⟨g1, hsame (.inr (q2 ▸ K83 g2))⟩, by dsimp only; omega, ?_⟩
    dsimp only
    rw [gr]
    exact Bt.sel [0] hh (by decide) (by simp only [JsM, FrSel, BlkSel, AV.ren, renL, AV.ok, okL, Option.some.injEq, exists_eq_left', List.length_cons, List.length_nil, Nat.reduceAdd, Nat.reduceLT, reduceCtorEq, implies_true, exists_eq', fo1, fr1]) (by simp only [JsM, FrSel, BlkSel, AV.ren, renL, AV.ok, okL, Option.some.injEq, exists_eq_left', List.length_cons, List.length_nil, Nat.reduceAdd, Nat.reduceLT, reduceCtorEq, implies_true, exists_eq', fo1, fr1])
   ·have q2' := eq_false q2
    have hn := hlay hi hlt (fun _ => ⟨q, q2⟩) q0
    have k8 : (strR.cells c).length = c.length * 1 := strR.cells_len c
    have rB : resB strR true c = .blk true true (strR.cells c) := by unfold resB; rw [if_neg hlc]
    have gs : ∀ id, rsl strR id c = .sl id 0 c.length c.length (some 1) := fun id => by unfold rsl; rw [if_neg hlc]; rfl
    have s1 := fun id => Zhs id c.length i 1 hi
    obtain ⟨kk, _, s2⟩ := XVg 0 c.length i 1 g2
    have n0 : (c.length - i = 0) = False := eq_false (by omega)
    simp only [QZz, KkX, KtL, KED, Kg0, if_true, if_false, ↓reduceIte, Nat.reduceAdd, Nat.reduceSub, Nat.reduceLeDiff, Nat.reduceEqDiff, Nat.reduceMul, Nat.reduceLT, Int.reduceLT, Int.reduceLE, Int.reduceEq, CO.tmps, Opd.tmps, optT, Nat.reducePow, Nat.reduceDiv, Nat.reduceMod, f1, g1, g1', hX, zkT, ZjM, YLn, XAf, ek, Nat.zero_lt_one, Int.toNat_natCast, XqR, List.length_cons, List.length_nil, Ja7 hh, YNX hz, zzR hz, QDS hz, ne_eq, not_false_eq_true, not_true_eq_false, false_implies, forall_const, and_true, true_and, decide_true, decide_false, gr, ia, ld, okE, g2', g2n, q', g3, q0', q2']
    have w1 : (i * 1 + (c.length - i) * 1 ≤ c.length * 1) = True := eq_true (by omega)
    have w2 : (0 + (1 + (c.length - i)) * 1 ≤ 1 + ((c.length - i) * 1)) = True := eq_true (by omega)
    have c1 : (strR.cells c).drop (i * 1) = strR.cells (c.drop i) := by exact strR.cells_drop c i
    have kd : (strR.cells (c.drop i)).length = (c.length - i) * 1 := by rw [← c1, List.length_drop, k8]; omega
    have tk : (List.drop (i * 1) (strR.cells c)).take ((c.length - i) * 1) = strR.cells (c.drop i) := by
     rw [c1]
     exact List.take_of_length_le (by rw [kd]; exact Nat.le_refl _)
    have tk2 : (AV.s X :: strR.cells (c.drop i)).take ((1 + (c.length - i)) * 1) = AV.s X :: strR.cells (c.drop i) := List.take_of_length_le (by rw [List.length_cons, kd]; omega)
    have ya : (strR.cells (c.drop i)).all (wrOk true) = true := XnW _
    have n1 : (1 + (c.length - i) = 0) = False := eq_false (by omega)
    have w3 : ((1 + (c.length - i)) * 1 ≤ 1 + (c.length - i) * 1) = True := eq_true (by omega)
    have w4 : ((1 + (c.length - i)) * 1 ≤ (c.length - i) * 1 + 1) = True := eq_true (by omega)
    have yb : (AV.s X :: strR.cells (c.drop i)).all (wrOk true) = true := by rw [List.all_cons, ya]; rfl
    have ap1 := fun (L : List AB) k ys hb hx => z6n (h := h) L k 1 1 16 (c.length - i) ys hb hx (by omega) (by omega) (by unfold maxLen; omega)
    have ap2 := fun (L : List AB) k ys hb hx => qPl (h := h) L k i c.length 1 16 (1 + (c.length - i)) ys hb hx (by decide) g2 (by omega) (by omega) (by unfold maxLen; omega)
    simp only [QZz, KkX, KtL, KED, Kg0, if_true, if_false, ↓reduceIte, Nat.reduceAdd, Nat.reduceSub, Nat.reduceLeDiff, Nat.reduceEqDiff, Nat.reduceMul, Nat.reduceLT, Int.reduceLT, Int.reduceLE, Int.reduceEq, CO.tmps, Opd.tmps, optT, Nat.reducePow, Nat.reduceDiv, Nat.reduceMod, f1, g1, g1', hX, zkT, ZjM, YLn, XAf, ek, Nat.zero_lt_one, Int.toNat_natCast, XqR, List.length_cons, List.length_nil, Ja7 hh, YNX hz, zzR hz, QDS hz, ne_eq, not_false_eq_true, not_true_eq_false, false_implies, forall_const, and_true, true_and, decide_true, decide_false, gs, s1, s2, rB, k8, n0, w1, w2, ap1, ap2, kd, tk, tk2, ya, yb, n1, w3, w4, Nat.zero_add, List.length_append, List.all_append, Bool.and_self, KzV, X5K, QCT, XoX]
    refine ⟨(k + 1, c.take i ++ X :: c.drop i), ⟨g1, hn⟩, by dsimp only; omega, ?_⟩
    dsimp only
    have el : (c.take i ++ X :: c.drop i).length = i + (1 + (c.length - i)) := by rw [List.length_append, List.length_cons, List.length_take, List.length_drop]; omega
    have eA : ∀ id, apS strR id (c.take i ++ X :: c.drop i) = .sl id 0 (i + (1 + (c.length - i))) (i + (1 + (c.length - i))) (some 1) := fun id => by
     unfold apS
     rw [el, if_neg (by omega)]
     rfl
    have eB : resB strR true (c.take i ++ X :: c.drop i) = .blk true true ((strR.cells c).take (i * 1) ++ AV.s X :: strR.cells (c.drop i)) := by
     unfold resB
     rw [el, if_neg (by omega), show (strR.cells c).take (i * 1) = strR.cells (c.take i) from strR.cells_take c i]
     simp [Row.cells, zkT]
    rw [eA, eB]
    exact Bt.sel [3] hh (by decide) (by simp only [JsM, FrSel, BlkSel, AV.ren, renL, AV.ok, okL, Option.some.injEq, exists_eq_left', List.length_cons, List.length_nil, Nat.reduceAdd, Nat.reduceLT, reduceCtorEq, implies_true, exists_eq', fo1, fr1]) (by simp only [JsM, FrSel, BlkSel, AV.ren, renL, AV.ok, okL, Option.some.injEq, exists_eq_left', List.length_cons, List.length_nil, Nat.reduceAdd, Nat.reduceLT, reduceCtorEq, implies_true, exists_eq', fo1, fr1])
 ·obtain rfl : i = c.length := by omega
  have g2' : ((c.length : Int) < (c.length : Int)) = False := eq_false (by omega)
  by_cases q0 : X = []
  ·have q0' := eq_true q0
   simp only [QZz, KkX, KtL, KED, Kg0, if_true, if_false, ↓reduceIte, Nat.reduceAdd, Nat.reduceSub, Nat.reduceLeDiff, Nat.reduceEqDiff, Nat.reduceMul, Nat.reduceLT, Int.reduceLT, Int.reduceLE, Int.reduceEq, CO.tmps, Opd.tmps, optT, Nat.reducePow, Nat.reduceDiv, Nat.reduceMod, f1, g1, g1', hX, zkT, ZjM, YLn, XAf, ek, Nat.zero_lt_one, Int.toNat_natCast, XqR, List.length_cons, List.length_nil, Ja7 hh, YNX hz, zzR hz, QDS hz, ne_eq, not_false_eq_true, not_true_eq_false, false_implies, forall_const, and_true, true_and, decide_true, decide_false, g2', q0']
   refine ⟨(k + 1, c), ⟨g1, hsame (.inl q0)⟩, by dsimp only; omega, ?_⟩
   dsimp only
   by_cases hB : c = []
   ·subst hB
    simp only [YtJ]
    exact Bt.sel [0] hh (by decide) (by simp only [JsM, FrSel, BlkSel, AV.ren, renL, AV.ok, okL, Option.some.injEq, exists_eq_left', List.length_cons, List.length_nil, Nat.reduceAdd, Nat.reduceLT, reduceCtorEq, implies_true, exists_eq', fo1, fr1]) (by simp only [JsM, FrSel, BlkSel, AV.ren, renL, AV.ok, okL, Option.some.injEq, exists_eq_left', List.length_cons, List.length_nil, Nat.reduceAdd, Nat.reduceLT, reduceCtorEq, implies_true, exists_eq', fo1, fr1])
   ·rw [Kte _ (fun w => hB (List.eq_nil_of_length_eq_zero w))]
    exact Bt.sel [0] hh (by decide) (by simp only [JsM, FrSel, BlkSel, AV.ren, renL, AV.ok, okL, Option.some.injEq, exists_eq_left', List.length_cons, List.length_nil, Nat.reduceAdd, Nat.reduceLT, reduceCtorEq, implies_true, exists_eq', fo1, fr1]) (by simp only [JsM, FrSel, BlkSel, AV.ren, renL, AV.ok, okL, Option.some.injEq, exists_eq_left', List.length_cons, List.length_nil, Nat.reduceAdd, Nat.reduceLT, reduceCtorEq, implies_true, exists_eq', fo1, fr1])
  have q0' := eq_false q0
  have hn := hlay hi hlt (fun w => absurd w g2) q0
  rw [List.take_length, List.drop_length] at hn
  by_cases hB : c = []
  ·subst hB
   have z3 : (1 * 16 ≤ 140737488355328 ∧ 1 ≤ maxLen) = True := eq_true ⟨by decide, by unfold maxLen; omega⟩
   have s0 : slL 1 .ns none (some (.i .i64 0)) none = some .ns := by simp [slL, bnd]
   have s1 : slL 1 .ns (some (.i .i64 0)) none none = some .ns := by simp [slL, bnd]
   have q2 : ∀ H, srcV H 1 .ns = some (0, []) := fun H => rfl
   simp only [QZz, KkX, KtL, KED, Kg0, if_true, if_false, ↓reduceIte, Nat.reduceAdd, Nat.reduceSub, Nat.reduceLeDiff, Nat.reduceEqDiff, Nat.reduceMul, Nat.reduceLT, Int.reduceLT, Int.reduceLE, Int.reduceEq, CO.tmps, Opd.tmps, optT, Nat.reducePow, Nat.reduceDiv, Nat.reduceMod, f1, g1, g1', hX, zkT, ZjM, YLn, XAf, ek, Nat.zero_lt_one, Int.toNat_natCast, XqR, List.length_cons, List.length_nil, Ja7 hh, YNX hz, zzR hz, QDS hz, ne_eq, not_false_eq_true, not_true_eq_false, false_implies, forall_const, and_true, true_and, decide_true, decide_false, q0', s0, s1, q2, Kht, YtJ, Int.natCast_zero, Int.lt_irrefl, z3, zqn]
   refine ⟨(k + 1, [X]), ⟨g1, hn⟩, by dsimp only; omega, ?_⟩
   dsimp only
   simp only [Q8K, qLQ, zkT]
   exact Bt.sel [2] hh (by decide) (by simp only [JsM, FrSel, BlkSel, AV.ren, renL, AV.ok, okL, Option.some.injEq, exists_eq_left', List.length_cons, List.length_nil, Nat.reduceAdd, Nat.reduceLT, reduceCtorEq, implies_true, exists_eq', fo1, fr1]) (by simp only [JsM, FrSel, BlkSel, AV.ren, renL, AV.ok, okL, Option.some.injEq, exists_eq_left', List.length_cons, List.length_nil, Nat.reduceAdd, Nat.reduceLT, reduceCtorEq, implies_true, exists_eq', fo1, fr1, X0K])
  ·have hlc : c.length ≠ 0 := fun w => hB (List.eq_nil_of_length_eq_zero w)
   have gr : ∀ id, apS strR id c = rsl strR id c := fun id => Kte _ hlc
   have k8 : (strR.cells c).length = c.length * 1 := strR.cells_len c
   have rB : resB strR true c = .blk true true (strR.cells c) := by unfold resB; rw [if_neg hlc]
   have gs : ∀ id, rsl strR id c = .sl id 0 c.length c.length (some 1) := fun id => by unfold rsl; rw [if_neg hlc]; rfl
   have s1 := fun id => Zhs id c.length c.length 1 (Nat.le_refl _)
   have s2 := fun id => Qi4 id c.length 1 hlc
   have ap2 := fun (L : List AB) k ys hb hx => qfU (h := h) L k c.length 1 16 1 ys hb hx (by decide) (by decide) (by omega) (by unfold maxLen; omega)
   simp only [QZz, KkX, KtL, KED, Kg0, if_true, if_false, ↓reduceIte, Nat.reduceAdd, Nat.reduceSub, Nat.reduceLeDiff, Nat.reduceEqDiff, Nat.reduceMul, Nat.reduceLT, Int.reduceLT, Int.reduceLE, Int.reduceEq, CO.tmps, Opd.tmps, optT, Nat.reducePow, Nat.reduceDiv, Nat.reduceMod, f1, g1, g1', hX, zkT, ZjM, YLn, XAf, ek, Nat.zero_lt_one, Int.toNat_natCast, XqR, List.length_cons, List.length_nil, Ja7 hh, YNX hz, zzR hz, QDS hz, ne_eq, not_false_eq_true, not_true_eq_false, false_implies, forall_const, and_true, true_and, decide_true, decide_false, q0', gr, Int.lt_irrefl]
   have q1 : ∀ q, AV.se.ok q = true := fun q => by simp [AV.ok]
   have q2 : ∀ H, srcV H 1 .se = some (0, []) := fun H => rfl
   simp only [QZz, KkX, KtL, KED, Kg0, if_true, if_false, ↓reduceIte, Nat.reduceAdd, Nat.reduceSub, Nat.reduceLeDiff, Nat.reduceEqDiff, Nat.reduceMul, Nat.reduceLT, Int.reduceLT, Int.reduceLE, Int.reduceEq, CO.tmps, Opd.tmps, optT, Nat.reducePow, Nat.reduceDiv, Nat.reduceMod, f1, g1, g1', hX, zkT, ZjM, YLn, XAf, ek, Nat.zero_lt_one, Int.toNat_natCast, XqR, List.length_cons, List.length_nil, Ja7 hh, YNX hz, zzR hz, QDS hz, ne_eq, not_false_eq_true, not_true_eq_false, false_implies, forall_const, and_true, true_and, decide_true, decide_false, gs, s1, s2, rB, k8, ap2, zqn, q1, q2, Kht, KzV, X5K, QCT, XoX]
   refine ⟨(k + 1, c ++ [X]), ⟨g1, hn⟩, by dsimp only; omega, ?_⟩
   dsimp only
   simp only [zUW, zNU]
   exact Bt.sel [2] hh (by decide) (by simp only [JsM, FrSel, BlkSel, AV.ren, renL, AV.ok, okL, Option.some.injEq, exists_eq_left', List.length_cons, List.length_nil, Nat.reduceAdd, Nat.reduceLT, reduceCtorEq, implies_true, exists_eq', fo1, fr1, zkT]) (by simp only [JsM, FrSel, BlkSel, AV.ren, renL, AV.ok, okL, Option.some.injEq, exists_eq_left', List.length_cons, List.length_nil, Nat.reduceAdd, Nat.reduceLT, reduceCtorEq, implies_true, exists_eq', fo1, fr1, X0K])
theorem KOB : Spec Try.prog 26 Z6m := by
 intro args h v h' e
 unfold Z6m at e
 split at e
 ·rename_i s
  obtain ⟨l, hs, e⟩ := Yc7 e
  split at e
  ·rename_i hl
   cases e
   refine FnAt.c (FnAt.frz fun hz => ?_)
   have := Qef hz hs.frz hl
   rwa [List.length_map] at this
  ·cases e
 ·cases e
end Go.Proofs.Ytbcpcjofkfgjoaa
end
section
namespace Go.Proofs.Ytbcpcjofkfgjoaa
set_option maxRecDepth 100000
set_option maxHeartbeats 4000000
noncomputable def ztX : List AV → List AB → Option (AV × List AB)
 | [a, b], h => (getS strR h a).bind fun l => (getS strR h b).bind fun m => some (.b (decide (∀ x ∈ m, x ∈ l)), h)
 | _, _ => none
theorem Zs2 : Spec Try.prog 28 ztX := by
 intro args h v h' e
 unfold ztX at e
 split at e
 ·rename_i a b
  obtain ⟨l, ha, e⟩ := Yc7 e
  obtain ⟨m, hb, e⟩ := Yc7 e
  cases e
  refine FnAt.c (FnAt.frz0 fun hz => ?_)
  replace ha := ha.frz
  replace hb := hb.frz
  generalize h.map AB.freeze = h at *
  refine FnAt.run (by kernel_rfl) (T := ⟨[], []⟩) ⟨trivial, trivial⟩ Try.func28 sw28 fun ho hh => ?_
  simp only [Qlf, Bool.and_eq_true] at ho
  have fa := ha.fx ho.1 (sz := 1) rfl
  have fb := hb.fx ho.2.1 (sz := 1) rfl
  have la := ha.2
  have lb := hb.2
  unfold w28
  simp only [QZz, KkX, KtL, KED, Kg0, if_true, if_false, ↓reduceIte, Nat.reduceAdd, Nat.reduceSub, Nat.reduceLeDiff, Nat.reduceEqDiff, Nat.reduceMul, Nat.reduceLT, Int.reduceLT, Int.reduceLE, Int.reduceEq, CO.tmps, Opd.tmps, optT, Nat.reducePow, Nat.reduceDiv, Nat.reduceMod, fa, fb]
  refine ZiF (S := Nat) (fun i => m.length - i) (fun i => [a, b] ++ tp 3 ++ [.i .i64 i] ++ tp 28) (fun i => i ≤ m.length ∧ ∀ x ∈ m.take i, x ∈ l) 0 ⟨Nat.zero_le _, fun x hx => by simp at hx⟩ (by simp only [KtL, Kg0, if_true, if_false, reduceIte, Nat.reduceAdd, Nat.reduceSub, Nat.reduceLeDiff, Nat.reduceEqDiff, Nat.reduceMul, Nat.reduceLT, Int.reduceLT, Int.reduceLE, Int.reduceEq]) fun i hi => ?_
  obtain ⟨i1, i2⟩ := hi
  by_cases g1 : i < m.length
  ·have g1' : ((i : Int) < (m.length : Int)) = True := eq_true (by omega)
   have ei : IntKind.i64.wrap ((i : Int) + 1) = ((i + 1 : Nat) : Int) := qfV (by unfold maxLen at lb; unfold In64; omega)
   obtain ⟨X, hX⟩ : ∃ X, m.getD i [] = X := ⟨_, rfl⟩
   simp only [KtL, KED, Kg0, if_true, if_false, ↓reduceIte, Nat.reduceAdd, Nat.reduceSub, Nat.reduceLeDiff, Nat.reduceEqDiff, Nat.reduceMul, Nat.reduceLT, Int.reduceLT, Int.reduceLE, Int.reduceEq, CO.tmps, Opd.tmps, optT, Nat.reducePow, Nat.reduceDiv, Nat.reduceMod, fa, fb, g1', false_implies, forall_const, and_true, true_and, not_true_eq_false, not_false_eq_true]
   refine ZiF (S := Nat) (fun k => l.length - k) (fun k => [a, b] ++ tp 3 ++ [.i .i64 i, .b (decide (X ∈ l.take k)), .i .i64 k] ++ tp 26) (fun k => k ≤ l.length) 0 (Nat.zero_le _) (by simp only [KtL, Kg0, if_true, if_false, reduceIte, Nat.reduceAdd, Nat.reduceSub, Nat.reduceLeDiff, Nat.reduceEqDiff, Nat.reduceMul, Nat.reduceLT, Int.reduceLT, Int.reduceLE, Int.reduceEq, List.take_zero, List.not_mem_nil, decide_false]) fun k hk => ?_
   by_cases g2 : k < l.length
   ·have g2' : ((k : Int) < (l.length : Int)) = True := eq_true (by omega)
    have ek : IntKind.i64.wrap ((k : Int) + 1) = ((k + 1 : Nat) : Int) := qfV (by unfold maxLen at la; unfold In64; omega)
    have hm := Kvg g2 X
    by_cases q : X ∈ l.take k
    ·have q' := decide_eq_true q
     have q2 := decide_eq_true (hm.2 (.inl q))
     simp only [KtL, KED, Kg0, if_true, if_false, ↓reduceIte, Nat.reduceAdd, Nat.reduceSub, Nat.reduceLeDiff, Nat.reduceEqDiff, Nat.reduceMul, Nat.reduceLT, Int.reduceLT, Int.reduceLE, Int.reduceEq, CO.tmps, Opd.tmps, optT, Nat.reducePow, Nat.reduceDiv, Nat.reduceMod, fa, fb, g1, g1', g2, g2', q', hX, zkT, ZjM, Zo3, ek, Nat.zero_lt_one, Ja7 hh, YNX hz, zzR hz, QDS hz, false_implies, forall_const, and_true, true_and, not_true_eq_false, not_false_eq_true]
     refine ⟨k + 1, g2, by omega, ?_⟩
     simp only [q2, Z2E, and_true]
    ·have q' := decide_eq_false q
     by_cases w : l.getD k [] = X
     ·have w' := eq_true w
      have q2 := decide_eq_true (hm.2 (.inr w.symm))
      simp only [KtL, KED, Kg0, if_true, if_false, ↓reduceIte, Nat.reduceAdd, Nat.reduceSub, Nat.reduceLeDiff, Nat.reduceEqDiff, Nat.reduceMul, Nat.reduceLT, Int.reduceLT, Int.reduceLE, Int.reduceEq, CO.tmps, Opd.tmps, optT, Nat.reducePow, Nat.reduceDiv, Nat.reduceMod, fa, fb, g1, g1', g2, g2', q', w', hX, zkT, ZjM, Zo3, ek, Nat.zero_lt_one, Ja7 hh, YNX hz, zzR hz, QDS hz, false_implies, forall_const, and_true, true_and, not_true_eq_false, not_false_eq_true]
      refine ⟨k + 1, g2, by omega, ?_⟩
      simp only [q2, decide_true, Z2E, and_true]
     ·have w' := eq_false w
      have q2 := decide_eq_false (fun z => (hm.1 z).elim q fun z => w z.symm)
      simp only [KtL, KED, Kg0, if_true, if_false, ↓reduceIte, Nat.reduceAdd, Nat.reduceSub, Nat.reduceLeDiff, Nat.reduceEqDiff, Nat.reduceMul, Nat.reduceLT, Int.reduceLT, Int.reduceLE, Int.reduceEq, CO.tmps, Opd.tmps, optT, Nat.reducePow, Nat.reduceDiv, Nat.reduceMod, fa, fb, g1, g1', g2, g2', q', w', hX, zkT, ZjM, Zo3, ek, Nat.zero_lt_one, Ja7 hh, YNX hz, zzR hz, QDS hz, false_implies, forall_const, and_true, true_and, not_true_eq_false, not_false_eq_true]
      refine ⟨k + 1, g2, by omega, ?_⟩
      simp only [q2, decide_false, Z2E, and_true]
   ·obtain rfl : k = l.length := by omega
    have g2' : ((l.length : Int) < (l.length : Int)) = False := eq_false (by omega)
    by_cases q : X ∈ l
    ·have q' : decide (X ∈ l.take l.length) = true := by rw [List.take_length]; exact decide_eq_true q
     simp only [KtL, KED, Kg0, if_true, if_false, ↓reduceIte, Nat.reduceAdd, Nat.reduceSub, Nat.reduceLeDiff, Nat.reduceEqDiff, Nat.reduceMul, Nat.reduceLT, Int.reduceLT, Int.reduceLE, Int.reduceEq, CO.tmps, Opd.tmps, optT, Nat.reducePow, Nat.reduceDiv, Nat.reduceMod, fa, fb, g1, g1', g2', q', q0u, ei, Bool.not_true, false_implies, forall_const, and_true, true_and, not_true_eq_false, not_false_eq_true]
     refine ⟨i + 1, ⟨g1, fun x hx => ?_⟩, by omega, ?_⟩
     ·rcases (Kvg g1 x).1 hx with z | z
      ·exact i2 x z
      ·rw [z, hX]; exact q
     ·simp only [Z2E, and_true]
    ·have q' : decide (X ∈ l.take l.length) = false := by rw [List.take_length]; exact decide_eq_false q
     simp only [KtL, KED, Kg0, if_true, if_false, ↓reduceIte, Nat.reduceAdd, Nat.reduceSub, Nat.reduceLeDiff, Nat.reduceEqDiff, Nat.reduceMul, Nat.reduceLT, Int.reduceLT, Int.reduceLE, Int.reduceEq, CO.tmps, Opd.tmps, optT, Nat.reducePow, Nat.reduceDiv, Nat.reduceMod, fa, fb, g1, g1', g2', q', q0u, ei, Bool.not_false, false_implies, forall_const, and_true, true_and, not_true_eq_false, not_false_eq_true]
     exact Bt.dropB _ hh (decide_eq_false fun z => q (z X (hX ▸ K83 g1))).symm
  ·obtain rfl : i = m.length := by omega
   have g1' : ((m.length : Int) < (m.length : Int)) = False := eq_false (by omega)
   rw [List.take_length] at i2
   simp only [KtL, KED, Kg0, if_true, if_false, ↓reduceIte, Nat.reduceAdd, Nat.reduceSub, Nat.reduceLeDiff, Nat.reduceEqDiff, Nat.reduceMul, Nat.reduceLT, Int.reduceLT, Int.reduceLE, Int.reduceEq, CO.tmps, Opd.tmps, optT, Nat.reducePow, Nat.reduceDiv, Nat.reduceMod, fa, fb, g1', false_implies, forall_const, and_true, true_and, not_true_eq_false, not_false_eq_true]
   exact Bt.dropB _ hh (decide_eq_true i2).symm
 ·cases e
def JB6 (d : List UInt8) (l : List (List UInt8)) : List (List UInt8) := l.filter fun x => decide (¬ ltS d x)
theorem Y0i (d : List UInt8) {l : List (List UInt8)} {i : Nat} (h : i < l.length) : JB6 d (l.take (i + 1)) = JB6 d (l.take i) ++ (if ¬ ltS d (l.getD i []) then [l.getD i []] else []) := by
 unfold JB6
 rw [List.take_succ_eq_append_getElem h, List.filter_append, List.getD_eq_getElem?_getD, List.getElem?_eq_getElem h]
 simp only [Option.getD_some, List.filter_cons, List.filter_nil, decide_eq_true_eq]
theorem zSZ (d : List UInt8) (l : List (List UInt8)) (i : Nat) : (JB6 d (l.take i)).length ≤ i := by
 unfold JB6
 exact Nat.le_trans (List.length_filter_le _ _) (by rw [List.length_take]; omega)
noncomputable def Zgk : List AV → List AB → Option (AV × List AB)
 | [s, .s d], h => (getS strR h s).bind fun l => if l.length ≤ 100000 then some (apS strR h.length (JB6 d l), h ++ [resB strR true (JB6 d l)]) else none
 | _, _ => none
theorem zAn : Spec Try.prog 29 Zgk := by
 intro args h v h' e
 unfold Zgk at e
 split at e
 ·rename_i s d
  obtain ⟨l, hs, e⟩ := Yc7 e
  split at e
  ·rename_i hl
   cases e
   refine FnAt.c (FnAt.run (by kernel_rfl) (T := ⟨[], []⟩) ⟨trivial, trivial⟩ Try.func29 sw29 fun ho hh => ?_)
   simp only [Qlf, Bool.and_eq_true] at ho
   have f1 := hs.fx ho.1 (sz := 1) rfl
   have fo : ∀ c, s.ok (fun i => decide (i < h.length + c)) = true := fun c => AV.ok_mono (fun i q => by simp only [decide_eq_true_eq] at q ⊢; omega) s ho.1
   have fr : ∀ sel, Wk (s.ren (selN h.length sel)) s := fun sel => Wk.ren (fun i hi => ZVh hi) ho.1
   unfold w29
   simp only [QZz, KkX, KtL, KED, Kg0, if_true, if_false, ↓reduceIte, Nat.reduceAdd, Nat.reduceSub, Nat.reduceLeDiff, Nat.reduceEqDiff, Nat.reduceMul, Nat.reduceLT, Int.reduceLT, Int.reduceLE, Int.reduceEq, CO.tmps, Opd.tmps, optT, Nat.reducePow, Nat.reduceDiv, Nat.reduceMod, f1]
   refine zIs (S := Nat) (fun i => l.length - i) (fun i => [s, .s d] ++ tp 3 ++ [apS strR (h.length + 0) (JB6 d (l.take i)), .i .i64 i] ++ tp 20) (fun i => h ++ [resB strR true (JB6 d (l.take i))]) (fun i => i ≤ l.length) 0 (Nat.zero_le _) ?_ fun i hi => ?_
   ·show Bt _ _ _ _ _ (h ++ List.replicate 1 .dead)
    rw [List.append_nil]
    refine Bt.trans (Bt.wk ?_) (Bt.pad _ _ 1)
    rw [show apS strR (h.length + 0) (JB6 d (l.take 0)) = .ns from rfl]
    simp only [KtL, Kg0, if_true, if_false, reduceIte, Nat.reduceAdd, Nat.reduceSub, Nat.reduceLeDiff, Nat.reduceEqDiff, Nat.reduceMul, Nat.reduceLT, Int.reduceLT, Int.reduceLE, Int.reduceEq]
   ·have ln := zSZ d l i
    by_cases g4 : i < l.length
    ·have g4' : ((i : Int) < (l.length : Int)) = True := eq_true (by omega)
     have e1 : IntKind.i64.wrap ((i : Int) + 1) = ((i + 1 : Nat) : Int) := qfV (by unfold In64; omega)
     have hst := Y0i d g4
     by_cases hp : ltS d (l.getD i [])
     ·have hp' := eq_true hp
      rw [if_neg (fun q => q hp), List.append_nil] at hst
      simp only [KtL, KED, Kg0, if_true, if_false, ↓reduceIte, Nat.reduceAdd, Nat.reduceSub, Nat.reduceLeDiff, Nat.reduceEqDiff, Nat.reduceMul, Nat.reduceLT, Int.reduceLT, Int.reduceLE, Int.reduceEq, CO.tmps, Opd.tmps, optT, Nat.reducePow, Nat.reduceDiv, Nat.reduceMod, f1, g4, g4', hp', q65, e1, zkT, ZjM, Nat.zero_lt_one, false_implies, forall_const, and_true, true_and, not_true_eq_false, not_false_eq_true]
      refine ⟨i + 1, g4, by dsimp only; omega, ?_⟩
      dsimp only
      rw [hst]
      exact Bt.wk (by simp only [KtL, Kg0, if_true, if_false, reduceIte, Nat.reduceAdd, Nat.reduceSub, Nat.reduceLeDiff, Nat.reduceEqDiff, Nat.reduceMul, Nat.reduceLT, Int.reduceLT, Int.reduceLE, Int.reduceEq])
     ·have hp' := eq_false hp
      rw [if_pos hp] at hst
      by_cases hB : JB6 d (l.take i) = []
      ·rw [hB, List.nil_append] at hst
       have z3 : (1 * 16 ≤ 140737488355328 ∧ 1 ≤ maxLen) = True := eq_true ⟨by decide, by unfold maxLen; omega⟩
       simp only [hB, YtJ, KtL, KED, Kg0, if_true, if_false, ↓reduceIte, Nat.reduceAdd, Nat.reduceSub, Nat.reduceLeDiff, Nat.reduceEqDiff, Nat.reduceMul, Nat.reduceLT, Int.reduceLT, Int.reduceLE, Int.reduceEq, CO.tmps, Opd.tmps, optT, Nat.reducePow, Nat.reduceDiv, Nat.reduceMod, f1, g4, g4', hp', q65, e1, z3, zkT, ZjM, XqR, List.length_cons, List.length_nil, Nat.zero_lt_one, false_implies, forall_const, and_true, true_and, not_true_eq_false, not_false_eq_true]
       refine ⟨i + 1, g4, by dsimp only; omega, ?_⟩
       dsimp only
       rw [hst]
       simp only [Q8K, qLQ]
       exact Bt.sel [2] hh (by decide) (by simp only [JsM, FrSel, BlkSel, AV.ren, renL, AV.ok, okL, Option.some.injEq, exists_eq_left', List.length_cons, List.length_nil, Nat.reduceAdd, Nat.reduceLT, reduceCtorEq, implies_true, exists_eq', fo, fr, zkT]) (by simp only [JsM, FrSel, BlkSel, AV.ren, renL, AV.ok, okL, Option.some.injEq, exists_eq_left', List.length_cons, List.length_nil, Nat.reduceAdd, Nat.reduceLT, reduceCtorEq, implies_true, exists_eq', fo, fr, X0K])
      ·have hlB : (JB6 d (l.take i)).length ≠ 0 := fun q => hB (List.eq_nil_of_length_eq_zero q)
       have gr : ∀ id, apS strR id (JB6 d (l.take i)) = rsl strR id (JB6 d (l.take i)) := fun id => Kte _ hlB
       have fa := fun L k ys hb => zWD (h := h) (p := h.length) rfl (r := strR) (sz := 1) rfl L k (JB6 d (l.take i)) 16 1 ys hlB hb (by decide) (by omega) (by unfold maxLen; omega)
       simp only [gr, KtL, KED, Kg0, if_true, if_false, ↓reduceIte, Nat.reduceAdd, Nat.reduceSub, Nat.reduceLeDiff, Nat.reduceEqDiff, Nat.reduceMul, Nat.reduceLT, Int.reduceLT, Int.reduceLE, Int.reduceEq, CO.tmps, Opd.tmps, optT, Nat.reducePow, Nat.reduceDiv, Nat.reduceMod, f1, g4, g4', hp', q65, e1, fa, zkT, ZjM, XqR, List.length_cons, List.length_nil, Nat.zero_lt_one, false_implies, forall_const, and_true, true_and, not_true_eq_false, not_false_eq_true]
       refine ⟨i + 1, g4, by dsimp only; omega, ?_⟩
       dsimp only
       rw [hst]
       simp only [zUW, zNU]
       exact Bt.sel [2] hh (by decide) (by simp only [JsM, FrSel, BlkSel, AV.ren, renL, AV.ok, okL, Option.some.injEq, exists_eq_left', List.length_cons, List.length_nil, Nat.reduceAdd, Nat.reduceLT, reduceCtorEq, implies_true, exists_eq', fo, fr, zkT]) (by simp only [JsM, FrSel, BlkSel, AV.ren, renL, AV.ok, okL, Option.some.injEq, exists_eq_left', List.length_cons, List.length_nil, Nat.reduceAdd, Nat.reduceLT, reduceCtorEq, implies_true, exists_eq', fo, fr, X0K])
    ·obtain rfl : i = l.length := by omega
     have g4' : ((l.length : Int) < (l.length : Int)) = False := eq_false (by omega)
     rw [List.take_length]
     simp only [KtL, KED, Kg0, if_true, if_false, ↓reduceIte, Nat.reduceAdd, Nat.reduceSub, Nat.reduceLeDiff, Nat.reduceEqDiff, Nat.reduceMul, Nat.reduceLT, Int.reduceLT, Int.reduceLE, Int.reduceEq, CO.tmps, Opd.tmps, optT, Nat.reducePow, Nat.reduceDiv, Nat.reduceMod, f1, g4', false_implies, forall_const, and_true, true_and, not_true_eq_false, not_false_eq_true]
     exact Bt.eq rfl rfl
  ·cases e
 ·cases e
end Go.Proofs.Ytbcpcjofkfgjoaa
end
