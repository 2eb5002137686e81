/- Part 20 of what the laws' proofs rest on. No condition. -/
import Derived.Test.YtbcpcjofkfgjoaaPi19
set_option linter.all false
section
namespace Go.Proofs.Ytbcpcjofkfgjoaa
set_option maxRecDepth 100000
set_option maxHeartbeats 4000000
def QF1 (w : List UInt8) : Int := if YNH = w then 1 else if ZJf = w then 2 else if Kkh = w then 3 else 0
structure Crd where
 k : Int
 r : List UInt8
 a : List UInt8
 e : Int
 p : Int
def badC (e p : Int) : Crd := ⟨0, [], [], e, p⟩
def JPB (s : List UInt8) (one : Nat) (k : Int) : Crd :=
 match zWb s (one + 1) with
 | none => badC 5 s.length
 | some two =>
  if repE k ((s.take two).drop (one + 1)) = 0 then
   (if aftE k (s.drop (two + 1)) = 0 then ⟨k, (s.take two).drop (one + 1), s.drop (two + 1), 0, 0⟩ else badC (aftE k (s.drop (two + 1))) (two + 1 : Nat))
  else badC (repE k ((s.take two).drop (one + 1))) (one + 1 : Nat)
def zfC (s : List UInt8) : Crd :=
 match zWb s 0 with
 | none => badC 5 0
 | some one => if QF1 (s.take one) = 0 then badC 5 0 else JPB s one (QF1 (s.take one))
def Crd.v (x : Crd) : AV := .tu [.ag [.i .i64 x.k, .s x.r, .s x.a], .ag [.i .i64 x.e, .i .i64 x.p]]
def zs6 : List AV → List AB → Option (AV × List AB)
 | [.s s], h => if s.length ≤ 1000000 then some ((zfC s).v, h) else none
 | _, _ => none
def kd (w : List UInt8) (i : Nat) : Int := if QF1 w ≤ (i : Int) then QF1 w else 0
theorem kd_0 (w : List UInt8) : kd w 0 = 0 := by
 unfold kd QF1
 repeat' split
 all_goals simp_all
theorem kd_3 (w : List UInt8) : kd w 3 = QF1 w := by
 unfold kd
 apply if_pos
 unfold QF1
 repeat' split
 all_goals decide
theorem YBk (w : List UInt8) : (YNH = w → kd w 1 = 1) ∧ (¬ YNH = w → kd w 1 = kd w 0) := by
 unfold kd QF1
 refine ⟨fun z => ?_, fun z => ?_⟩
 ·subst z; decide
 ·rw [if_neg z]; repeat' split
  all_goals simp_all
theorem qDy (w : List UInt8) : (ZJf = w → kd w 2 = 2) ∧ (¬ ZJf = w → kd w 2 = kd w 1) := by
 unfold kd QF1
 refine ⟨fun z => ?_, fun z => ?_⟩
 ·subst z; decide
 ·rw [if_neg z]; repeat' split
  all_goals simp_all
theorem QdL (w : List UInt8) : (Kkh = w → kd w 3 = 3) ∧ (¬ Kkh = w → kd w 3 = kd w 2) := by
 unfold kd QF1
 refine ⟨fun z => ?_, fun z => ?_⟩
 ·subst z; decide
 ·rw [if_neg z]; repeat' split
  all_goals simp_all
theorem Y5i {h : List AB} (hz : h.map AB.freeze = h) {s : List UInt8} (hs : s.length ≤ 1000000) : FnAt Try.prog 20 [.s s] h (zfC s).v h := by
 refine FnAt.run (by kernel_rfl) (T := ⟨[⟨43, JX6, fun _ => []⟩, ⟨38, Y17, fun _ => []⟩, ⟨44, QCM, fun _ => []⟩, ⟨45, Ypx, fun _ => []⟩], []⟩) ⟨⟨KyU, qrK, qNK, QMd, trivial⟩, trivial⟩ Try.func20 sw20 fun ho hh => ?_
 unfold w20
 have hs' := eq_true hs
 have hc0 : ∀ H, JX6 [.s s, .i .i64 0] H = some (.i .i64 (natI (zWb s 0)), H) := fun H => if_pos ⟨by decide, hs, by decide⟩
 unfold zfC
 cases h1 : zWb s 0 with
 | none =>
  dsimp only
  have hm : natI (zWb s 0) = -1 := by rw [h1]; rfl
  simp only [KXL, JuQ, QbA, KI8, qi4, if_true, if_false, ↓reduceIte, Nat.reduceAdd, Nat.reduceSub, Nat.reduceLeDiff, Nat.reduceEqDiff, Nat.reduceMul, Nat.reduceLT, Int.reduceLT, Int.reduceLE, Int.reduceEq, CO.tmps, Opd.tmps, optT, Nat.reducePow, Nat.reduceDiv, Nat.reduceMod, hc0, hm, decide_true, decide_false, ne_eq, not_false_eq_true, not_true_eq_false, false_implies, forall_const, and_true, true_and]
  refine Qxr (S := Nat) (fun i => 1) (fun i => [.s s] ++ tp 1 ++ [.p (h.length + 0) 0, .p (h.length + 1) 0, .i .i64 (-1), .p (h.length + 2) 0, .i .i64 0] ++ tp 73) (fun i => h ++ [.blk true true [.i .i64 0, .s [], .s []], .blk true true [.i .i64 0, .i .i64 0], .blk true true [.i .i64 0, .s [], .s []]]) (fun i => True) 0 trivial (Bt.wk (by simp only [QbA, qi4, if_true, if_false, reduceIte, Nat.reduceAdd, Nat.reduceSub, Nat.reduceLeDiff, Nat.reduceEqDiff, Nat.reduceMul, Nat.reduceLT, Int.reduceLT, Int.reduceLE, Int.reduceEq])) fun i hi => ?_
  simp only [QbA, KI8, qi4, if_true, if_false, ↓reduceIte, Nat.reduceAdd, Nat.reduceSub, Nat.reduceLeDiff, Nat.reduceEqDiff, Nat.reduceMul, Nat.reduceLT, Int.reduceLT, Int.reduceLE, Int.reduceEq, CO.tmps, Opd.tmps, optT, Nat.reducePow, Nat.reduceDiv, Nat.reduceMod, badC, Crd.v, zoX, decide_true, decide_false, ne_eq, not_false_eq_true, not_true_eq_false, false_implies, forall_const, and_true, true_and]
  exact Bt.drop _ hh rfl rfl
 | some one =>
  dsimp only
  obtain ⟨-, hol, -⟩ := qsK h1
  have hm : natI (zWb s 0) = (one : Int) := by rw [h1]; rfl
  have hsl := Xc6 (l := s) (n := one) .i64 (by omega)
  have hcx : ∀ H, JX6 [.s s, .i .i64 ((one + 1 : Nat) : Int)] H = some (.i .i64 (natI (zWb s (one + 1))), H) := fun H => by
   show (if 0 ≤ ((one + 1 : Nat) : Int) ∧ s.length ≤ 1000000 ∧ ((one + 1 : Nat) : Int) ≤ 2000000 then _ else none) = _
   rw [if_pos ⟨by omega, hs, by omega⟩, Int.toNat_natCast]
  have w1 : IntKind.i64.wrap ((one : Int) + 1) = ((one + 1 : Nat) : Int) := YBD (by unfold In64; omega)
  obtain ⟨w, hw⟩ : ∃ w, s.take one = w := ⟨_, rfl⟩
  rw [hw] at hsl ⊢
  simp only [KXL, JuQ, QbA, KI8, qi4, if_true, if_false, ↓reduceIte, Nat.reduceAdd, Nat.reduceSub, Nat.reduceLeDiff, Nat.reduceEqDiff, Nat.reduceMul, Nat.reduceLT, Int.reduceLT, Int.reduceLE, Int.reduceEq, CO.tmps, Opd.tmps, optT, Nat.reducePow, Nat.reduceDiv, Nat.reduceMod, hc0, hm, decide_true, decide_false, ne_eq, not_false_eq_true, not_true_eq_false, false_implies, forall_const, and_true, true_and]
  refine Qxr (S := Nat) (fun i => 3 - i) (fun i => [.s s] ++ tp 1 ++ [.p (h.length + 0) 0, .p (h.length + 1) 0, .i .i64 (one : Int), .p (h.length + 2) 0, .i .i64 (i : Int)] ++ tp 73) (fun i => h ++ [.blk true true [.i .i64 0, .s [], .s []], .blk true true [.i .i64 0, .i .i64 0], .blk true true [.i .i64 (kd w i), .s [], .s []]]) (fun i => i ≤ 3) 0 (Nat.zero_le _) (by rw [kd_0]; exact Bt.wk (by simp only [QbA, qi4, if_true, if_false, reduceIte, Nat.reduceAdd, Nat.reduceSub, Nat.reduceLeDiff, Nat.reduceEqDiff, Nat.reduceMul, Nat.reduceLT, Int.reduceLT, Int.reduceLE, Int.reduceEq])) fun i hi => ?_
  have o0 : ((0 : Int) ≤ (one : Int)) = True := eq_true (by omega)
  by_cases g : i < 3
  ·rcases (show i = 0 ∨ i = 1 ∨ i = 2 by omega) with rfl | rfl | rfl
   ·have wn : IntKind.i64.wrap (0 + 1) = 1 := by decide
    by_cases hW : YNH = w
    ·have hk := (YBk w).1 hW
     simp only [QbA, KI8, qi4, if_true, if_false, ↓reduceIte, Nat.reduceAdd, Nat.reduceSub, Nat.reduceLeDiff, Nat.reduceEqDiff, Nat.reduceMul, Nat.reduceLT, Int.reduceLT, Int.reduceLE, Int.reduceEq, CO.tmps, Opd.tmps, optT, Nat.reducePow, Nat.reduceDiv, Nat.reduceMod, qjR, hsl, o0, Y17, XsR, eq_true hW, wn, tn_0, tn_1, tn_2, Nat.mul_one, Nat.zero_add, K6Y hh, ZbP hz, qyN hz, KN7 hz, Option.map_some, decide_true, decide_false, ne_eq, not_false_eq_true, not_true_eq_false, false_implies, forall_const, and_true, true_and]
     refine ⟨1, by decide, by decide, ?_⟩
     dsimp only
     rw [hk]
     exact Bt.sel [0, 1, 2] hh (by decide) (by simp only [KOx, FrSel, BlkSel, AV.ren, renL, AV.ok, okL, Option.some.injEq, exists_eq_left', List.length_cons, List.length_nil, Nat.reduceAdd, Nat.reduceLT, reduceCtorEq, implies_true, exists_eq']) (by simp only [tp_0, tp_s, List.cons_append, List.nil_append, KOx, FrSel, BlkSel, AV.ren, renL, AV.ok, okL, Option.some.injEq, exists_eq_left', List.length_cons, List.length_nil, Nat.reduceAdd, Nat.reduceLT, reduceCtorEq, implies_true, exists_eq']; exact Wk.refl _)
    ·have hk := (YBk w).2 hW
     simp only [QbA, KI8, qi4, if_true, if_false, ↓reduceIte, Nat.reduceAdd, Nat.reduceSub, Nat.reduceLeDiff, Nat.reduceEqDiff, Nat.reduceMul, Nat.reduceLT, Int.reduceLT, Int.reduceLE, Int.reduceEq, CO.tmps, Opd.tmps, optT, Nat.reducePow, Nat.reduceDiv, Nat.reduceMod, qjR, hsl, o0, Y17, XsR, eq_false hW, wn, tn_0, tn_1, tn_2, Nat.mul_one, Nat.zero_add, K6Y hh, ZbP hz, qyN hz, KN7 hz, Option.map_some, decide_true, decide_false, ne_eq, not_false_eq_true, not_true_eq_false, false_implies, forall_const, and_true, true_and]
     refine ⟨1, by decide, by decide, ?_⟩
     dsimp only
     rw [hk]
     exact Bt.sel [0, 1, 2] hh (by decide) (by simp only [KOx, FrSel, BlkSel, AV.ren, renL, AV.ok, okL, Option.some.injEq, exists_eq_left', List.length_cons, List.length_nil, Nat.reduceAdd, Nat.reduceLT, reduceCtorEq, implies_true, exists_eq']) (by simp only [tp_0, tp_s, List.cons_append, List.nil_append, KOx, FrSel, BlkSel, AV.ren, renL, AV.ok, okL, Option.some.injEq, exists_eq_left', List.length_cons, List.length_nil, Nat.reduceAdd, Nat.reduceLT, reduceCtorEq, implies_true, exists_eq']; exact Wk.refl _)
   ·have wn : IntKind.i64.wrap (1 + 1) = 2 := by decide
    by_cases hW : ZJf = w
    ·have hk := (qDy w).1 hW
     simp only [QbA, KI8, qi4, if_true, if_false, ↓reduceIte, Nat.reduceAdd, Nat.reduceSub, Nat.reduceLeDiff, Nat.reduceEqDiff, Nat.reduceMul, Nat.reduceLT, Int.reduceLT, Int.reduceLE, Int.reduceEq, CO.tmps, Opd.tmps, optT, Nat.reducePow, Nat.reduceDiv, Nat.reduceMod, qjR, hsl, o0, Y17, XsR, eq_true hW, wn, tn_0, tn_1, tn_2, Nat.mul_one, Nat.zero_add, K6Y hh, ZbP hz, qyN hz, KN7 hz, Option.map_some, decide_true, decide_false, ne_eq, not_false_eq_true, not_true_eq_false, false_implies, forall_const, and_true, true_and]
     refine ⟨2, by decide, by decide, ?_⟩
     dsimp only
     rw [hk]
     exact Bt.sel [0, 1, 2] hh (by decide) (by simp only [KOx, FrSel, BlkSel, AV.ren, renL, AV.ok, okL, Option.some.injEq, exists_eq_left', List.length_cons, List.length_nil, Nat.reduceAdd, Nat.reduceLT, reduceCtorEq, implies_true, exists_eq']) (by simp only [tp_0, tp_s, List.cons_append, List.nil_append, KOx, FrSel, BlkSel, AV.ren, renL, AV.ok, okL, Option.some.injEq, exists_eq_left', List.length_cons, List.length_nil, Nat.reduceAdd, Nat.reduceLT, reduceCtorEq, implies_true, exists_eq']; exact Wk.refl _)
    ·have hk := (qDy w).2 hW
     simp only [QbA, KI8, qi4, if_true, if_false, ↓reduceIte, Nat.reduceAdd, Nat.reduceSub, Nat.reduceLeDiff, Nat.reduceEqDiff, Nat.reduceMul, Nat.reduceLT, Int.reduceLT, Int.reduceLE, Int.reduceEq, CO.tmps, Opd.tmps, optT, Nat.reducePow, Nat.reduceDiv, Nat.reduceMod, qjR, hsl, o0, Y17, XsR, eq_false hW, wn, tn_0, tn_1, tn_2, Nat.mul_one, Nat.zero_add, K6Y hh, ZbP hz, qyN hz, KN7 hz, Option.map_some, decide_true, decide_false, ne_eq, not_false_eq_true, not_true_eq_false, false_implies, forall_const, and_true, true_and]
     refine ⟨2, by decide, by decide, ?_⟩
     dsimp only
     rw [hk]
     exact Bt.sel [0, 1, 2] hh (by decide) (by simp only [KOx, FrSel, BlkSel, AV.ren, renL, AV.ok, okL, Option.some.injEq, exists_eq_left', List.length_cons, List.length_nil, Nat.reduceAdd, Nat.reduceLT, reduceCtorEq, implies_true, exists_eq']) (by simp only [tp_0, tp_s, List.cons_append, List.nil_append, KOx, FrSel, BlkSel, AV.ren, renL, AV.ok, okL, Option.some.injEq, exists_eq_left', List.length_cons, List.length_nil, Nat.reduceAdd, Nat.reduceLT, reduceCtorEq, implies_true, exists_eq']; exact Wk.refl _)
   ·have wn : IntKind.i64.wrap (2 + 1) = 3 := by decide
    by_cases hW : Kkh = w
    ·have hk := (QdL w).1 hW
     simp only [QbA, KI8, qi4, if_true, if_false, ↓reduceIte, Nat.reduceAdd, Nat.reduceSub, Nat.reduceLeDiff, Nat.reduceEqDiff, Nat.reduceMul, Nat.reduceLT, Int.reduceLT, Int.reduceLE, Int.reduceEq, CO.tmps, Opd.tmps, optT, Nat.reducePow, Nat.reduceDiv, Nat.reduceMod, qjR, hsl, o0, Y17, XsR, eq_true hW, wn, tn_0, tn_1, tn_2, Nat.mul_one, Nat.zero_add, K6Y hh, ZbP hz, qyN hz, KN7 hz, Option.map_some, decide_true, decide_false, ne_eq, not_false_eq_true, not_true_eq_false, false_implies, forall_const, and_true, true_and]
     refine ⟨3, by decide, by decide, ?_⟩
     dsimp only
     rw [hk]
     exact Bt.sel [0, 1, 2] hh (by decide) (by simp only [KOx, FrSel, BlkSel, AV.ren, renL, AV.ok, okL, Option.some.injEq, exists_eq_left', List.length_cons, List.length_nil, Nat.reduceAdd, Nat.reduceLT, reduceCtorEq, implies_true, exists_eq']) (by simp only [tp_0, tp_s, List.cons_append, List.nil_append, KOx, FrSel, BlkSel, AV.ren, renL, AV.ok, okL, Option.some.injEq, exists_eq_left', List.length_cons, List.length_nil, Nat.reduceAdd, Nat.reduceLT, reduceCtorEq, implies_true, exists_eq']; exact Wk.refl _)
    ·have hk := (QdL w).2 hW
     simp only [QbA, KI8, qi4, if_true, if_false, ↓reduceIte, Nat.reduceAdd, Nat.reduceSub, Nat.reduceLeDiff, Nat.reduceEqDiff, Nat.reduceMul, Nat.reduceLT, Int.reduceLT, Int.reduceLE, Int.reduceEq, CO.tmps, Opd.tmps, optT, Nat.reducePow, Nat.reduceDiv, Nat.reduceMod, qjR, hsl, o0, Y17, XsR, eq_false hW, wn, tn_0, tn_1, tn_2, Nat.mul_one, Nat.zero_add, K6Y hh, ZbP hz, qyN hz, KN7 hz, Option.map_some, decide_true, decide_false, ne_eq, not_false_eq_true, not_true_eq_false, false_implies, forall_const, and_true, true_and]
     refine ⟨3, by decide, by decide, ?_⟩
     dsimp only
     rw [hk]
     exact Bt.sel [0, 1, 2] hh (by decide) (by simp only [KOx, FrSel, BlkSel, AV.ren, renL, AV.ok, okL, Option.some.injEq, exists_eq_left', List.length_cons, List.length_nil, Nat.reduceAdd, Nat.reduceLT, reduceCtorEq, implies_true, exists_eq']) (by simp only [tp_0, tp_s, List.cons_append, List.nil_append, KOx, FrSel, BlkSel, AV.ren, renL, AV.ok, okL, Option.some.injEq, exists_eq_left', List.length_cons, List.length_nil, Nat.reduceAdd, Nat.reduceLT, reduceCtorEq, implies_true, exists_eq']; exact Wk.refl _)
  ·obtain rfl : i = 3 := by omega
   rw [kd_3]
   by_cases k0 : QF1 w = 0
   ·rw [if_pos k0]
    simp only [QbA, KI8, qi4, if_true, if_false, ↓reduceIte, Nat.reduceAdd, Nat.reduceSub, Nat.reduceLeDiff, Nat.reduceEqDiff, Nat.reduceMul, Nat.reduceLT, Int.reduceLT, Int.reduceLE, Int.reduceEq, CO.tmps, Opd.tmps, optT, Nat.reducePow, Nat.reduceDiv, Nat.reduceMod, hsl, o0, k0, badC, Crd.v, zoX, decide_true, decide_false, ne_eq, not_false_eq_true, not_true_eq_false, false_implies, forall_const, and_true, true_and]
    exact Bt.drop _ hh rfl rfl
   rw [if_neg k0]
   generalize QF1 w = k at k0 ⊢
   have k0' := eq_false k0
   unfold JPB
   cases h2 : zWb s (one + 1) with
   | none =>
    have hm2 : natI (zWb s (one + 1)) = -1 := by rw [h2]; rfl
    simp only [QbA, KI8, qi4, if_true, if_false, ↓reduceIte, Nat.reduceAdd, Nat.reduceSub, Nat.reduceLeDiff, Nat.reduceEqDiff, Nat.reduceMul, Nat.reduceLT, Int.reduceLT, Int.reduceLE, Int.reduceEq, CO.tmps, Opd.tmps, optT, Nat.reducePow, Nat.reduceDiv, Nat.reduceMod, hcx, hm2, w1, zcA, X8C, o0, k0', badC, Crd.v, zoX, decide_true, decide_false, ne_eq, not_false_eq_true, not_true_eq_false, false_implies, forall_const, and_true, true_and]
    exact Bt.drop _ hh rfl rfl
   | some two =>
    obtain ⟨hot, htl, -⟩ := qsK h2
    have hm2 : natI (zWb s (one + 1)) = (two : Int) := by rw [h2]; rfl
    have w2 : IntKind.i64.wrap ((two : Int) + 1) = ((two + 1 : Nat) : Int) := YBD (by unfold In64; omega)
    have s1 := ZBA (l := s) (n := one + 1) (m := two) .i64 .i64 hot (by omega)
    have s2 := YdV (l := s) (n := two + 1) .i64 (by omega)
    have t0 : ((two : Int) < 0) = False := eq_false (by omega)
    have r1 : (((s.take two).drop (one + 1)).length ≤ 1000000) = True := eq_true (by rw [List.length_drop, List.length_take]; omega)
    have r2 : ((s.drop (two + 1)).length ≤ 1000000) = True := eq_true (by rw [List.length_drop]; omega)
    dsimp only
    generalize (s.take two).drop (one + 1) = r at *
    generalize s.drop (two + 1) = a at *
    by_cases e1 : repE k r = 0
    ·rw [if_pos e1]
     by_cases e2 : aftE k a = 0
     ·rw [if_pos e2]
      simp only [QbA, KI8, qi4, if_true, if_false, ↓reduceIte, Nat.reduceAdd, Nat.reduceSub, Nat.reduceLeDiff, Nat.reduceEqDiff, Nat.reduceMul, Nat.reduceLT, Int.reduceLT, Int.reduceLE, Int.reduceEq, CO.tmps, Opd.tmps, optT, Nat.reducePow, Nat.reduceDiv, Nat.reduceMod, hcx, hm2, w1, w2, s1, s2, t0, r1, r2, qjR, QCM, Ypx, e1, e2, zcA, X8C, o0, k0', badC, Crd.v, zoX, K6Y hh, ZbP hz, qyN hz, KN7 hz, Option.map_some, decide_true, decide_false, ne_eq, not_false_eq_true, not_true_eq_false, false_implies, forall_const, and_true, true_and]
      exact Bt.drop _ hh rfl rfl
     ·rw [if_neg e2]
      simp only [QbA, KI8, qi4, if_true, if_false, ↓reduceIte, Nat.reduceAdd, Nat.reduceSub, Nat.reduceLeDiff, Nat.reduceEqDiff, Nat.reduceMul, Nat.reduceLT, Int.reduceLT, Int.reduceLE, Int.reduceEq, CO.tmps, Opd.tmps, optT, Nat.reducePow, Nat.reduceDiv, Nat.reduceMod, hcx, hm2, w1, w2, s1, s2, t0, r1, r2, qjR, QCM, Ypx, e1, eq_false e2, zcA, X8C, o0, k0', badC, Crd.v, zoX, K6Y hh, ZbP hz, qyN hz, KN7 hz, Option.map_some, decide_true, decide_false, ne_eq, not_false_eq_true, not_true_eq_false, false_implies, forall_const, and_true, true_and]
      exact Bt.drop _ hh rfl rfl
    ·rw [if_neg e1]
     simp only [QbA, KI8, qi4, if_true, if_false, ↓reduceIte, Nat.reduceAdd, Nat.reduceSub, Nat.reduceLeDiff, Nat.reduceEqDiff, Nat.reduceMul, Nat.reduceLT, Int.reduceLT, Int.reduceLE, Int.reduceEq, CO.tmps, Opd.tmps, optT, Nat.reducePow, Nat.reduceDiv, Nat.reduceMod, hcx, hm2, w1, w2, s1, s2, t0, r1, r2, qjR, QCM, Ypx, eq_false e1, zcA, X8C, o0, k0', badC, Crd.v, zoX, K6Y hh, ZbP hz, qyN hz, KN7 hz, Option.map_some, decide_true, decide_false, ne_eq, not_false_eq_true, not_true_eq_false, false_implies, forall_const, and_true, true_and]
     exact Bt.drop _ hh rfl rfl
theorem YZI : Spec Try.prog 20 zs6 := by
 intro args h v h' e
 unfold zs6 at e
 split at e
 ·split at e
  ·rename_i hs
   cases e
   exact FnAt.c (FnAt.frz0 fun hz => Y5i hz hs)
  ·cases e
 ·cases e
end Go.Proofs.Ytbcpcjofkfgjoaa
end
section
namespace Go.Proofs.Ytbcpcjofkfgjoaa
set_option maxRecDepth 100000
theorem XFa (s : ByteArray) (pos : Nat) : ∀ k, 1 ≤ k → k < (Utf8.decode s pos).2 → pos + k < s.size ∧ 128 ≤ (s.get! (pos + k)).toNat := by
 simp only [Utf8.decode]
 repeat' split
 all_goals intro k h1 h2
 all_goals simp only [Bool.and_eq_true, decide_eq_true_eq, beq_iff_eq] at *
 ·omega
 ·obtain rfl : k = 1 := by omega
  omega
 ·omega
 ·rcases (show k = 1 ∨ k = 2 by omega) with rfl | rfl <;> omega
 ·omega
 ·rcases (show k = 1 ∨ k = 2 ∨ k = 3 by omega) with rfl | rfl | rfl <;> omega
 ·omega
 ·omega
theorem getL (l : List UInt8) {i : Nat} (h : i < l.length) : (⟨l.toArray⟩ : ByteArray).get! i = l.getD i 0 := by
 show l.toArray[i]! = _
 rw [getElem!_pos l.toArray i (by simpa using h), List.getD_eq_getElem?_getD, List.getElem?_eq_getElem h]
 rfl
theorem zPF {s : List UInt8} {pos : Nat} : ∀ n, (∀ k, k < n → pos + k < s.length ∧ s.getD (pos + k) 0 ≠ 58) → zWb s pos = zWb s (pos + n)
 | 0, _ => rfl
 | n + 1, h => by
  rw [zPF n (fun k hk => h k (by omega)), qG3 (h n (Nat.lt_succ_self n)).1, if_neg (h n (Nat.lt_succ_self n)).2]
  rfl
theorem YuT {s : List UInt8} {pos : Nat} (h : pos < s.length) :
  (Utf8.decode ⟨s.toArray⟩ pos).2 ≠ 0 ∧ pos + (Utf8.decode ⟨s.toArray⟩ pos).2 ≤ s.length ∧
  ((Utf8.decode ⟨s.toArray⟩ pos).1 = 58 → (Utf8.decode ⟨s.toArray⟩ pos).2 = 1 ∧ s.getD pos 0 = 58) ∧
  ((Utf8.decode ⟨s.toArray⟩ pos).1 ≠ 58 → zWb s pos = zWb s (pos + (Utf8.decode ⟨s.toArray⟩ pos).2)) := by
 have hs : (⟨s.toArray⟩ : ByteArray).size = s.length := by simp [ByteArray.size]
 have hg : s.getD pos 0 = s[pos] := by rw [List.getD_eq_getElem?_getD, List.getElem?_eq_getElem h]; rfl
 by_cases ha : (s[pos]).toNat < 128
 ·rw [JDq h ha]
  refine ⟨Nat.one_ne_zero, h, fun e => ⟨rfl, ?_⟩, fun e => zPF 1 fun k hk => ?_⟩
  ·rw [hg]; exact UInt8.toNat_inj.1 e
  ·obtain rfl : k = 0 := by omega
   rw [Nat.add_zero, hg]
   exact ⟨h, fun z => e (by show (s[pos]).toNat = 58; rw [z]; rfl)⟩
 ·have hr := XFa ⟨s.toArray⟩ pos
  have hh := decode_high ⟨s.toArray⟩ pos (by rw [hs]; exact h) (by show 128 ≤ (s[pos]).toNat; omega)
  generalize Utf8.decode ⟨s.toArray⟩ pos = d at hr hh
  have hle : pos + d.2 ≤ s.length := by
   by_cases h1 : 1 < d.2
   ·have := (hr (d.2 - 1) (by omega) (by omega)).1
    rw [hs] at this
    omega
   ·omega
  refine ⟨by omega, hle, fun e => by omega, fun _ => zPF d.2 fun k hk => ⟨by omega, ?_⟩⟩
  by_cases k0 : k = 0
  ·subst k0
   rw [Nat.add_zero, hg]
   intro z
   rw [z] at ha
   exact ha (by decide)
  ·have := (hr k (by omega) hk).2
   rw [getL s (by omega)] at this
   intro z
   rw [z] at this
   exact absurd this (by decide)
end Go.Proofs.Ytbcpcjofkfgjoaa
end
section
namespace Go.Proofs.Ytbcpcjofkfgjoaa
set_option maxRecDepth 100000
set_option maxHeartbeats 4000000
def XpF : List AV → List AB → Option (AV × List AB)
 | [.f (.func g) [] []], h => some (.f (.func 69) [] [.p (h.length + 0) 0], h ++ [.blk false true [.f (.func g) [] []]])
 | _, _ => none
theorem ZTp : Spec Try.prog 55 XpF := by
 intro args h v h' e
 unfold XpF at e
 split at e
 ·rename_i g
  cases e
  refine FnAt.c (FnAt.run (by kernel_rfl) (T := ⟨[], []⟩) ⟨trivial, trivial⟩ Try.func55 sw55 fun ho hh => ?_)
  unfold w55
  simp only [KXL, JuQ, QbA, KI8, qi4, simprocAttr, CO.tmps, Opd.tmps, optT, Nat.reducePow, Nat.reduceDiv, Nat.reduceMod]
  exact Bt.wk1 (Wk.refl _)
 ·cases e
def namE (g : Nat) (s : List UInt8) : Option Int := if g = 56 then some (errR s) else if g = 57 then some (errT s) else none
def QdS : List AV → List AB → Option (AV × List AB)
 | [.s s, .p b 0], h => match ldV h none (.p b 0) with
  | some (.f (.func g) [] []) => if s.length ≤ 1000000 then (namE g s).map fun e => (.i .i64 e, h) else none
  | _ => none
 | _, _ => none
theorem eq00 {e p : Int} (h : e = 0 ∧ p = 0) : JJx [CK.i, CK.i] [.i .i64 e, .i .i64 p] [.i .i64 0, .i .i64 0] = some true := by
 rw [h.1, h.2]; rfl
theorem ne00 {e p : Int} (h : e ≠ 0) : JJx [CK.i, CK.i] [.i .i64 e, .i .i64 p] [.i .i64 0, .i .i64 0] = some false := by
 have : (e == 0) = false := by simp [h]
 simp only [JJx, Yng, if_true, Option.bind_some, Option.map_some, this, Bool.false_and]
theorem Ksc : Spec Try.prog 69 QdS := by
 intro args h v h' e
 unfold QdS at e
 split at e
 ·rename_i s b
  split at e
  ·rename_i g l1
   split at e
   ·rename_i hs
    have m1 : ldV (h ++ []) none (.p b 0) = some (.f (.func g) [] []) := by rw [List.append_nil]; exact l1
    have hs' := eq_true hs
    unfold namE at e
    refine FnAt.c (FnAt.run (by kernel_rfl) (T := ⟨[⟨56, zsI, fun _ => []⟩, ⟨57, YCE, fun _ => []⟩], []⟩) ⟨⟨KhV, KWz, trivial⟩, trivial⟩ Try.func69 sw69 fun ho hh => ?_)
    unfold w69
    by_cases g1 : g = 56
    ·subst g1
     rw [if_pos rfl] at e
     cases e
     obtain ⟨e, p, e1, e2, e3⟩ := qNv s
     unfold errR
     by_cases hg : Z88 s
     ·rw [if_pos hg]
      have q := eq00 (e2 hg)
      simp only [KXL, JuQ, QbA, KI8, qi4, simprocAttr, CO.tmps, Opd.tmps, optT, Nat.reducePow, Nat.reduceDiv, Nat.reduceMod, m1, zsI, hs', e1, q, decide_true, decide_false, ne_eq, not_false_eq_true, not_true_eq_false, false_implies, forall_const, and_true, true_and]
      exact Bt.drop _ hh rfl rfl
     ·rw [if_neg hg]
      have q := ne00 (p := p) (e3 hg)
      simp only [KXL, JuQ, QbA, KI8, qi4, simprocAttr, CO.tmps, Opd.tmps, optT, Nat.reducePow, Nat.reduceDiv, Nat.reduceMod, m1, zsI, hs', e1, q, decide_true, decide_false, ne_eq, not_false_eq_true, not_true_eq_false, false_implies, forall_const, and_true, true_and]
      exact Bt.drop _ hh rfl rfl
    rw [if_neg g1] at e
    by_cases g2 : g = 57
    ·subst g2
     rw [if_pos rfl] at e
     cases e
     obtain ⟨e, p, e1, e2, e3⟩ := Y3B s
     unfold errT
     by_cases hg : QQ2 s
     ·rw [if_pos hg]
      have q := eq00 (e2 hg)
      simp only [KXL, JuQ, QbA, KI8, qi4, simprocAttr, CO.tmps, Opd.tmps, optT, Nat.reducePow, Nat.reduceDiv, Nat.reduceMod, m1, YCE, hs', e1, q, decide_true, decide_false, ne_eq, not_false_eq_true, not_true_eq_false, false_implies, forall_const, and_true, true_and]
      exact Bt.drop _ hh rfl rfl
     ·rw [if_neg hg]
      have q := ne00 (p := p) (e3 hg)
      simp only [KXL, JuQ, QbA, KI8, qi4, simprocAttr, CO.tmps, Opd.tmps, optT, Nat.reducePow, Nat.reduceDiv, Nat.reduceMod, m1, YCE, hs', e1, q, decide_true, decide_false, ne_eq, not_false_eq_true, not_true_eq_false, false_implies, forall_const, and_true, true_and]
      exact Bt.drop _ hh rfl rfl
    ·rw [if_neg g2] at e
     cases e
   ·cases e
  ·cases e
 ·cases e
def zp0 : List AV → List AB → Option (AV × List AB)
 | [.s s], h => some (.i .i64 (errN s), h)
 | _, _ => none
theorem Z5t : Spec Try.prog 59 zp0 := by
 intro args h v h' e
 unfold zp0 at e
 split at e
 ·rename_i s
  cases e
  refine FnAt.c (FnAt.run (by kernel_rfl) (T := ⟨[], []⟩) ⟨trivial, trivial⟩ Try.func59 sw59 fun ho hh => ?_)
  unfold w59 errN
  by_cases hz : s = []
  ·rw [if_pos hz]
   simp only [KXL, JuQ, QbA, KI8, qi4, simprocAttr, CO.tmps, Opd.tmps, optT, Nat.reducePow, Nat.reduceDiv, Nat.reduceMod, KP7, eq_true hz, decide_true, decide_false, ne_eq, not_false_eq_true, not_true_eq_false, false_implies, forall_const, and_true, true_and]
   exact Bt.drop _ hh rfl rfl
  ·rw [if_neg hz]
   simp only [KXL, JuQ, QbA, KI8, qi4, simprocAttr, CO.tmps, Opd.tmps, optT, Nat.reducePow, Nat.reduceDiv, Nat.reduceMod, KP7, eq_false hz, decide_true, decide_false, ne_eq, not_false_eq_true, not_true_eq_false, false_implies, forall_const, and_true, true_and]
   exact Bt.drop _ hh rfl rfl
 ·cases e
def YAS : List AV → List AB → Option (AV × List AB)
 | [.s s], h => if s.length ≤ 1000000 then some (.i .i64 (errI s), h) else none
 | _, _ => none
theorem YW8 : Spec Try.prog 58 YAS := by
 intro args h v h' e
 unfold YAS at e
 split at e
 ·rename_i s
  split at e
  ·rename_i hs
   cases e
   refine FnAt.c (FnAt.run (by kernel_rfl) (T := ⟨[⟨76, T_ID, fun _ => []⟩], []⟩) ⟨⟨KxU, trivial⟩, trivial⟩ Try.func58 sw58 fun ho hh => ?_)
   unfold w58
   have hs' := eq_true hs
   obtain ⟨e, p, e1, e2, e3⟩ := YHV s
   have hc : (idC s).length = 32 := Jqs s
   have hov : over [.i .u8 0, .i .u8 0, .i .u8 0, .i .u8 0, .i .u8 0, .i .u8 0, .i .u8 0, .i .u8 0, .i .u8 0, .i .u8 0, .i .u8 0, .i .u8 0, .i .u8 0, .i .u8 0, .i .u8 0, .i .u8 0, .i .u8 0, .i .u8 0, .i .u8 0, .i .u8 0, .i .u8 0, .i .u8 0, .i .u8 0, .i .u8 0, .i .u8 0, .i .u8 0, .i .u8 0, .i .u8 0, .i .u8 0, .i .u8 0, .i .u8 0, .i .u8 0] 0 (idC s) = idC s := by
    simp only [over, List.take_zero, List.nil_append, Nat.zero_add]
    rw [List.drop_eq_nil_of_le (by rw [hc]; exact Nat.le_refl _), List.append_nil]
   have hall : (idC s).all (wrOk true) = true := by
    unfold idC
    split
    ·exact (Jdz (QIV s)).2.2.1
    ·rfl
   have h32 : ((32 : Nat) ≤ 32) = True := eq_true (Nat.le_refl _)
   unfold errI
   by_cases hg : idF s = none
   ·rw [if_pos hg]
    have q := eq00 (e2 hg)
    simp only [KXL, JuQ, QbA, KI8, qi4, simprocAttr, CO.tmps, Opd.tmps, optT, Nat.reducePow, Nat.reduceDiv, Nat.reduceMod, T_ID, hs', e1, q, hc, hov, hall, h32, decide_true, decide_false, ne_eq, not_false_eq_true, not_true_eq_false, false_implies, forall_const, and_true, true_and]
    exact Bt.drop _ hh rfl rfl
   ·rw [if_neg hg]
    have q := ne00 (p := p) (e3 hg)
    simp only [KXL, JuQ, QbA, KI8, qi4, simprocAttr, CO.tmps, Opd.tmps, optT, Nat.reducePow, Nat.reduceDiv, Nat.reduceMod, T_ID, hs', e1, q, hc, hov, hall, h32, decide_true, decide_false, ne_eq, not_false_eq_true, not_true_eq_false, false_implies, forall_const, and_true, true_and]
    exact Bt.drop _ hh rfl rfl
  ·cases e
 ·cases e
def nmdV (n : Nat) : AV := .f (.func 69) [] [.p n 0]
def qrD (n : Nat) : List AB := [.blk false true [.f (.func 56) [] []], .blk false true [.f (.func 57) [] []], .blk false true [.f (.func 56) [] []], .blk false true [.f (.func 56) [] []],
 .blk false true [.s YNH, nmdV (n + 0), nmdV (n + 1), .s ZJf, nmdV (n + 2), .f (.func 58) [] [], .s Kkh, .f (.func 59) [] [], nmdV (n + 3)]]
def Kqb : List AV → List AB → Option (AV × List AB)
 | [], h => some (.sl (h.length + 4) 0 3 3 none, h ++ qrD h.length)
 | _, _ => none
theorem qTR : Spec Try.prog 37 Kqb := by
 intro args h v h' e
 unfold Kqb at e
 split at e
 ·cases e
  refine FnAt.c (FnAt.run (by kernel_rfl) (T := ⟨[⟨55, XpF, fun _ => []⟩], []⟩) ⟨⟨ZTp, trivial⟩, trivial⟩ Try.func37 sw37 fun ho hh => ?_)
  unfold w37 qrD nmdV
  simp only [KXL, JuQ, QbA, KI8, qi4, simprocAttr, CO.tmps, Opd.tmps, optT, Nat.reducePow, Nat.reduceDiv, Nat.reduceMod, XpF, decide_true, decide_false, ne_eq, not_false_eq_true, not_true_eq_false, false_implies, forall_const, and_true, true_and]
  exact Bt.wk1 (Wk.refl _)
 ·cases e
end Go.Proofs.Ytbcpcjofkfgjoaa
end
