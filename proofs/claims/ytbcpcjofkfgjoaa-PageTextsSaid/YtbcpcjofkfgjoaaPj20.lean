/- Part 20 of what the laws' proofs rest on. No condition. -/
import Derived.Test.YtbcpcjofkfgjoaaPj19
set_option linter.all false
section
namespace Go.Proofs.Ytbcpcjofkfgjoaa
set_option maxRecDepth 100000
set_option maxHeartbeats 4000000
structure CSt where
 part : Nat
 p0 : Nat
 p1 : Nat
 f1 : Nat
 f2 : Nat
def stOk (s : List UInt8) (pos : Nat) (t : CSt) : Prop :=
 (t.part = 0 ∧ t.p0 = 0 ∧ t.p1 = 0 ∧ t.f1 = 0 ∧ t.f2 = 0 ∧ zWb s pos = zWb s 0) ∨
 (t.part = 1 ∧ zWb s 0 = some t.p0 ∧ t.p1 = 0 ∧ t.f1 = t.p0 + 1 ∧ t.f2 = 0 ∧ zWb s pos = zWb s (t.p0 + 1)) ∨
 (t.part = 2 ∧ zWb s 0 = some t.p0 ∧ zWb s (t.p0 + 1) = some t.p1 ∧ t.f1 = t.p0 + 1 ∧ t.f2 = t.p1 + 1)
theorem YXy (q : Nat → Bool) (l : List UInt8) (p : Nat) : AB.ok q (itr l p) = true := _root_.id rfl
theorem ZBD (w : List UInt8) : 0 ≤ QF1 w ∧ QF1 w ≤ 3 := by
 unfold QF1
 repeat' split
 all_goals decide
theorem ZpJ (w : List UInt8) : ixK (some w) YNH ZJf Kkh = QF1 w - 1 := by
 unfold ixK QF1
 simp only [Option.some.injEq, eq_comm (a := w)]
 repeat' split
 all_goals rfl
theorem YDZ {h : List AB} (hz : h.map AB.freeze = h) {s : List UInt8} (hs : s.length ≤ 1000000) : FnAt Try.prog 19 [.s s] h (zfC s).v h := by
 refine FnAt.run (by kernel_rfl) (T := ⟨[⟨37, Kqb, fun _ => []⟩, ⟨40, Yot, fun _ => []⟩, ⟨69, QdS, fun _ => []⟩, ⟨59, zp0, fun _ => []⟩, ⟨42, qG9, fun _ => []⟩, ⟨39, ZA2, fun _ => []⟩], []⟩) ⟨⟨qTR, znC, Ksc, Z5t, zD0, YRn, trivial⟩, trivial⟩ Try.func19 sw19 fun ho hh => ?_
 unfold w19
 simp only [KXL, JuQ, QbA, KI8, qi4, if_true, if_false, ↓reduceIte, Nat.reduceAdd, Nat.reduceSub, Nat.reduceLeDiff, Nat.reduceEqDiff, Nat.reduceMul, Nat.reduceLT, Int.reduceLT, Int.reduceLE, Int.reduceEq, CO.tmps, Opd.tmps, optT, Nat.reducePow, Nat.reduceDiv, Nat.reduceMod, Yq6, decide_true, decide_false, ne_eq, not_false_eq_true, not_true_eq_false, false_implies, forall_const, and_true, true_and]
 refine Qxr (S := Nat × CSt) (fun σ => s.length - σ.1) (fun σ => tp 1 ++ [.p (h.length + 0) 0, .p (h.length + 1) 0, .p (h.length + 2) 0, .p (h.length + 3) 0, .p (h.length + 4) 0, .p (h.length + 5) 0] ++ tp 8 ++ [.p (h.length + 6) 0] ++ tp 74)
  (fun σ => h ++ [.blk true true [.s s], .blk true true [.i .i64 0, .s [], .s []], .blk true true [.i .i64 0, .i .i64 0], .blk true true [.i .i64 (σ.2.p0), .i .i64 (σ.2.p1), .i .i64 0], .blk true true [.i .i64 0, .i .i64 (σ.2.f1), .i .i64 (σ.2.f2)], .blk true true [.i .i64 (σ.2.part)], itr s σ.1]) (fun σ => σ.1 ≤ s.length ∧ stOk s σ.1 σ.2) (0, ⟨0, 0, 0, 0, 0⟩) ⟨Nat.zero_le _, .inl ⟨rfl, rfl, rfl, rfl, rfl, rfl⟩⟩ (Bt.wk (by simp only [QbA, qi4, if_true, if_false, reduceIte, Nat.reduceAdd, Nat.reduceSub, Nat.reduceLeDiff, Nat.reduceEqDiff, Nat.reduceMul, Nat.reduceLT, Int.reduceLT, Int.reduceLE, Int.reduceEq])) fun σ hσ => ?_
 obtain ⟨pos, part, p0, p1, f1, f2⟩ := σ
 obtain ⟨hpos, hst⟩ := hσ
 dsimp only [stOk] at hpos hst ⊢
 have hn : ∀ A0 A1 A2 A3 A4 A5 : AB, nxV (h ++ [A0, A1, A2, A3, A4, A5, itr s pos]) (.p (h.length + 6) 0) = if pos < s.length then some (.tu [.b true, .i .i64 (pos : Int), .i .i32 ((Utf8.decode ⟨s.toArray⟩ pos).1 : Int)], h ++ [A0, A1, A2, A3, A4, A5, itr s (pos + (Utf8.decode ⟨s.toArray⟩ pos).2)]) else some (.tu [.b false], h ++ [A0, A1, A2, A3, A4, A5, itr s pos]) := fun A0 A1 A2 A3 A4 A5 => Zk2 [A0, A1, A2, A3, A4, A5, itr s pos] 6 s pos rfl
 by_cases g : pos < s.length
 ·obtain ⟨d1, d2, d3, d4⟩ := YuT g
  have wp : IntKind.i64.wrap ((pos : Int) + 1) = ((pos + 1 : Nat) : Int) := YBD (by unfold In64; omega)
  by_cases c58 : (Utf8.decode ⟨s.toArray⟩ pos).1 = 58
  ·obtain ⟨d5, d6⟩ := d3 c58
   have hcp : zWb s pos = some pos := by rw [qG3 g, if_pos d6]
   have c58' : (((Utf8.decode ⟨s.toArray⟩ pos).1 : Int) = 58) = True := eq_true (by omega)
   rw [d5] at hn
   rcases hst with ⟨rfl, rfl, rfl, rfl, rfl, q⟩ | ⟨rfl, q0, rfl, rfl, rfl, q⟩ | ⟨rfl, q0, q1, rfl, rfl⟩
   ·have w0 : IntKind.i64.wrap (0 + 1) = 1 := by decide
    simp only [QbA, KI8, qi4, if_true, if_false, ↓reduceIte, Nat.reduceAdd, Nat.reduceSub, Nat.reduceLeDiff, Nat.reduceEqDiff, Nat.reduceMul, Nat.reduceLT, Int.reduceLT, Int.reduceLE, Int.reduceEq, CO.tmps, Opd.tmps, optT, Nat.reducePow, Nat.reduceDiv, Nat.reduceMod, YaU, hn, g, c58', wp, w0, zyA, iaaV, tn_0, tn_1, tn_2, Nat.mul_one, Nat.zero_add, decide_true, decide_false, ne_eq, not_false_eq_true, not_true_eq_false, false_implies, forall_const, and_true, true_and]
    exact ⟨(pos + 1, ⟨1, pos, 0, pos + 1, 0⟩), ⟨g, .inr (.inl ⟨rfl, q.symm.trans hcp, rfl, rfl, rfl, rfl⟩)⟩, by dsimp only; omega, Bt.wk (by simp only [QbA, qi4, if_true, if_false, reduceIte, Nat.reduceAdd, Nat.reduceSub, Nat.reduceLeDiff, Nat.reduceEqDiff, Nat.reduceMul, Nat.reduceLT, Int.reduceLT, Int.reduceLE, Int.reduceEq])⟩
   ·have w0 : IntKind.i64.wrap (1 + 1) = 2 := by decide
    simp only [QbA, KI8, qi4, if_true, if_false, ↓reduceIte, Nat.reduceAdd, Nat.reduceSub, Nat.reduceLeDiff, Nat.reduceEqDiff, Nat.reduceMul, Nat.reduceLT, Int.reduceLT, Int.reduceLE, Int.reduceEq, CO.tmps, Opd.tmps, optT, Nat.reducePow, Nat.reduceDiv, Nat.reduceMod, YaU, hn, g, c58', wp, w0, zyA, iaaV, tn_0, tn_1, tn_2, Nat.mul_one, Nat.zero_add, decide_true, decide_false, ne_eq, not_false_eq_true, not_true_eq_false, false_implies, forall_const, and_true, true_and]
    exact ⟨(pos + 1, ⟨2, p0, pos, p0 + 1, pos + 1⟩), ⟨g, .inr (.inr ⟨rfl, q0, q.symm.trans hcp, rfl, rfl⟩)⟩, by dsimp only; omega, Bt.wk (by simp only [QbA, qi4, if_true, if_false, reduceIte, Nat.reduceAdd, Nat.reduceSub, Nat.reduceLeDiff, Nat.reduceEqDiff, Nat.reduceMul, Nat.reduceLT, Int.reduceLT, Int.reduceLE, Int.reduceEq])⟩
   ·simp only [QbA, KI8, qi4, if_true, if_false, ↓reduceIte, Nat.reduceAdd, Nat.reduceSub, Nat.reduceLeDiff, Nat.reduceEqDiff, Nat.reduceMul, Nat.reduceLT, Int.reduceLT, Int.reduceLE, Int.reduceEq, CO.tmps, Opd.tmps, optT, Nat.reducePow, Nat.reduceDiv, Nat.reduceMod, YaU, hn, g, c58', wp, zyA, iaaV, tn_0, tn_1, tn_2, Nat.mul_one, Nat.zero_add, decide_true, decide_false, ne_eq, not_false_eq_true, not_true_eq_false, false_implies, forall_const, and_true, true_and]
    exact ⟨(pos + 1, ⟨2, p0, p1, p0 + 1, p1 + 1⟩), ⟨g, .inr (.inr ⟨rfl, q0, q1, rfl, rfl⟩)⟩, by dsimp only; omega, Bt.wk (by simp only [QbA, qi4, if_true, if_false, reduceIte, Nat.reduceAdd, Nat.reduceSub, Nat.reduceLeDiff, Nat.reduceEqDiff, Nat.reduceMul, Nat.reduceLT, Int.reduceLT, Int.reduceLE, Int.reduceEq])⟩
  ·have c58' : (((Utf8.decode ⟨s.toArray⟩ pos).1 : Int) = 58) = False := eq_false (by omega)
   have hsk := d4 c58
   simp only [QbA, KI8, qi4, if_true, if_false, ↓reduceIte, Nat.reduceAdd, Nat.reduceSub, Nat.reduceLeDiff, Nat.reduceEqDiff, Nat.reduceMul, Nat.reduceLT, Int.reduceLT, Int.reduceLE, Int.reduceEq, CO.tmps, Opd.tmps, optT, Nat.reducePow, Nat.reduceDiv, Nat.reduceMod, YaU, hn, g, c58', decide_true, decide_false, ne_eq, not_false_eq_true, not_true_eq_false, false_implies, forall_const, and_true, true_and]
   refine ⟨(pos + (Utf8.decode ⟨s.toArray⟩ pos).2, ⟨part, p0, p1, f1, f2⟩), ⟨d2, ?_⟩, by dsimp only; omega, Bt.wk (by simp only [QbA, qi4, if_true, if_false, reduceIte, Nat.reduceAdd, Nat.reduceSub, Nat.reduceLeDiff, Nat.reduceEqDiff, Nat.reduceMul, Nat.reduceLT, Int.reduceLT, Int.reduceLE, Int.reduceEq])⟩
   dsimp only [stOk]
   rw [← hsk]
   exact hst
 ·have hpl : pos = s.length := by omega
  subst hpl
  have hend : zWb s s.length = none := q30 (Nat.le_refl _)
  rcases hst with ⟨rfl, rfl, rfl, rfl, rfl, q⟩ | ⟨rfl, q0, rfl, rfl, rfl, q⟩ | ⟨rfl, q0, q1, rfl, rfl⟩
  ·have h0 : zWb s 0 = none := by rw [← q]; exact hend
   have hR : zfC s = badC 5 0 := by unfold zfC; rw [h0]
   have hix : ixK none YNH ZJf Kkh = -1 := rfl
   rw [hR]
   simp only [QbA, KI8, qi4, if_true, if_false, ↓reduceIte, Nat.reduceAdd, Nat.reduceSub, Nat.reduceLeDiff, Nat.reduceEqDiff, Nat.reduceMul, Nat.reduceLT, Int.reduceLT, Int.reduceLE, Int.reduceEq, CO.tmps, Opd.tmps, optT, Nat.reducePow, Nat.reduceDiv, Nat.reduceMod, YaU, hn, g, Kqb, qrD, nmdV, Yot, rdT, rd1V, ZA2, zyA, iaaV, zcA, X8C, zoX, YXy, hix, badC, Crd.v, tn_0, tn_1, tn_2, Nat.mul_one, Nat.zero_add, K6Y hh, ZbP hz, qyN hz, KN7 hz, Option.map_some, decide_true, decide_false, ne_eq, not_false_eq_true, not_true_eq_false, false_implies, forall_const, and_true, true_and, if_true, if_false]
   exact ⟨rfl, Bt.drop _ hh rfl rfl⟩
  ·have h2 : zWb s (p0 + 1) = none := by rw [← q]; exact hend
   obtain ⟨-, l0, -⟩ := qsK q0
   have s0 : slS s (some (.i .i64 0)) (some (.i .i64 (p0 : Int))) = some (.s (s.take p0)) := ZBA (l := s) (n := 0) (m := p0) .i64 .i64 (Nat.zero_le _) (by omega)
   have hk := ZpJ (s.take p0)
   have hR : zfC s = if QF1 (s.take p0) = 0 then badC 5 0 else badC 5 s.length := by unfold zfC JPB; rw [q0]; dsimp only; rw [h2]
   generalize s.take p0 = w at *
   rw [hR]
   by_cases k0 : QF1 w = 0
   ·rw [if_pos k0]
    have hix : ixK (some w) YNH ZJf Kkh = -1 := by rw [hk, k0]; rfl
    simp only [QbA, KI8, qi4, if_true, if_false, ↓reduceIte, Nat.reduceAdd, Nat.reduceSub, Nat.reduceLeDiff, Nat.reduceEqDiff, Nat.reduceMul, Nat.reduceLT, Int.reduceLT, Int.reduceLE, Int.reduceEq, CO.tmps, Opd.tmps, optT, Nat.reducePow, Nat.reduceDiv, Nat.reduceMod, YaU, hn, g, Kqb, qrD, nmdV, Yot, rdT, rd1V, ZA2, zyA, iaaV, zcA, X8C, zoX, YXy, s0, hix, badC, Crd.v, tn_0, tn_1, tn_2, Nat.mul_one, Nat.zero_add, K6Y hh, ZbP hz, qyN hz, KN7 hz, Option.map_some, decide_true, decide_false, ne_eq, not_false_eq_true, not_true_eq_false, false_implies, forall_const, and_true, true_and, if_true, if_false]
    exact ⟨rfl, Bt.drop _ hh rfl rfl⟩
   ·rw [if_neg k0]
    obtain ⟨n, hn1⟩ : ∃ n, ixK (some w) YNH ZJf Kkh = n := ⟨_, rfl⟩
    have hn0 : (n < 0) = False := eq_false (by have := ZBD w; omega)
    simp only [QbA, KI8, qi4, if_true, if_false, ↓reduceIte, Nat.reduceAdd, Nat.reduceSub, Nat.reduceLeDiff, Nat.reduceEqDiff, Nat.reduceMul, Nat.reduceLT, Int.reduceLT, Int.reduceLE, Int.reduceEq, CO.tmps, Opd.tmps, optT, Nat.reducePow, Nat.reduceDiv, Nat.reduceMod, YaU, hn, g, Kqb, qrD, nmdV, Yot, rdT, rd1V, ZA2, zyA, iaaV, zcA, X8C, zoX, YXy, s0, hn1, hn0, badC, Crd.v, tn_0, tn_1, tn_2, Nat.mul_one, Nat.zero_add, K6Y hh, ZbP hz, qyN hz, KN7 hz, Option.map_some, decide_true, decide_false, ne_eq, not_false_eq_true, not_true_eq_false, false_implies, forall_const, and_true, true_and, if_true, if_false]
    exact ⟨rfl, Bt.drop _ hh rfl rfl⟩
  ·obtain ⟨-, l0, -⟩ := qsK q0
   obtain ⟨l1, l2, -⟩ := qsK q1
   have s0 : slS s (some (.i .i64 0)) (some (.i .i64 (p0 : Int))) = some (.s (s.take p0)) := ZBA (l := s) (n := 0) (m := p0) .i64 .i64 (Nat.zero_le _) (by omega)
   have s1 := ZBA (l := s) (n := p0 + 1) (m := p1) .i64 .i64 l1 (by omega)
   have s2 := ZBA (l := s) (n := p1 + 1) (m := s.length) .i64 .i64 (by omega) (Nat.le_refl _)
   rw [List.take_length] at s2
   have hk := ZpJ (s.take p0)
   have hR : zfC s = if QF1 (s.take p0) = 0 then badC 5 0 else JPB s p0 (QF1 (s.take p0)) := by unfold zfC; rw [q0]
   have hK : ∀ k, JPB s p0 k = if repE k ((s.take p1).drop (p0 + 1)) = 0 then (if aftE k (s.drop (p1 + 1)) = 0 then ⟨k, (s.take p1).drop (p0 + 1), s.drop (p1 + 1), 0, 0⟩ else badC (aftE k (s.drop (p1 + 1))) (p1 + 1 : Nat)) else badC (repE k ((s.take p1).drop (p0 + 1))) (p0 + 1 : Nat) := fun k => by unfold JPB; rw [q1]
   have r1 : (((s.take p1).drop (p0 + 1)).length ≤ 1000000) = True := eq_true (by rw [List.length_drop, List.length_take]; omega)
   have r2 : ((s.drop (p1 + 1)).length ≤ 1000000) = True := eq_true (by rw [List.length_drop]; omega)
   rw [hR]
   generalize s.take p0 = w at *
   by_cases k0 : QF1 w = 0
   ·rw [if_pos k0]
    have hix : ixK (some w) YNH ZJf Kkh = -1 := by rw [hk, k0]; rfl
    simp only [QbA, KI8, qi4, if_true, if_false, ↓reduceIte, Nat.reduceAdd, Nat.reduceSub, Nat.reduceLeDiff, Nat.reduceEqDiff, Nat.reduceMul, Nat.reduceLT, Int.reduceLT, Int.reduceLE, Int.reduceEq, CO.tmps, Opd.tmps, optT, Nat.reducePow, Nat.reduceDiv, Nat.reduceMod, YaU, hn, g, Kqb, qrD, nmdV, Yot, rdT, rd1V, ZA2, zyA, iaaV, zcA, X8C, zoX, YXy, s0, hix, badC, Crd.v, tn_0, tn_1, tn_2, Nat.mul_one, Nat.zero_add, K6Y hh, ZbP hz, qyN hz, KN7 hz, Option.map_some, decide_true, decide_false, ne_eq, not_false_eq_true, not_true_eq_false, false_implies, forall_const, and_true, true_and, if_true, if_false]
    exact ⟨rfl, Bt.drop _ hh rfl rfl⟩
   rw [if_neg k0, hK]
   generalize (s.take p1).drop (p0 + 1) = r at *
   generalize s.drop (p1 + 1) = a at *
   rcases (show QF1 w = 1 ∨ QF1 w = 2 ∨ QF1 w = 3 by have := ZBD w; omega) with k1 | k1 | k1
   ·rw [k1] at hk ⊢
    have hix : ixK (some w) YNH ZJf Kkh = 0 := hk
    have wn : IntKind.i64.wrap (0 + 1) = 1 := by decide
    have rn : Int.toNat 0 = 0 := rfl
    rw [show repE 1 r = errR r from rfl, show aftE 1 a = if a = [] then 0 else errT a from rfl]
    by_cases he : errR r = 0
    ·rw [if_pos he]
     by_cases hf : (if a = [] then 0 else errT a) = 0
     ·rw [if_pos hf]
      simp only [QbA, KI8, qi4, if_true, if_false, ↓reduceIte, Nat.reduceAdd, Nat.reduceSub, Nat.reduceLeDiff, Nat.reduceEqDiff, Nat.reduceMul, Nat.reduceLT, Int.reduceLT, Int.reduceLE, Int.reduceEq, CO.tmps, Opd.tmps, optT, Nat.reducePow, Nat.reduceDiv, Nat.reduceMod, YaU, hn, g, Kqb, qrD, nmdV, Yot, rdT, rd1V, ZA2, zyA, iaaV, zcA, X8C, zoX, QdS, namE, zp0, qG9, JO5, YXy, s0, s1, s2, r1, r2, hix, wn, rn, he, hf, badC, Crd.v, tn_0, tn_1, tn_2, Nat.mul_one, Nat.zero_add, K6Y hh, ZbP hz, qyN hz, KN7 hz, Option.map_some, decide_true, decide_false, ne_eq, not_false_eq_true, not_true_eq_false, false_implies, forall_const, and_true, true_and, if_true, if_false]
      exact ⟨rfl, rfl, Bt.drop _ hh rfl rfl⟩
     ·rw [if_neg hf]
      simp only [QbA, KI8, qi4, if_true, if_false, ↓reduceIte, Nat.reduceAdd, Nat.reduceSub, Nat.reduceLeDiff, Nat.reduceEqDiff, Nat.reduceMul, Nat.reduceLT, Int.reduceLT, Int.reduceLE, Int.reduceEq, CO.tmps, Opd.tmps, optT, Nat.reducePow, Nat.reduceDiv, Nat.reduceMod, YaU, hn, g, Kqb, qrD, nmdV, Yot, rdT, rd1V, ZA2, zyA, iaaV, zcA, X8C, zoX, QdS, namE, zp0, qG9, JO5, YXy, s0, s1, s2, r1, r2, hix, wn, rn, he, eq_false hf, badC, Crd.v, tn_0, tn_1, tn_2, Nat.mul_one, Nat.zero_add, K6Y hh, ZbP hz, qyN hz, KN7 hz, Option.map_some, decide_true, decide_false, ne_eq, not_false_eq_true, not_true_eq_false, false_implies, forall_const, and_true, true_and, if_true, if_false]
      exact ⟨rfl, rfl, Bt.drop _ hh rfl rfl⟩
    ·rw [if_neg he]
     simp only [QbA, KI8, qi4, if_true, if_false, ↓reduceIte, Nat.reduceAdd, Nat.reduceSub, Nat.reduceLeDiff, Nat.reduceEqDiff, Nat.reduceMul, Nat.reduceLT, Int.reduceLT, Int.reduceLE, Int.reduceEq, CO.tmps, Opd.tmps, optT, Nat.reducePow, Nat.reduceDiv, Nat.reduceMod, YaU, hn, g, Kqb, qrD, nmdV, Yot, rdT, rd1V, ZA2, zyA, iaaV, zcA, X8C, zoX, QdS, namE, zp0, qG9, JO5, YXy, s0, s1, s2, r1, r2, hix, wn, rn, eq_false he, badC, Crd.v, tn_0, tn_1, tn_2, Nat.mul_one, Nat.zero_add, K6Y hh, ZbP hz, qyN hz, KN7 hz, Option.map_some, decide_true, decide_false, ne_eq, not_false_eq_true, not_true_eq_false, false_implies, forall_const, and_true, true_and, if_true, if_false]
     exact ⟨rfl, rfl, Bt.drop _ hh rfl rfl⟩
   ·rw [k1] at hk ⊢
    have hix : ixK (some w) YNH ZJf Kkh = 1 := hk
    have wn : IntKind.i64.wrap (1 + 1) = 2 := by decide
    have rn : Int.toNat 1 = 1 := rfl
    rw [show repE 2 r = errR r from rfl, show aftE 2 a = if a = [] then 0 else errI a from rfl]
    by_cases he : errR r = 0
    ·rw [if_pos he]
     by_cases hf : (if a = [] then 0 else errI a) = 0
     ·rw [if_pos hf]
      simp only [QbA, KI8, qi4, if_true, if_false, ↓reduceIte, Nat.reduceAdd, Nat.reduceSub, Nat.reduceLeDiff, Nat.reduceEqDiff, Nat.reduceMul, Nat.reduceLT, Int.reduceLT, Int.reduceLE, Int.reduceEq, CO.tmps, Opd.tmps, optT, Nat.reducePow, Nat.reduceDiv, Nat.reduceMod, YaU, hn, g, Kqb, qrD, nmdV, Yot, rdT, rd1V, ZA2, zyA, iaaV, zcA, X8C, zoX, QdS, namE, zp0, qG9, JO5, YXy, s0, s1, s2, r1, r2, hix, wn, rn, he, hf, badC, Crd.v, tn_0, tn_1, tn_2, Nat.mul_one, Nat.zero_add, K6Y hh, ZbP hz, qyN hz, KN7 hz, Option.map_some, decide_true, decide_false, ne_eq, not_false_eq_true, not_true_eq_false, false_implies, forall_const, and_true, true_and, if_true, if_false]
      exact ⟨rfl, rfl, Bt.drop _ hh rfl rfl⟩
     ·rw [if_neg hf]
      simp only [QbA, KI8, qi4, if_true, if_false, ↓reduceIte, Nat.reduceAdd, Nat.reduceSub, Nat.reduceLeDiff, Nat.reduceEqDiff, Nat.reduceMul, Nat.reduceLT, Int.reduceLT, Int.reduceLE, Int.reduceEq, CO.tmps, Opd.tmps, optT, Nat.reducePow, Nat.reduceDiv, Nat.reduceMod, YaU, hn, g, Kqb, qrD, nmdV, Yot, rdT, rd1V, ZA2, zyA, iaaV, zcA, X8C, zoX, QdS, namE, zp0, qG9, JO5, YXy, s0, s1, s2, r1, r2, hix, wn, rn, he, eq_false hf, badC, Crd.v, tn_0, tn_1, tn_2, Nat.mul_one, Nat.zero_add, K6Y hh, ZbP hz, qyN hz, KN7 hz, Option.map_some, decide_true, decide_false, ne_eq, not_false_eq_true, not_true_eq_false, false_implies, forall_const, and_true, true_and, if_true, if_false]
      exact ⟨rfl, rfl, Bt.drop _ hh rfl rfl⟩
    ·rw [if_neg he]
     simp only [QbA, KI8, qi4, if_true, if_false, ↓reduceIte, Nat.reduceAdd, Nat.reduceSub, Nat.reduceLeDiff, Nat.reduceEqDiff, Nat.reduceMul, Nat.reduceLT, Int.reduceLT, Int.reduceLE, Int.reduceEq, CO.tmps, Opd.tmps, optT, Nat.reducePow, Nat.reduceDiv, Nat.reduceMod, YaU, hn, g, Kqb, qrD, nmdV, Yot, rdT, rd1V, ZA2, zyA, iaaV, zcA, X8C, zoX, QdS, namE, zp0, qG9, JO5, YXy, s0, s1, s2, r1, r2, hix, wn, rn, eq_false he, badC, Crd.v, tn_0, tn_1, tn_2, Nat.mul_one, Nat.zero_add, K6Y hh, ZbP hz, qyN hz, KN7 hz, Option.map_some, decide_true, decide_false, ne_eq, not_false_eq_true, not_true_eq_false, false_implies, forall_const, and_true, true_and, if_true, if_false]
     exact ⟨rfl, rfl, Bt.drop _ hh rfl rfl⟩
   ·rw [k1] at hk ⊢
    have hix : ixK (some w) YNH ZJf Kkh = 2 := hk
    have wn : IntKind.i64.wrap (2 + 1) = 3 := by decide
    have rn : Int.toNat 2 = 2 := rfl
    rw [show repE 3 r = errN r from rfl, show aftE 3 a = if a = [] then 0 else errR a from rfl]
    by_cases he : errN r = 0
    ·rw [if_pos he]
     by_cases hf : (if a = [] then 0 else errR a) = 0
     ·rw [if_pos hf]
      simp only [QbA, KI8, qi4, if_true, if_false, ↓reduceIte, Nat.reduceAdd, Nat.reduceSub, Nat.reduceLeDiff, Nat.reduceEqDiff, Nat.reduceMul, Nat.reduceLT, Int.reduceLT, Int.reduceLE, Int.reduceEq, CO.tmps, Opd.tmps, optT, Nat.reducePow, Nat.reduceDiv, Nat.reduceMod, YaU, hn, g, Kqb, qrD, nmdV, Yot, rdT, rd1V, ZA2, zyA, iaaV, zcA, X8C, zoX, QdS, namE, zp0, qG9, JO5, YXy, s0, s1, s2, r1, r2, hix, wn, rn, he, hf, badC, Crd.v, tn_0, tn_1, tn_2, Nat.mul_one, Nat.zero_add, K6Y hh, ZbP hz, qyN hz, KN7 hz, Option.map_some, decide_true, decide_false, ne_eq, not_false_eq_true, not_true_eq_false, false_implies, forall_const, and_true, true_and, if_true, if_false]
      exact ⟨rfl, rfl, Bt.drop _ hh rfl rfl⟩
     ·rw [if_neg hf]
      simp only [QbA, KI8, qi4, if_true, if_false, ↓reduceIte, Nat.reduceAdd, Nat.reduceSub, Nat.reduceLeDiff, Nat.reduceEqDiff, Nat.reduceMul, Nat.reduceLT, Int.reduceLT, Int.reduceLE, Int.reduceEq, CO.tmps, Opd.tmps, optT, Nat.reducePow, Nat.reduceDiv, Nat.reduceMod, YaU, hn, g, Kqb, qrD, nmdV, Yot, rdT, rd1V, ZA2, zyA, iaaV, zcA, X8C, zoX, QdS, namE, zp0, qG9, JO5, YXy, s0, s1, s2, r1, r2, hix, wn, rn, he, eq_false hf, badC, Crd.v, tn_0, tn_1, tn_2, Nat.mul_one, Nat.zero_add, K6Y hh, ZbP hz, qyN hz, KN7 hz, Option.map_some, decide_true, decide_false, ne_eq, not_false_eq_true, not_true_eq_false, false_implies, forall_const, and_true, true_and, if_true, if_false]
      exact ⟨rfl, rfl, Bt.drop _ hh rfl rfl⟩
    ·rw [if_neg he]
     simp only [QbA, KI8, qi4, if_true, if_false, ↓reduceIte, Nat.reduceAdd, Nat.reduceSub, Nat.reduceLeDiff, Nat.reduceEqDiff, Nat.reduceMul, Nat.reduceLT, Int.reduceLT, Int.reduceLE, Int.reduceEq, CO.tmps, Opd.tmps, optT, Nat.reducePow, Nat.reduceDiv, Nat.reduceMod, YaU, hn, g, Kqb, qrD, nmdV, Yot, rdT, rd1V, ZA2, zyA, iaaV, zcA, X8C, zoX, QdS, namE, zp0, qG9, JO5, YXy, s0, s1, s2, r1, r2, hix, wn, rn, eq_false he, badC, Crd.v, tn_0, tn_1, tn_2, Nat.mul_one, Nat.zero_add, K6Y hh, ZbP hz, qyN hz, KN7 hz, Option.map_some, decide_true, decide_false, ne_eq, not_false_eq_true, not_true_eq_false, false_implies, forall_const, and_true, true_and, if_true, if_false]
     exact ⟨rfl, rfl, Bt.drop _ hh rfl rfl⟩
theorem Xev : Spec Try.prog 19 zs6 := by
 intro args h v h' e
 unfold zs6 at e
 split at e
 ·split at e
  ·rename_i hs
   cases e
   exact FnAt.c (FnAt.frz0 fun hz => YDZ hz hs)
  ·cases e
 ·cases e
end Go.Proofs.Ytbcpcjofkfgjoaa
end
section
namespace Go.Proofs.Ytbcpcjofkfgjoaa
def tl0 : List (Option TC) := [none, none, none, none, none, some (.cf w5), none, none, none, none, none, some (.cf w11), none, some (.cf w13), none, some (.cf w15)]
theorem ta0 : AllN Try.prog 0 tl0 := (AllN.skip (AllN.skip (AllN.skip (AllN.skip (AllN.skip (AllN.cons Try.func5 sw5 (AllN.skip (AllN.skip (AllN.skip (AllN.skip (AllN.skip (AllN.cons Try.func11 sw11 (AllN.skip (AllN.cons Try.func13 sw13 (AllN.skip (AllN.cons Try.func15 sw15 trivial))))))))))))))))
def tl1 : List (Option TC) := [none, some (.cf w17), none, some (.cf w19), none, some (.cf w21), none, some (.cf w23), some (.cf w24), some (.cf w25), none, none, none, none, none, none]
theorem ta1 : AllN Try.prog 16 tl1 := (AllN.skip (AllN.cons Try.func17 sw17 (AllN.skip (AllN.cons Try.func19 sw19 (AllN.skip (AllN.cons Try.func21 sw21 (AllN.skip (AllN.cons Try.func23 sw23 (AllN.cons Try.func24 sw24 (AllN.cons Try.func25 sw25 (AllN.skip (AllN.skip (AllN.skip (AllN.skip (AllN.skip (AllN.skip trivial))))))))))))))))
def tl2 : List (Option TC) := [none, none, some (.cf w34), some (.cf w35), some (.nv zMA), some (.cf w37), none, some (.cf w39), some (.cf w40), some (.cf w41), some (.cf w42), none, none, none, none, none]
theorem ta2 : AllN Try.prog 32 tl2 := (AllN.skip (AllN.skip (AllN.cons Try.func34 sw34 (AllN.cons Try.func35 sw35 (AllN.nv zSO (AllN.cons Try.func37 sw37 (AllN.skip (AllN.cons Try.func39 sw39 (AllN.cons Try.func40 sw40 (AllN.cons Try.func41 sw41 (AllN.cons Try.func42 sw42 (AllN.skip (AllN.skip (AllN.skip (AllN.skip (AllN.skip trivial))))))))))))))))
def tl3 : List (Option TC) := [none, some (.cf w49), some (.cf w50), some (.cf w51), none, none, none, some (.cf w55), some (.cf w56), some (.cf w57), some (.cf w58), some (.cf w59), none, none, none, none]
theorem ta3 : AllN Try.prog 48 tl3 := (AllN.skip (AllN.cons Try.func49 sw49 (AllN.cons Try.func50 sw50 (AllN.cons Try.func51 sw51 (AllN.skip (AllN.skip (AllN.skip (AllN.cons Try.func55 sw55 (AllN.cons Try.func56 sw56 (AllN.cons Try.func57 sw57 (AllN.cons Try.func58 sw58 (AllN.cons Try.func59 sw59 (AllN.skip (AllN.skip (AllN.skip (AllN.skip trivial))))))))))))))))
def tl4 : List (Option TC) := [none, none, none, none, none, some (.cf w69), some (.cf w70), some (.cf w71), some (.cf w72), some (.cf w73), some (.cf w74), some (.cf w75), some (.cf w76), none, none, none]
theorem ta4 : AllN Try.prog 64 tl4 := (AllN.skip (AllN.skip (AllN.skip (AllN.skip (AllN.skip (AllN.cons Try.func69 sw69 (AllN.cons Try.func70 sw70 (AllN.cons Try.func71 sw71 (AllN.cons Try.func72 sw72 (AllN.cons Try.func73 sw73 (AllN.cons Try.func74 sw74 (AllN.cons Try.func75 sw75 (AllN.cons Try.func76 sw76 (AllN.skip (AllN.skip (AllN.skip trivial))))))))))))))))
def tl5 : List (Option TC) := [none, none, none, none, some (.cf w84), some (.cf w85), some (.cf w86), some (.cf w87), some (.cf w88), some (.cf w89), some (.cf w90), some (.cf w91), some (.cf w92), some (.cf w93), some (.cf w94), some (.cf w95)]
theorem ta5 : AllN Try.prog 80 tl5 := (AllN.skip (AllN.skip (AllN.skip (AllN.skip (AllN.cons Try.func84 sw84 (AllN.cons Try.func85 sw85 (AllN.cons Try.func86 sw86 (AllN.cons Try.func87 sw87 (AllN.cons Try.func88 sw88 (AllN.cons Try.func89 sw89 (AllN.cons Try.func90 sw90 (AllN.cons Try.func91 sw91 (AllN.cons Try.func92 sw92 (AllN.cons Try.func93 sw93 (AllN.cons Try.func94 sw94 (AllN.cons Try.func95 sw95 trivial))))))))))))))))
def tl6 : List (Option TC) := [some (.cf w96), none, some (.cf w98), some (.cf w99), some (.cf w100), none, none, none, none, none, none, none, none, none, none, none]
theorem ta6 : AllN Try.prog 96 tl6 := (AllN.cons Try.func96 sw96 (AllN.skip (AllN.cons Try.func98 sw98 (AllN.cons Try.func99 sw99 (AllN.cons Try.func100 Xjs (AllN.skip (AllN.skip (AllN.skip (AllN.skip (AllN.skip (AllN.skip (AllN.skip (AllN.skip (AllN.skip (AllN.skip (AllN.skip trivial))))))))))))))))
def tls : List (List (Option TC)) := [tl0, tl1, tl2, tl3, tl4, tl5, tl6]
noncomputable def TT : TB := tabn tls
theorem KOz : JHJ Try.prog TT := JGS tls (AllNs.cons ta0 (AllNs.cons ta1 (AllNs.cons ta2 (AllNs.cons ta3 (AllNs.cons ta4 (AllNs.cons ta5 (AllNs.cons ta6 trivial)))))))
end Go.Proofs.Ytbcpcjofkfgjoaa
end
section
namespace Go.Proofs.Ytbcpcjofkfgjoaa
set_option maxRecDepth 100000
set_option maxHeartbeats 4000000
def Jq4 : List AV → List AB → Option (AV × List AB)
 | [], h => some (.b true, h)
 | _, _ => none
end Go.Proofs.Ytbcpcjofkfgjoaa
end
section
namespace Go.Proofs.Ytbcpcjofkfgjoaa
theorem ct5 : runT TT 60 w5 = true := by kernel_rfl
theorem fc5 (h : List AB) : FnC Try.prog 5 [] h (.b true) h := FnC.closed (by kernel_rfl) KOz 60 5 (by kernel_rfl) ct5 h
end Go.Proofs.Ytbcpcjofkfgjoaa
end
section
namespace Go.Proofs.Ytbcpcjofkfgjoaa
set_option maxRecDepth 100000
set_option maxHeartbeats 4000000
theorem QPL (q : RQ) : ZJo q 58 = none := by
 obtain ⟨n, k⟩ := q
 cases k <;> simp [ZJo, q8f, lowP]
theorem Jm4 : ∀ (s : List UInt8) (pos : Nat) (q : RQ), runB ZJo XV3 s pos q = none → ∀ b ∈ s, b ≠ 58
 | [], _, _, _ => fun b hb => by cases hb
 | c :: s, pos, q, h => by
  intro b hb
  unfold runB at h
  split at h
  ·cases h
  ·rename_i q' e
   rcases List.mem_cons.1 hb with rfl | hb
   ·intro z
    subst z
    have : (if (58 : UInt8).toNat < 128 then ZJo q ((58 : UInt8).toNat : Int) else none) = none := by
     rw [if_pos (by decide)]
     exact QPL q
    rw [this] at e
    cases e
   ·exact Jm4 s (pos + 1) q' h b hb
theorem ZEd {k : Int} {r : List UInt8} (h : repE k r = 0) : ∀ b ∈ r, b ≠ 58 := by
 unfold repE at h
 split at h
 ·unfold errN at h
  split at h
  ·rename_i hz
   subst hz
   intro b hb
   cases hb
  ·cases h
 ·unfold errR at h
  split at h
  ·rename_i hg
   exact Jm4 _ _ _ hg.2
  ·cases h
theorem XBM : ∀ (x y : List UInt8) (i : Nat), (∀ b ∈ x, b ≠ 58) → ZKp (x ++ 58 :: y) i = some (i + x.length)
 | [], y, i, _ => rfl
 | b :: x, y, i, h => by
  have hb : b ≠ 58 := h b List.mem_cons_self
  show (if b = 58 then some i else ZKp (x ++ 58 :: y) (i + 1)) = _
  rw [if_neg hb, XBM x y (i + 1) (fun c hc => h c (List.mem_cons_of_mem _ hc)), List.length_cons]
  congr 1
  omega
theorem Kbg (p x y : List UInt8) (h : ∀ b ∈ x, b ≠ 58) : zWb (p ++ (x ++ 58 :: y)) p.length = some (p.length + x.length) := by
 unfold zWb
 rw [List.drop_left' rfl]
 exact XBM x y _ h
theorem ql1 {k : Int} (h : k = 1 ∨ k = 2 ∨ k = 3) : (∀ b ∈ XQH k, b ≠ 58) ∧ QF1 (XQH k) = k ∧ (XQH k).length ≤ 9 := by
 rcases h with rfl | rfl | rfl <;> decide
theorem JqZ {k : Int} {r a : List UInt8} (h : chkE k r a = 0) : repE k r = 0 ∧ aftE k a = 0 := by
 unfold chkE at h
 split at h
 ·cases h
 ·split at h
  ·rename_i e
   exact ⟨e, h⟩
  ·rename_i e
   exact absurd h e
theorem Q95 {k : Int} {r a : List UInt8} (h : chkE k r a = 0) : zfC (Ygt k r a) = ⟨k, r, a, 0, 0⟩ := by
 obtain ⟨w1, w2, -⟩ := ql1 (Q74 h)
 obtain ⟨h1, h2⟩ := JqZ h
 have hr := ZEd h1
 have k0 : k ≠ 0 := by have := Q74 h; omega
 have e1 : Ygt k r a = [] ++ (XQH k ++ 58 :: (r ++ 58 :: a)) := by unfold Ygt; simp
 have e2 : Ygt k r a = (XQH k ++ [58]) ++ (r ++ 58 :: a) := by unfold Ygt; simp
 have e3 : Ygt k r a = (XQH k ++ [58] ++ r) ++ (58 :: a) := by unfold Ygt; simp
 have e4 : Ygt k r a = (XQH k ++ [58] ++ r ++ [58]) ++ a := by unfold Ygt; simp
 have c1 : zWb (Ygt k r a) 0 = some (XQH k).length := by
  rw [e1]
  have := Kbg [] (XQH k) (r ++ 58 :: a) w1
  rw [List.length_nil, Nat.zero_add] at this
  exact this
 have c2 : zWb (Ygt k r a) ((XQH k).length + 1) = some ((XQH k).length + 1 + r.length) := by
  rw [e2]
  have := Kbg (XQH k ++ [58]) r a hr
  rw [List.length_append, List.length_singleton] at this
  exact this
 have t1 : (Ygt k r a).take (XQH k).length = XQH k := by rw [e1, List.nil_append, List.take_left' rfl]
 have t2 : ((Ygt k r a).take ((XQH k).length + 1 + r.length)).drop ((XQH k).length + 1) = r := by
  rw [e3, List.take_left' (by simp only [List.length_append, List.length_singleton]), List.drop_left' (by simp only [List.length_append, List.length_singleton])]
 have t3 : (Ygt k r a).drop ((XQH k).length + 1 + r.length + 1) = a := by rw [e4, List.drop_left' (by simp only [List.length_append, List.length_singleton])]
 unfold zfC JPB
 rw [c1]
 dsimp only
 rw [c2, t1, w2, if_neg k0]
 dsimp only
 rw [t2, t3, if_pos h1, if_pos h2]
theorem YHy {s : List UInt8} {p : Nat} (h : p < s.length) (e : s.getD p 0 = 58) : s = s.take p ++ 58 :: s.drop (p + 1) := by
 have : s[p] = 58 := by
  rw [List.getD_eq_getElem?_getD, List.getElem?_eq_getElem h] at e
  exact e
 conv => lhs; rw [← List.take_append_drop p s, List.drop_eq_getElem_cons h, this]
theorem qhI {w : List UInt8} (h : QF1 w ≠ 0) : XQH (QF1 w) = w ∧ ¬ (QF1 w < 1 ∨ 3 < QF1 w) := by
 unfold QF1 at h ⊢
 repeat' split
 all_goals simp_all [XQH]
theorem YBt {s : List UInt8} (h : (zfC s).e = 0) : chkE (zfC s).k (zfC s).r (zfC s).a = 0 ∧ Ygt (zfC s).k (zfC s).r (zfC s).a = s := by
 unfold zfC at h ⊢
 split at h
 ·cases h
 ·rename_i one h1
  obtain ⟨-, l1, g1⟩ := qsK h1
  split at h
  ·cases h
  ·rename_i k0
   rw [if_neg k0]
   obtain ⟨kw, kin⟩ := qhI k0
   unfold JPB at h ⊢
   split at h
   ·cases h
   ·rename_i two h2
    obtain ⟨l2, l3, g2⟩ := qsK h2
    try dsimp only at h ⊢
    split at h
    ·rename_i r0
     rw [if_pos r0]
     split at h
     ·rename_i a0
      rw [if_pos a0]
      refine ⟨?_, ?_⟩
      ·dsimp only
       unfold chkE
       rw [if_neg kin, if_pos r0, a0]
      ·dsimp only
       unfold Ygt
       rw [kw]
       have s1 := YHy l1 g1
       have s2 := YHy l3 g2
       have s3 : s.drop (one + 1) = (s.take two).drop (one + 1) ++ 58 :: s.drop (two + 1) := by
        conv => lhs; rw [s2]
        rw [List.drop_append_of_le_length (by rw [List.length_take]; omega)]
       rw [s3] at s1
       conv => rhs; rw [s1]
       simp only [List.append_assoc, List.cons_append, List.nil_append]
     ·rename_i a0
      exact absurd h a0
    ·rename_i r0
     exact absurd h r0
theorem zO2 {s : List UInt8} (h : (zfC s).e ≠ 0) : (zfC s).k = 0 ∧ (zfC s).r = [] ∧ (zfC s).a = [] ∧ 0 ≤ (zfC s).p ∧ (zfC s).p ≤ s.length := by
 unfold zfC at h ⊢
 split at h
 ·exact ⟨rfl, rfl, rfl, by decide, by show (0 : Int) ≤ _; omega⟩
 ·rename_i one h1
  obtain ⟨-, l1, g1⟩ := qsK h1
  split at h
  ·rename_i k0
   rw [if_pos k0]
   exact ⟨rfl, rfl, rfl, by decide, by show (0 : Int) ≤ _; omega⟩
  ·rename_i k0
   rw [if_neg k0]
   unfold JPB at h ⊢
   split at h
   ·exact ⟨rfl, rfl, rfl, by show (0 : Int) ≤ (s.length : Int); omega, by show (s.length : Int) ≤ _; omega⟩
   ·rename_i two h2
    obtain ⟨l2, l3, g2⟩ := qsK h2
    try dsimp only at h ⊢
    split at h
    ·rename_i r0
     rw [if_pos r0]
     split at h
     ·exact absurd rfl h
     ·rename_i a0
      rw [if_neg a0]
      exact ⟨rfl, rfl, rfl, by show (0 : Int) ≤ ((two + 1 : Nat) : Int); omega, by show ((two + 1 : Nat) : Int) ≤ _; omega⟩
    ·rename_i r0
     rw [if_neg r0]
     exact ⟨rfl, rfl, rfl, by show (0 : Int) ≤ ((one + 1 : Nat) : Int); omega, by show ((one + 1 : Nat) : Int) ≤ _; omega⟩
theorem KjW {k : Int} {r a : List UInt8} (h : k = 1 ∨ k = 2 ∨ k = 3) : r.length ≤ (Ygt k r a).length ∧ a.length ≤ (Ygt k r a).length ∧ (Ygt k r a).length ≤ r.length + a.length + 11 := by
 have := (ql1 h).2.2
 unfold Ygt
 simp only [List.length_append, List.length_cons, List.length_nil]
 omega
theorem JKH : Spec Try.prog 5 Jq4 := by
 intro args h v h' e
 unfold Jq4 at e
 split at e
 ·cases e
  exact fc5 h
 ·cases e
theorem YNB {h : List AB} (_ : h.map AB.freeze = h) (k : Int) (r a s : List UInt8) : FnAt Try.prog 8 [.ag [.i .i64 k, .s r, .s a], .s s] h (.b true) h := by
 refine FnAt.run (by kernel_rfl) (T := ⟨[⟨5, Jq4, fun _ => []⟩, ⟨17, Kzg, fun _ => []⟩, ⟨19, zs6, fun _ => []⟩, ⟨21, JqV, fun _ => []⟩], []⟩) ⟨⟨JKH, Jtv, Xev, Xta, trivial⟩, trivial⟩ Try.func8 sw8 fun ho hh => ?_
 unfold w8
 by_cases g1 : (300 : Int) < (r.length : Int)
 ·have g1' := eq_true g1
  simp only [KXL, JuQ, QbA, KI8, qi4, simprocAttr, CO.tmps, Opd.tmps, optT, Nat.reducePow, Nat.reduceDiv, Nat.reduceMod, g1', Jq4, zcA, X8C, decide_true, decide_false, ne_eq, not_false_eq_true, not_true_eq_false, false_implies, forall_const, and_true, true_and]
  exact Bt.dropB _ hh rfl
 have g1' := eq_false g1
 by_cases g2 : (300 : Int) < (a.length : Int)
 ·have g2' := eq_true g2
  simp only [KXL, JuQ, QbA, KI8, qi4, simprocAttr, CO.tmps, Opd.tmps, optT, Nat.reducePow, Nat.reduceDiv, Nat.reduceMod, g1', g2', Jq4, zcA, X8C, decide_true, decide_false, ne_eq, not_false_eq_true, not_true_eq_false, false_implies, forall_const, and_true, true_and]
  exact Bt.dropB _ hh rfl
 have g2' := eq_false g2
 by_cases g3 : (300 : Int) < (s.length : Int)
 ·have g3' := eq_true g3
  simp only [KXL, JuQ, QbA, KI8, qi4, simprocAttr, CO.tmps, Opd.tmps, optT, Nat.reducePow, Nat.reduceDiv, Nat.reduceMod, g1', g2', g3', Jq4, zcA, X8C, decide_true, decide_false, ne_eq, not_false_eq_true, not_true_eq_false, false_implies, forall_const, and_true, true_and]
  exact Bt.dropB _ hh rfl
 have g3' := eq_false g3
 have l1 : (r.length ≤ 1000000) = True := eq_true (by omega)
 have l2 : (a.length ≤ 1000000) = True := eq_true (by omega)
 have l3 : (s.length ≤ 1000000) = True := eq_true (by omega)
 have n1 : ¬ 1000000 < r.length := by omega
 have hok := fun z => YBt (s := s) z
 have hbad := fun z => zO2 (s := s) z
 obtain ⟨ck, cr, ca, ce, cp, hC⟩ : ∃ ck cr ca ce cp, zfC s = ⟨ck, cr, ca, ce, cp⟩ := ⟨_, _, _, _, _, rfl⟩
 rw [hC] at hok hbad
 dsimp only at hok hbad
 have q3 : JJx [CK.i, CK.s, CK.s] [.i .i64 k, .s r, .s a] [.i .i64 k, .s r, .s a] = some true := by simp [JJx, Yng]
 have q4 : JJx [CK.i, CK.i] [.i .i64 0, .i .i64 0] [.i .i64 0, .i .i64 0] = some true := rfl
 have q5 : JJx [CK.i, CK.s, CK.s] [.i .i64 0, .s [], .s []] [.i .i64 0, .s [], .s []] = some true := rfl
 have hcc : (chkE k r a = chkE k r a) = True := eq_true rfl
 by_cases he : ce = 0
 ·subst he
  obtain ⟨y1, y2⟩ := hok rfl
  have yl := KjW (r := cr) (a := ca) (Q74 y1)
  rw [y2] at yl
  have l4 : (cr.length ≤ 1000000) = True := eq_true (by omega)
  have l5 : (ca.length ≤ 1000000) = True := eq_true (by omega)
  have hss : (s = s) = True := eq_true rfl
  by_cases hc : chkE k r a = 0
  ·have hR := Q95 hc
   have tl := KjW (r := r) (a := a) (Q74 hc)
   have l6 : ((Ygt k r a).length ≤ 1000000) = True := eq_true (by omega)
   simp only [KXL, JuQ, QbA, KI8, qi4, simprocAttr, CO.tmps, Opd.tmps, optT, Nat.reducePow, Nat.reduceDiv, Nat.reduceMod, g1', g2', g3', Jq4, Kzg, zs6, JqV, txtV, Crd.v, hC, hR, hc, y1, y2, hss, l1, l2, l3, l4, l5, l6, q3, q4, q5, XsR, zcA, X8C, decide_true, decide_false, ne_eq, not_false_eq_true, not_true_eq_false, false_implies, forall_const, and_true, true_and, if_true]
   exact Bt.dropB _ hh rfl
  ·simp only [KXL, JuQ, QbA, KI8, qi4, simprocAttr, CO.tmps, Opd.tmps, optT, Nat.reducePow, Nat.reduceDiv, Nat.reduceMod, g1', g2', g3', Jq4, Kzg, zs6, JqV, txtV, Crd.v, hC, eq_false hc, hcc, y1, y2, hss, l1, l2, l3, l4, l5, q3, q4, q5, XsR, zcA, X8C, decide_true, decide_false, ne_eq, not_false_eq_true, not_true_eq_false, false_implies, forall_const, and_true, true_and, if_true]
   exact Bt.dropB _ hh rfl
 ·obtain ⟨rfl, rfl, rfl, b1, b2⟩ := hbad he
  have b1' := eq_true b1
  have b2' := eq_true b2
  have he' := eq_false he
  by_cases hc : chkE k r a = 0
  ·have hR := Q95 hc
   have tl := KjW (r := r) (a := a) (Q74 hc)
   have l6 : ((Ygt k r a).length ≤ 1000000) = True := eq_true (by omega)
   simp only [KXL, JuQ, QbA, KI8, qi4, simprocAttr, CO.tmps, Opd.tmps, optT, Nat.reducePow, Nat.reduceDiv, Nat.reduceMod, g1', g2', g3', Jq4, Kzg, zs6, JqV, txtV, Crd.v, hC, hR, hc, he', b1', b2', l1, l2, l3, l6, q3, q4, q5, XsR, zcA, X8C, decide_true, decide_false, ne_eq, not_false_eq_true, not_true_eq_false, false_implies, forall_const, and_true, true_and, if_true]
   exact Bt.dropB _ hh rfl
  ·simp only [KXL, JuQ, QbA, KI8, qi4, simprocAttr, CO.tmps, Opd.tmps, optT, Nat.reducePow, Nat.reduceDiv, Nat.reduceMod, g1', g2', g3', Jq4, Kzg, zs6, JqV, txtV, Crd.v, hC, eq_false hc, hcc, he', b1', b2', l1, l2, l3, q3, q4, q5, XsR, zcA, X8C, decide_true, decide_false, ne_eq, not_false_eq_true, not_true_eq_false, false_implies, forall_const, and_true, true_and, if_true]
   exact Bt.dropB _ hh rfl
end Go.Proofs.Ytbcpcjofkfgjoaa
end
