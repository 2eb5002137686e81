/- Part 25 of what the laws' proofs rest on. No condition. -/
import Derived.Test.YtebcngelgdpbjaaGreatGp24
set_option linter.all false
section
namespace Go.Proofs.YtebcngelgdpbjaaGreat
set_option maxRecDepth 100000
set_option maxHeartbeats 4000000
def oddI (n : Int) : Prop := n < 0 ∨ 1048576 < n
instance (n : Int) : Decidable (oddI n) := inferInstanceAs (Decidable (_ ∨ _))
def J71 : List AV → List AB → Option (AV × List AB)
 | [.i .i64 n], h => some (.b (decide (oddI n)), h)
 | _, _ => none
theorem JtP : Spec Tryz.prog 127 J71 := by
  intro args h v h' e
  unfold J71 at e
  split at e
  · rename_i n
    cases e
    refine FnAt.c (FnAt.run (by kernel_rfl) (T := ⟨[], []⟩) ⟨trivial, trivial⟩ Tryz.func127 X1r fun ho hh => ?_)
    unfold w127
    rcases emG (n < 0) with q1 | q1 <;> rcases emG (1048576 < n) with q2 | q2 <;>
      (simp only [QhU, YqB, z16, KHD, Xq6, simprocAttr, CO.tmps, Opd.tmps, optT, Nat.reducePow, Nat.reduceDiv, Nat.reduceMod, q1, q2, decide_true, decide_false, ne_eq, not_false_eq_true, not_true_eq_false, false_implies, forall_const, and_true, true_and]
       exact Bt.dropB _ hh (by simp [oddI, q1, q2]))
  · cases e
noncomputable def QMp : List AV → List AB → Option (AV × List AB)
 | [s, .f (.func f) [] []], h => if f = 127 then (getS intR h s).bind fun l => some (.b (decide (∃ x ∈ l, oddI x)), h) else none
 | _, _ => none
theorem QU9 : Spec Tryz.prog 128 QMp := by
 intro args h v h' e
 unfold QMp at e
 split at e
 ·rename_i s f
  split at e
  ·rename_i hf
   subst hf
   obtain ⟨l, hs, e⟩ := zZy e
   cases e
   exact QIQ (T := ⟨[⟨127, J71, fun _ => []⟩], []⟩) ⟨⟨JtP, trivial⟩, trivial⟩ (fun x H => rfl) hs
  ·cases e
 ·cases e
def zXI (x : EvtA) : Prop := x.kind = 3 ∨ x.kind = 4
instance (x : EvtA) : Decidable (zXI x) := inferInstanceAs (Decidable (_ ∨ _))
noncomputable def QeF : List AV → List AB → Option (AV × List AB)
 | [a], h => (getE a).bind fun x => some (.b (decide (zXI x)), h)
 | _, _ => none
theorem QFg : Spec Tryz.prog 76 QeF := by
  intro args h v h' e
  unfold QeF at e
  split at e
  · obtain ⟨x, hx, e2⟩ := Kc6 e
    clear e
    subst hx
    cases e2
    refine FnAt.c (FnAt.run (by kernel_rfl) (T := ⟨[], []⟩) ⟨trivial, trivial⟩ Tryz.func76 sw76 fun ho hh => ?_)
    obtain ⟨a0, a1, a2, a3, a4, a5, a6⟩ := Zxc x
    have w1 := Q7m x
    have l1 := YXj x
    have c1 : ∀ l : List AV, (AV.ag l).cells = l := fun _ => rfl
    unfold w76
    rcases emG (x.kind = 3) with q1 | q1 <;> rcases emG (x.kind = 4) with q2 | q2 <;>
      (simp only [QhU, YqB, z16, KHD, Xq6, simprocAttr, CO.tmps, Opd.tmps, optT, Nat.reducePow, Nat.reduceDiv, Nat.reduceMod, a3, w1, l1, c1, q1, q2, if_true, decide_true, decide_false, ne_eq, not_false_eq_true, not_true_eq_false, false_implies, forall_const, and_true, true_and]
       exact Bt.dropB _ hh (by simp [zXI, q1, q2]))
  · cases e
end Go.Proofs.YtebcngelgdpbjaaGreat
end
section
namespace Go.Proofs.YtebcngelgdpbjaaGreat
set_option maxRecDepth 100000
set_option maxHeartbeats 4000000
def K4G (s : List UInt8) : Prop := ¬ (128 : Int) < (s.length : Int) ∧ runB KGW zcI s 0 ⟨7, .w⟩ = none
def KAc (s : List UInt8) : Prop := ¬ (64 : Int) < (s.length : Int) ∧ runB zdl z0i s 0 .first = none
instance (s : List UInt8) : Decidable (K4G s) := inferInstanceAs (Decidable (_ ∧ _))
instance (s : List UInt8) : Decidable (KAc s) := inferInstanceAs (Decidable (_ ∧ _))
theorem Xcw (s : List UInt8) : ∃ e p : Int, KRN s = .ag [.i .i64 e, .i .i64 p] ∧ qN8 [.i, .i] [.i .i64 e, .i .i64 p] [.i .i64 0, .i .i64 0] = some (decide (K4G s)) := by
 by_cases hk : K4G s
 ·have : KRN s = .ag [.i .i64 0, .i .i64 0] := by
   unfold KRN
   rw [if_neg hk.1, hk.2]
   rfl
  exact ⟨0, 0, this, by rw [decide_eq_true hk]; rfl⟩
 ·have : ∃ e p : Int, e ≠ 0 ∧ KRN s = .ag [.i .i64 e, .i .i64 p] := by
   unfold KRN
   by_cases g : (128 : Int) < (s.length : Int)
   ·rw [if_pos g]
    exact ⟨4, 128, by decide, rfl⟩
   ·rw [if_neg g]
    cases hr : runB KGW zcI s 0 ⟨7, .w⟩ with
    | none => exact absurd ⟨g, hr⟩ hk
    | some n => exact ⟨7, n, by decide, rfl⟩
  obtain ⟨e, p, h1, h2⟩ := this
  exact ⟨e, p, h2, by rw [decide_eq_false hk]; simp [qN8, XC1, h1]⟩
theorem KyC (s : List UInt8) : ∃ e p : Int, tagV s = .ag [.i .i64 e, .i .i64 p] ∧ qN8 [.i, .i] [.i .i64 e, .i .i64 p] [.i .i64 0, .i .i64 0] = some (decide (KAc s)) := by
 by_cases hk : KAc s
 ·have : tagV s = .ag [.i .i64 0, .i .i64 0] := by
   unfold tagV
   rw [if_neg hk.1, hk.2]
   rfl
  exact ⟨0, 0, this, by rw [decide_eq_true hk]; rfl⟩
 ·have : ∃ e p : Int, e ≠ 0 ∧ tagV s = .ag [.i .i64 e, .i .i64 p] := by
   unfold tagV
   by_cases g : (64 : Int) < (s.length : Int)
   ·rw [if_pos g]
    exact ⟨4, 64, by decide, rfl⟩
   ·rw [if_neg g]
    cases hr : runB zdl z0i s 0 .first with
    | none => exact absurd ⟨g, hr⟩ hk
    | some n => exact ⟨7, n, by decide, rfl⟩
  obtain ⟨e, p, h1, h2⟩ := this
  exact ⟨e, p, h2, by rw [decide_eq_false hk]; simp [qN8, XC1, h1]⟩
def fitE (x : EvtA) (l : List Int) (n : Int) : Int :=
 if x.dot.1 < 1 then 2 else if n < x.dot.1 then 2 else if x.dot.2 < 1 then 2 else if 1048576 < x.dot.2 then 2 else if (l.length : Int) ≠ n then 2 else if ∃ y ∈ l, oddI y then 2
 else if l.getD (x.dot.1 - 1).toNat 0 ≠ x.dot.2 - 1 then 2 else if x.kind < 1 ∨ 4 < x.kind then 5 else if ¬ K4G x.repo ∨ (zXI x ∧ ¬ KAc x.tag) then 7 else 0
noncomputable def ZTW : List AV → List AB → Option (AV × List AB)
 | [a, .i .i64 n], h => (getE a).bind fun x => (getS intR h x.deps.a).bind fun l => if x.repo.length ≤ 1000000 ∧ x.tag.length ≤ 1000000 ∧ n ≤ 1000 then some (.i .i64 (fitE x l n), h) else none
 | _, _ => none
theorem YC3 : Spec Tryz.prog 63 ZTW := by
 intro args h v h' e
 unfold ZTW at e
 split at e
 ·rename_i a n
  obtain ⟨x, hx, e2⟩ := Kc6 e
  clear e
  subst hx
  obtain ⟨l, hs, e3⟩ := zZy e2
  clear e2
  split at e3
  ·rename_i hc
   cases e3
   refine FnAt.c (FnAt.frz0 fun hz => ?_)
   have hs2 := hs.frz
   clear hs
   generalize h.map AB.freeze = h at *
   refine FnAt.run (by kernel_rfl) (T := ⟨[⟨128, QMp, fun _ => []⟩, ⟨124, Yja, fun _ => []⟩, ⟨123, qGK, fun _ => []⟩, ⟨76, QeF, fun _ => []⟩], []⟩) ⟨⟨QU9, zGG, qPE, QFg, trivial⟩, trivial⟩ Tryz.func63 sw63 fun ho hh => ?_
   simp only [XDA, Bool.and_eq_true] at ho
   obtain ⟨a0, a1, a2, a3, a4, a5, a6⟩ := Zxc x
   have od : x.deps.a.ok (fun i => decide (i < h.length)) = true := by
    have := ho.1
    simp only [AV.ok] at this
    exact zFH.1 this 2 _ a2
   have oe : okL (fun i => decide (i < h.length)) (evtF x) = true := by
    have := ho.1
    simpa only [AV.ok] using this
   have oe1 : ∀ c, okL (fun i => decide (i < h.length + c)) (evtF x) = true := fun c => KAd (fun i q => by simp only [decide_eq_true_eq] at q ⊢; omega) _ oe
   have oe2 : ∀ c lo hi anc past, okL (qOk (h.length + c) lo hi anc past) (evtF x) = true := fun c lo hi anc past => KAd (fun i q => by simp only [decide_eq_true_eq] at q; simp only [qOk, Bool.or_eq_true, Nat.blt_eq]; omega) _ oe
   have od1 : ∀ c, x.deps.a.ok (fun i => decide (i < h.length + c)) = true := fun c => zFH.1 (oe1 c) 2 _ a2
   have od2 : ∀ c lo hi anc past, x.deps.a.ok (qOk (h.length + c) lo hi anc past) = true := fun c lo hi anc past => zFH.1 (oe2 c lo hi anc past) 2 _ a2
   have f1 := hs2.fx od (sz := 1) rfl
   have gx : ∀ y, getS intR (h ++ y) x.deps.a = some l := fun y => (hs2.app y).get
   have w1 := Q7m x
   have l1 := YXj x
   have lt : (evtF x).take 39 = evtF x := List.take_of_length_le (by rw [l1]; exact Nat.le_refl _)
   have c1 : ∀ l : List AV, (AV.ag l).cells = l := fun _ => rfl
   obtain ⟨re, rp, r1, r2⟩ := Xcw x.repo
   obtain ⟨te, tp', t1, t2⟩ := KyC x.tag
   have cr := eq_true hc.1
   have ct := eq_true hc.2.1
   unfold w63 fitE
   rcases emG (x.dot.1 < 1) with q1 | q1
   ·rw [if_pos (of_eq_true q1)]
    simp only [QhU, YqB, z16, KHD, Xq6, if_true, if_false, ↓reduceIte, Nat.reduceAdd, Nat.reduceSub, Nat.reduceLeDiff, Nat.reduceEqDiff, Nat.reduceMul, Nat.reduceLT, Int.reduceLT, Int.reduceLE, Int.reduceEq, CO.tmps, Opd.tmps, optT, Nat.reducePow, Nat.reduceDiv, Nat.reduceMod, q1, oe1, oe2, od1, od2, a0, a1, a2, a3, a4, a5, w1, l1, c1, f1, gx, XUr hh, Ygl hz, QqT hz, qNP hz, if_true, decide_true, decide_false, ne_eq, not_false_eq_true, not_true_eq_false, false_implies, forall_const, and_true, true_and]
    exact Bt.drop _ hh rfl rfl
   rw [if_neg (of_eq_false q1)]
   rcases emG (n < x.dot.1) with q2 | q2
   ·rw [if_pos (of_eq_true q2)]
    simp only [QhU, YqB, z16, KHD, Xq6, if_true, if_false, ↓reduceIte, Nat.reduceAdd, Nat.reduceSub, Nat.reduceLeDiff, Nat.reduceEqDiff, Nat.reduceMul, Nat.reduceLT, Int.reduceLT, Int.reduceLE, Int.reduceEq, CO.tmps, Opd.tmps, optT, Nat.reducePow, Nat.reduceDiv, Nat.reduceMod, q1, q2, oe1, oe2, od1, od2, a0, a1, a2, a3, a4, a5, w1, l1, c1, f1, gx, XUr hh, Ygl hz, QqT hz, qNP hz, if_true, decide_true, decide_false, ne_eq, not_false_eq_true, not_true_eq_false, false_implies, forall_const, and_true, true_and]
    exact Bt.drop _ hh rfl rfl
   rw [if_neg (of_eq_false q2)]
   rcases emG (x.dot.2 < 1) with q3 | q3
   ·rw [if_pos (of_eq_true q3)]
    simp only [QhU, YqB, z16, KHD, Xq6, if_true, if_false, ↓reduceIte, Nat.reduceAdd, Nat.reduceSub, Nat.reduceLeDiff, Nat.reduceEqDiff, Nat.reduceMul, Nat.reduceLT, Int.reduceLT, Int.reduceLE, Int.reduceEq, CO.tmps, Opd.tmps, optT, Nat.reducePow, Nat.reduceDiv, Nat.reduceMod, q1, q2, q3, oe1, oe2, od1, od2, a0, a1, a2, a3, a4, a5, w1, l1, c1, f1, gx, XUr hh, Ygl hz, QqT hz, qNP hz, if_true, decide_true, decide_false, ne_eq, not_false_eq_true, not_true_eq_false, false_implies, forall_const, and_true, true_and]
    exact Bt.drop _ hh rfl rfl
   rw [if_neg (of_eq_false q3)]
   rcases emG (1048576 < x.dot.2) with q4 | q4
   ·rw [if_pos (of_eq_true q4)]
    simp only [QhU, YqB, z16, KHD, Xq6, if_true, if_false, ↓reduceIte, Nat.reduceAdd, Nat.reduceSub, Nat.reduceLeDiff, Nat.reduceEqDiff, Nat.reduceMul, Nat.reduceLT, Int.reduceLT, Int.reduceLE, Int.reduceEq, CO.tmps, Opd.tmps, optT, Nat.reducePow, Nat.reduceDiv, Nat.reduceMod, q1, q2, q3, q4, oe1, oe2, od1, od2, a0, a1, a2, a3, a4, a5, w1, l1, c1, f1, gx, XUr hh, Ygl hz, QqT hz, qNP hz, if_true, decide_true, decide_false, ne_eq, not_false_eq_true, not_true_eq_false, false_implies, forall_const, and_true, true_and]
    exact Bt.drop _ hh rfl rfl
   rw [if_neg (of_eq_false q4)]
   rcases emG ((l.length : Int) = n) with q5 | q5
   rotate_left
   ·rw [if_pos (of_eq_false q5)]
    simp only [QhU, YqB, z16, KHD, Xq6, if_true, if_false, ↓reduceIte, Nat.reduceAdd, Nat.reduceSub, Nat.reduceLeDiff, Nat.reduceEqDiff, Nat.reduceMul, Nat.reduceLT, Int.reduceLT, Int.reduceLE, Int.reduceEq, CO.tmps, Opd.tmps, optT, Nat.reducePow, Nat.reduceDiv, Nat.reduceMod, q1, q2, q3, q4, q5, oe1, oe2, od1, od2, a0, a1, a2, a3, a4, a5, w1, l1, c1, f1, gx, XUr hh, Ygl hz, QqT hz, qNP hz, if_true, decide_true, decide_false, ne_eq, not_false_eq_true, not_true_eq_false, false_implies, forall_const, and_true, true_and]
    exact Bt.drop _ hh rfl rfl
   rw [if_neg (not_not_intro (of_eq_true q5))]
   rcases emG (∃ y ∈ l, oddI y) with q6 | q6
   ·rw [if_pos (of_eq_true q6)]
    simp only [QhU, YqB, z16, KHD, Xq6, if_true, if_false, ↓reduceIte, Nat.reduceAdd, Nat.reduceSub, Nat.reduceLeDiff, Nat.reduceEqDiff, Nat.reduceMul, Nat.reduceLT, Int.reduceLT, Int.reduceLE, Int.reduceEq, CO.tmps, Opd.tmps, optT, Nat.reducePow, Nat.reduceDiv, Nat.reduceMod, q1, q2, q3, q4, q5, q6, QMp, Option.bind_some, oe1, oe2, od1, od2, a0, a1, a2, a3, a4, a5, w1, l1, c1, f1, gx, XUr hh, Ygl hz, QqT hz, qNP hz, if_true, decide_true, decide_false, ne_eq, not_false_eq_true, not_true_eq_false, false_implies, forall_const, and_true, true_and]
    exact Bt.drop _ hh rfl rfl
   rw [if_neg (of_eq_false q6)]
   have b1 := of_eq_false q1
   have b2 := of_eq_false q2
   have b3 := of_eq_false q3
   have b4 := of_eq_false q4
   have b5 := of_eq_true q5
   have e1 : IntKind.i64.wrap (x.dot.1 - 1) = x.dot.1 - 1 := ZWm (by unfold In64; omega)
   have e2 : IntKind.i64.wrap (x.dot.2 - 1) = x.dot.2 - 1 := ZWm (by unfold In64; omega)
   have e3 : (0 ≤ x.dot.1 - 1 ∧ x.dot.1 - 1 < (l.length : Int)) = True := eq_true (by omega)
   have e4 : ((x.dot.1 - 1).toNat < l.length) = True := eq_true (by omega)
   have e5 : intR.d = 0 := rfl
   rcases emG (l.getD (x.dot.1 - 1).toNat 0 = x.dot.2 - 1) with q7 | q7
   rotate_left
   ·rw [if_pos (of_eq_false q7)]
    simp only [QhU, YqB, z16, KHD, Xq6, if_true, if_false, ↓reduceIte, Nat.reduceAdd, Nat.reduceSub, Nat.reduceLeDiff, Nat.reduceEqDiff, Nat.reduceMul, Nat.reduceLT, Int.reduceLT, Int.reduceLE, Int.reduceEq, CO.tmps, Opd.tmps, optT, Nat.reducePow, Nat.reduceDiv, Nat.reduceMod, q1, q2, q3, q4, q5, q6, q7, QMp, Option.bind_some, e1, e2, e3, e4, e5, Zr0, Nat.zero_lt_one, oe1, oe2, od1, od2, a0, a1, a2, a3, a4, a5, w1, l1, c1, f1, gx, XUr hh, Ygl hz, QqT hz, qNP hz, if_true, decide_true, decide_false, ne_eq, not_false_eq_true, not_true_eq_false, false_implies, forall_const, and_true, true_and]
    exact Bt.drop _ hh rfl rfl
   rw [if_neg (not_not_intro (of_eq_true q7))]
   rcases emG (x.kind < 1) with k1 | k1
   ·rw [if_pos (.inl (of_eq_true k1))]
    simp only [QhU, YqB, z16, KHD, Xq6, if_true, if_false, ↓reduceIte, Nat.reduceAdd, Nat.reduceSub, Nat.reduceLeDiff, Nat.reduceEqDiff, Nat.reduceMul, Nat.reduceLT, Int.reduceLT, Int.reduceLE, Int.reduceEq, CO.tmps, Opd.tmps, optT, Nat.reducePow, Nat.reduceDiv, Nat.reduceMod, q1, q2, q3, q4, q5, q6, q7, k1, QMp, Option.bind_some, e1, e2, e3, e4, e5, Zr0, Nat.zero_lt_one, oe1, oe2, od1, od2, a0, a1, a2, a3, a4, a5, w1, l1, c1, f1, gx, XUr hh, Ygl hz, QqT hz, qNP hz, if_true, decide_true, decide_false, ne_eq, not_false_eq_true, not_true_eq_false, false_implies, forall_const, and_true, true_and]
    exact Bt.drop _ hh rfl rfl
   rcases emG (4 < x.kind) with k2 | k2
   ·rw [if_pos (.inr (of_eq_true k2))]
    simp only [QhU, YqB, z16, KHD, Xq6, if_true, if_false, ↓reduceIte, Nat.reduceAdd, Nat.reduceSub, Nat.reduceLeDiff, Nat.reduceEqDiff, Nat.reduceMul, Nat.reduceLT, Int.reduceLT, Int.reduceLE, Int.reduceEq, CO.tmps, Opd.tmps, optT, Nat.reducePow, Nat.reduceDiv, Nat.reduceMod, q1, q2, q3, q4, q5, q6, q7, k1, k2, QMp, Option.bind_some, e1, e2, e3, e4, e5, Zr0, Nat.zero_lt_one, oe1, oe2, od1, od2, a0, a1, a2, a3, a4, a5, w1, l1, c1, f1, gx, XUr hh, Ygl hz, QqT hz, qNP hz, if_true, decide_true, decide_false, ne_eq, not_false_eq_true, not_true_eq_false, false_implies, forall_const, and_true, true_and]
    exact Bt.drop _ hh rfl rfl
   rw [if_neg (fun z => z.elim (of_eq_false k1) (of_eq_false k2))]
   rcases emG (K4G x.repo) with r | r
   rotate_left
   ·rw [if_pos (.inl (of_eq_false r))]
    simp only [QhU, YqB, z16, KHD, Xq6, if_true, if_false, ↓reduceIte, Nat.reduceAdd, Nat.reduceSub, Nat.reduceLeDiff, Nat.reduceEqDiff, Nat.reduceMul, Nat.reduceLT, Int.reduceLT, Int.reduceLE, Int.reduceEq, CO.tmps, Opd.tmps, optT, Nat.reducePow, Nat.reduceDiv, Nat.reduceMod, q1, q2, q3, q4, q5, q6, q7, k1, k2, r, QMp, Option.bind_some, e1, e2, e3, e4, e5, Zr0, Nat.zero_lt_one, Yja, qGK, QeF, lt, List.drop_zero, Zz9, cr, ct, r1, r2, t1, t2, YcB, Option.map_some, Bool.xor_true, Bool.xor_false, Bool.not_true, Bool.not_false, oe1, oe2, od1, od2, a0, a1, a2, a3, a4, a5, w1, l1, c1, f1, gx, XUr hh, Ygl hz, QqT hz, qNP hz, if_true, decide_true, decide_false, ne_eq, not_false_eq_true, not_true_eq_false, false_implies, forall_const, and_true, true_and]
    exact Bt.drop _ hh rfl rfl
   rcases emG (zXI x) with g | g
   rotate_left
   ·rw [if_neg (fun z => z.elim (fun z => z (of_eq_true r)) (fun z => of_eq_false g z.1))]
    simp only [QhU, YqB, z16, KHD, Xq6, if_true, if_false, ↓reduceIte, Nat.reduceAdd, Nat.reduceSub, Nat.reduceLeDiff, Nat.reduceEqDiff, Nat.reduceMul, Nat.reduceLT, Int.reduceLT, Int.reduceLE, Int.reduceEq, CO.tmps, Opd.tmps, optT, Nat.reducePow, Nat.reduceDiv, Nat.reduceMod, q1, q2, q3, q4, q5, q6, q7, k1, k2, r, g, QMp, Option.bind_some, e1, e2, e3, e4, e5, Zr0, Nat.zero_lt_one, Yja, qGK, QeF, lt, List.drop_zero, Zz9, cr, ct, r1, r2, t1, t2, YcB, Option.map_some, Bool.xor_true, Bool.xor_false, Bool.not_true, Bool.not_false, oe1, oe2, od1, od2, a0, a1, a2, a3, a4, a5, w1, l1, c1, f1, gx, XUr hh, Ygl hz, QqT hz, qNP hz, if_true, decide_true, decide_false, ne_eq, not_false_eq_true, not_true_eq_false, false_implies, forall_const, and_true, true_and]
    exact Bt.drop _ hh rfl rfl
   rcases emG (KAc x.tag) with t | t
   ·rw [if_neg (fun z => z.elim (fun z => z (of_eq_true r)) (fun z => z.2 (of_eq_true t)))]
    simp only [QhU, YqB, z16, KHD, Xq6, if_true, if_false, ↓reduceIte, Nat.reduceAdd, Nat.reduceSub, Nat.reduceLeDiff, Nat.reduceEqDiff, Nat.reduceMul, Nat.reduceLT, Int.reduceLT, Int.reduceLE, Int.reduceEq, CO.tmps, Opd.tmps, optT, Nat.reducePow, Nat.reduceDiv, Nat.reduceMod, q1, q2, q3, q4, q5, q6, q7, k1, k2, r, g, t, QMp, Option.bind_some, e1, e2, e3, e4, e5, Zr0, Nat.zero_lt_one, Yja, qGK, QeF, lt, List.drop_zero, Zz9, cr, ct, r1, r2, t1, t2, YcB, Option.map_some, Bool.xor_true, Bool.xor_false, Bool.not_true, Bool.not_false, oe1, oe2, od1, od2, a0, a1, a2, a3, a4, a5, w1, l1, c1, f1, gx, XUr hh, Ygl hz, QqT hz, qNP hz, if_true, decide_true, decide_false, ne_eq, not_false_eq_true, not_true_eq_false, false_implies, forall_const, and_true, true_and]
    exact Bt.drop _ hh rfl rfl
   ·rw [if_pos (.inr ⟨of_eq_true g, of_eq_false t⟩)]
    simp only [QhU, YqB, z16, KHD, Xq6, if_true, if_false, ↓reduceIte, Nat.reduceAdd, Nat.reduceSub, Nat.reduceLeDiff, Nat.reduceEqDiff, Nat.reduceMul, Nat.reduceLT, Int.reduceLT, Int.reduceLE, Int.reduceEq, CO.tmps, Opd.tmps, optT, Nat.reducePow, Nat.reduceDiv, Nat.reduceMod, q1, q2, q3, q4, q5, q6, q7, k1, k2, r, g, t, QMp, Option.bind_some, e1, e2, e3, e4, e5, Zr0, Nat.zero_lt_one, Yja, qGK, QeF, lt, List.drop_zero, Zz9, cr, ct, r1, r2, t1, t2, YcB, Option.map_some, Bool.xor_true, Bool.xor_false, Bool.not_true, Bool.not_false, oe1, oe2, od1, od2, a0, a1, a2, a3, a4, a5, w1, l1, c1, f1, gx, XUr hh, Ygl hz, QqT hz, qNP hz, if_true, decide_true, decide_false, ne_eq, not_false_eq_true, not_true_eq_false, false_implies, forall_const, and_true, true_and]
    exact Bt.drop _ hh rfl rfl
  ·cases e3
 ·cases e
end Go.Proofs.YtebcngelgdpbjaaGreat
end
section
namespace Go.Proofs.YtebcngelgdpbjaaGreat
theorem QPS (l : List Int) (r : Int) : 0 ≤ atV l r := by unfold atV; split <;> omega
def wtN (l : List Int) : Nat → Nat
 | 0 => 0
 | n + 1 => wtN l n + (atV l ((n + 1 : Nat) : Int)).toNat
theorem JQH {a b : List Int} (h : ∀ r, atV a r ≤ atV b r) : ∀ n, wtN a n ≤ wtN b n
 | 0 => Nat.le_refl _
 | n + 1 => by
  have h1 := JQH h n
  have h2 := h ((n + 1 : Nat) : Int)
  simp only [wtN]
  omega
theorem ZWO {a b : List Int} (h : ∀ r, atV a r ≤ atV b r) {r : Int} (h1 : 1 ≤ r) (hlt : atV a r < atV b r) : ∀ n : Nat, r ≤ (n : Int) → wtN a n < wtN b n
 | 0, hr => by omega
 | n + 1, hr => by
  have h2 := h ((n + 1 : Nat) : Int)
  have p := QPS a r
  simp only [wtN]
  by_cases e : r = ((n + 1 : Nat) : Int)
  ·have h3 := JQH h n
   rw [← e]
   omega
  ·have h3 := ZWO h h1 hlt n (by omega)
   omega
def pIn (go : List (Int × Int) → Int × Int → List (Int × Int)) (r : Int) : Nat → List (Int × Int) → List (Int × Int)
 | 0, M => M
 | n + 1, M => if (r, ((n + 1 : Nat) : Int)) ∈ M then M else pIn go r n (go (M ++ [(r, ((n + 1 : Nat) : Int))]) (r, ((n + 1 : Nat) : Int)))
def pOut (go : List (Int × Int) → Int × Int → List (Int × Int)) : List Int → Nat → List (Int × Int) → List (Int × Int)
 | [], _, M => M
 | a :: l, i, M => pOut go l (i + 1) (pIn go ((i + 1 : Nat) : Int) a.toNat M)
def pSt (dp : Int × Int → List Int) : Nat → List (Int × Int) → Int × Int → List (Int × Int)
 | 0, M, _ => M
 | k + 1, M, d => pOut (pSt dp k) (dp d) 0 M
structure GV (dp : Int × Int → List Int) (n : Nat) : Prop where
 len : ∀ d, (dp d).length ≤ n
 pos : ∀ d, ∀ a ∈ dp d, 0 ≤ a ∧ a ≤ 1048576
 low : ∀ d x, vhas (dp d) x → (∀ r, atV (dp x) r ≤ atV (dp d) r) ∧ atV (dp x) x.1 = x.2 - 1
structure PInv (dp : Int × Int → List Int) (M : List (Int × Int)) (d : Int × Int) (M' : List (Int × Int)) : Prop where
 sub : ∀ y ∈ M, y ∈ M'
 up : ∀ x ∈ M', x ∈ M ∨ vhas (dp d) x
 cl : ∀ y ∈ M', y ∉ M → ∀ x, vhas (dp y) x → x ∈ M'
 nd : M.Nodup → M'.Nodup
structure PPost (dp : Int × Int → List Int) (M : List (Int × Int)) (d : Int × Int) (M' : List (Int × Int)) : Prop extends PInv dp M d M' where
 und : ∀ x, vhas (dp d) x → x ∈ M'
def PC (dp : Int × Int → List Int) (n : Nat) (M : List (Int × Int)) (K : Nat) : Prop := ∀ y ∈ M, wtN (dp y) n < K → ∀ x, vhas (dp y) x → x ∈ M
theorem PInv.refl (dp : Int × Int → List Int) (M : List (Int × Int)) (d : Int × Int) : PInv dp M d M := ⟨fun _ h => h, fun _ h => .inl h, fun _ h h' => absurd h h', fun h => h⟩
theorem JvS {l : List Int} {r : Int} (h : 1 ≤ atV l r) : 1 ≤ r ∧ r ≤ (l.length : Int) := by
 unfold atV at h
 split at h <;> omega
section
variable {dp : Int × Int → List Int} {n : Nat}
theorem GV.lt (hV : GV dp n) {d x : Int × Int} (h : vhas (dp d) x) : wtN (dp x) n < wtN (dp d) n := by
 obtain ⟨h1, h2⟩ := hV.low d x h
 obtain ⟨a1, a2, a3⟩ := h
 have h3 := JvS (l := dp d) (r := x.1) (by omega)
 have h4 := hV.len d
 exact ZWO h1 a1 (by omega) n (by omega)
theorem KYy {a b : List Int} (h : ∀ r, atV a r ≤ atV b r) {x : Int × Int} (hx : vhas a x) : vhas b x := ⟨hx.1, hx.2.1, Int.le_trans hx.2.2 (h _)⟩
theorem PInv.pc {M M' : List (Int × Int)} {d : Int × Int} {K : Nat} (h0 : PC dp n M K) (h : PInv dp M d M') : PC dp n M' K := fun y hy hw x hx => by
 by_cases hm : y ∈ M
 ·exact h.sub _ (h0 y hm hw x hx)
 ·exact h.cl y hy hm x hx
theorem Zzd (hV : GV dp n) {go : List (Int × Int) → Int × Int → List (Int × Int)} {d : Int × Int} {M0 : List (Int × Int)} (h0 : PC dp n M0 (wtN (dp d) n)) {r : Int}
  (hgo : ∀ M x, vhas (dp d) x → PC dp n M (wtN (dp x) n) → PPost dp M x (go M x)) :
  ∀ (m : Nat) (M : List (Int × Int)), 1 ≤ r → (m : Int) ≤ atV (dp d) r → PInv dp M0 d M → PInv dp M0 d (pIn go r m M) ∧ (∀ y ∈ M, y ∈ pIn go r m M) ∧ ∀ j : Int, 1 ≤ j → j ≤ m → (r, j) ∈ pIn go r m M
 | 0, M, _, _, hi => ⟨hi, fun _ h => h, fun j h1 h2 => by omega⟩
 | m + 1, M, hr, hm, hi => by
  have hx : vhas (dp d) (r, ((m + 1 : Nat) : Int)) := ⟨hr, by dsimp only; omega, hm⟩
  have hc := hi.pc h0
  by_cases hin : (r, ((m + 1 : Nat) : Int)) ∈ M
  ·rw [pIn, if_pos hin]
   refine ⟨hi, fun _ h => h, fun j h1 h2 => ?_⟩
   by_cases hj : j = ((m + 1 : Nat) : Int)
   ·rw [hj]; exact hin
   ·refine hc _ hin (hV.lt hx) _ ⟨hr, h1, ?_⟩
    have := (hV.low d _ hx).2
    dsimp only at this ⊢
    omega
  ·rw [pIn, if_neg hin]
   have hp := hgo (M ++ [(r, ((m + 1 : Nat) : Int))]) (r, ((m + 1 : Nat) : Int)) hx (fun y hy hw x hx' => by
    rcases List.mem_append.1 hy with h | h
    ·exact List.mem_append_left _ (hc y h (Nat.lt_trans hw (hV.lt hx)) x hx')
    ·rw [List.mem_singleton.1 h] at hw
     exact absurd hw (Nat.lt_irrefl _))
   generalize hM2 : go (M ++ [(r, ((m + 1 : Nat) : Int))]) (r, ((m + 1 : Nat) : Int)) = M2 at hp
   have i2 : PInv dp M0 d M2 := by
    refine ⟨fun y hy => hp.sub _ (List.mem_append_left _ (hi.sub y hy)), fun z hz => ?_, fun y hy hn x hx' => ?_, fun h => hp.nd ?_⟩
    ·rcases hp.up z hz with h | h
     ·rcases List.mem_append.1 h with h | h
      ·exact hi.up z h
      ·rw [List.mem_singleton.1 h]; exact .inr hx
     ·exact .inr (KYy (hV.low d _ hx).1 h)
    ·by_cases h1 : y ∈ M ++ [(r, ((m + 1 : Nat) : Int))]
     ·rcases List.mem_append.1 h1 with h | h
      ·exact hp.sub _ (List.mem_append_left _ (hi.cl y h hn x hx'))
      ·rw [List.mem_singleton.1 h] at hx'
       exact hp.und x hx'
     ·exact hp.cl y hy h1 x hx'
    ·exact List.nodup_append.2 ⟨hi.nd h, by simp, fun a ha b hb => by rw [List.mem_singleton.1 hb]; exact fun z => hin (z ▸ ha)⟩
   obtain ⟨q1, q2, q3⟩ := Zzd hV h0 hgo m M2 hr (by omega) i2
   refine ⟨q1, fun y hy => q2 _ (hp.sub _ (List.mem_append_left _ hy)), fun j h1 h2 => ?_⟩
   by_cases hj : j = ((m + 1 : Nat) : Int)
   ·rw [hj]
    exact q2 _ (hp.sub _ (List.mem_append_right _ (List.mem_singleton.2 rfl)))
   ·exact q3 j h1 (by omega)
theorem qt6 {l : List Int} {i : Nat} {a : Int} (h : l[i]? = some a) (ha : 0 ≤ a) : atV l ((i + 1 : Nat) : Int) = a := by
 have hi := (List.getElem?_eq_some_iff.1 h).1
 unfold atV
 rw [if_neg (by omega), show (((i + 1 : Nat) : Int) - 1).toNat = i by omega, List.getD_eq_getElem?_getD, h]
 exact Int.max_eq_left ha
theorem QwH (hV : GV dp n) {go : List (Int × Int) → Int × Int → List (Int × Int)} {d : Int × Int} {M0 : List (Int × Int)} (h0 : PC dp n M0 (wtN (dp d) n))
  (hgo : ∀ M x, vhas (dp d) x → PC dp n M (wtN (dp x) n) → PPost dp M x (go M x)) :
  ∀ (l : List Int) (i : Nat) (M : List (Int × Int)), (dp d).drop i = l → PInv dp M0 d M → PInv dp M0 d (pOut go l i M) ∧ (∀ y ∈ M, y ∈ pOut go l i M) ∧ ∀ x, vhas (dp d) x → (i : Int) < x.1 → x ∈ pOut go l i M
 | [], i, M, hl, hi => ⟨hi, fun _ h => h, fun x hx h2 => by
   have h3 := JvS (l := dp d) (r := x.1) (by have := hx.2; omega)
   have h4 : (dp d).length ≤ i := List.drop_eq_nil_iff.1 hl
   omega⟩
 | a :: l, i, M, hl, hi => by
  have hg : (dp d)[i]? = some a := by
   have : ((dp d).drop i)[0]? = some a := by rw [hl]; rfl
   rwa [List.getElem?_drop, Nat.add_zero] at this
  have ha := (hV.pos d a (List.mem_of_getElem? hg)).1
  have hat := qt6 hg ha
  obtain ⟨q1, q2, q3⟩ := Zzd hV h0 hgo a.toNat M (r := ((i + 1 : Nat) : Int)) (by omega) (by rw [hat]; omega) hi
  have hl' : (dp d).drop (i + 1) = l := by
   rw [← List.drop_drop, hl]
   rfl
  obtain ⟨r1, r2, r3⟩ := QwH hV h0 hgo l (i + 1) _ hl' q1
  rw [pOut]
  refine ⟨r1, fun y hy => r2 _ (q2 _ hy), fun x hx h2 => ?_⟩
  by_cases hx1 : x.1 = ((i + 1 : Nat) : Int)
  ·have := q3 x.2 hx.2.1 (by have := hx.2.2; rw [hx1, hat] at this; omega)
   refine r2 _ ?_
   rw [← hx1] at this ⊢
   exact this
  ·exact r3 x hx (by omega)
theorem zbx (hV : GV dp n) : ∀ (k : Nat) (M : List (Int × Int)) (d : Int × Int), wtN (dp d) n < k → PC dp n M (wtN (dp d) n) → PPost dp M d (pSt dp k M d)
 | 0, _, _, h, _ => absurd h (Nat.not_lt_zero _)
 | k + 1, M, d, h, hc => by
  obtain ⟨q1, _, q3⟩ := QwH hV hc (go := pSt dp k) (fun M' x hx hc' => zbx hV k M' x (Nat.lt_of_lt_of_le (hV.lt hx) (Nat.le_of_lt_succ h)) hc') (dp d) 0 M rfl (PInv.refl dp M d)
  exact ⟨q1, fun x hx => q3 x hx (by have := hx.1; omega)⟩
theorem q6O (hV : GV dp n) {k : Nat} {d : Int × Int} (h : wtN (dp d) n < k) (x : Int × Int) : x ∈ pSt dp k [] d ↔ vhas (dp d) x := by
 have hp := zbx hV k [] d h (fun y hy => by simp at hy)
 exact ⟨fun hx => (hp.up x hx).elim (fun z => by simp at z) id, hp.und x⟩
theorem Y8d (hV : GV dp n) {k : Nat} {d : Int × Int} (h : wtN (dp d) n < k) : (pSt dp k [] d).Nodup := (zbx hV k [] d h (fun y hy => by simp at hy)).nd List.nodup_nil
end
end Go.Proofs.YtebcngelgdpbjaaGreat
end
section
namespace Go.Proofs.YtebcngelgdpbjaaGreat
abbrev EvD := EvtA × List Int
def chkA (n : Int) : List EvD → List (Int × Int) → Int
 | [], _ => 0
 | e :: l, seen => if fitE e.1 e.2 n ≠ 0 then fitE e.1 e.2 n else if e.1.dot ∈ seen then 19 else chkA n l (seen ++ [e.1.dot])
def Zqo (all : List EvD) (e : EvD) (i : Nat) : Prop := ∀ a, e.2[i]? = some a → a ≠ 0 → ∃ o ∈ all, o.1.dot = (((i + 1 : Nat) : Int), a) ∧ ∀ r, atV o.2 r ≤ atV e.2 r
def chkB (all : List EvD) : Prop := ∀ e ∈ all, ∀ i, Zqo all e i
open Classical in
noncomputable def chkG (l : List EvD) (n : Int) : Int :=
 if n < 1 ∨ 16 < n then 3 else if 4096 < l.length then 4 else if chkA n l [] ≠ 0 then chkA n l [] else if chkB l then 0 else 25
theorem YRV {x : EvtA} {l : List Int} {n : Int} (h : fitE x l n = 0) : 1 ≤ x.dot.1 ∧ x.dot.1 ≤ n ∧ 1 ≤ x.dot.2 ∧ x.dot.2 ≤ 1048576 ∧ (l.length : Int) = n ∧ (∀ a ∈ l, 0 ≤ a ∧ a ≤ 1048576) ∧ l.getD (x.dot.1 - 1).toNat 0 = x.dot.2 - 1 := by
 unfold fitE at h
 repeat' (split at h; · exact absurd h (by decide))
 rename_i h1 h2 h3 h4 h5 h6 h7 h8 h9
 refine ⟨by omega, by omega, by omega, by omega, Decidable.byContradiction h5, fun a ha => ?_, Decidable.byContradiction h7⟩
 have this : ¬ oddI a := fun z => h6 ⟨a, ha, z⟩
 unfold oddI at this
 omega
theorem Js7 {n : Int} : ∀ {l : List EvD} {seen : List (Int × Int)}, chkA n l seen = 0 → (∀ e ∈ l, fitE e.1 e.2 n = 0) ∧ (∀ e ∈ l, e.1.dot ∉ seen) ∧ (l.map (·.1.dot)).Nodup
 | [], seen, _ => ⟨fun e h => by simp at h, fun e h => by simp at h, by simp⟩
 | e :: l, seen, h => by
  rw [chkA] at h
  split at h
  ·rename_i hf
   exact absurd h hf
  ·rename_i hf
   split at h
   ·exact absurd h (by decide)
   ·rename_i hs
    obtain ⟨h1, h2, h3⟩ := Js7 h
    refine ⟨fun x hx => ?_, fun x hx => ?_, ?_⟩
    ·rcases List.mem_cons.1 hx with rfl | hx
     ·exact Decidable.byContradiction hf
     ·exact h1 x hx
    ·rcases List.mem_cons.1 hx with rfl | hx
     ·exact hs
     ·exact fun z => h2 x hx (List.mem_append_left _ z)
    ·rw [List.map_cons, List.nodup_cons]
     refine ⟨fun z => ?_, h3⟩
     obtain ⟨x, hx, hd⟩ := List.mem_map.1 z
     exact h2 x hx (List.mem_append_right _ (by rw [hd]; exact List.mem_singleton.2 rfl))
def dpE (l : List EvD) (d : Int × Int) : List Int := ((l.find? fun e => decide (e.1.dot = d)).map (·.2)).getD []
theorem QEz {l : List EvD} (hn : (l.map (·.1.dot)).Nodup) {e : EvD} (he : e ∈ l) : dpE l e.1.dot = e.2 := by
 unfold dpE
 have : l.find? (fun x => decide (x.1.dot = e.1.dot)) = some e := by
  induction l with
  | nil => cases he
  | cons x l ih =>
   rw [List.map_cons, List.nodup_cons] at hn
   rcases List.mem_cons.1 he with rfl | he
   ·simp
   ·have hx : x.1.dot ≠ e.1.dot := fun z => hn.1 (by rw [z]; exact List.mem_map.2 ⟨e, he, rfl⟩)
    rw [List.find?_cons_of_neg (by simpa using hx)]
    exact ih hn.2 he
 rw [this]
 rfl
theorem Z7t (l : List EvD) (d : Int × Int) : dpE l d = [] ∨ ∃ e ∈ l, e.1.dot = d ∧ dpE l d = e.2 := by
 unfold dpE
 cases h : l.find? fun e => decide (e.1.dot = d) with
 | none => exact .inl rfl
 | some e => exact .inr ⟨e, List.mem_of_find?_eq_some h, by simpa using List.find?_some h, rfl⟩
theorem ZEf {l : List EvD} {n : Int} (h : chkG l n = 0) : 1 ≤ n ∧ n ≤ 16 ∧ l.length ≤ 4096 ∧ chkA n l [] = 0 ∧ chkB l := by
 unfold chkG at h
 split at h
 ·exact absurd h (by decide)
 ·split at h
  ·exact absurd h (by decide)
  ·split at h
   ·rename_i h3
    exact absurd h h3
   ·split at h
    ·rename_i h1 h2 h3 h4
     exact ⟨by omega, by omega, by omega, Decidable.byContradiction h3, h4⟩
    ·exact absurd h (by decide)
theorem Qfr {l : List EvD} {n : Int} (h : chkG l n = 0) {e : EvD} (he : e ∈ l) {r : Int} : ∀ (k : Nat) (m : Int), 1 ≤ m → m + k = atV e.2 r → ∃ o ∈ l, o.1.dot = (r, m) ∧ ∀ q, atV o.2 q ≤ atV e.2 q := by
 obtain ⟨_, _, _, hA, hB⟩ := ZEf h
 obtain ⟨h1, _, h3⟩ := Js7 hA
 intro k
 induction k with
 | zero =>
  intro m hm hk
  have hr := JvS (l := e.2) (r := r) (by omega)
  obtain ⟨f1, f2, f3, f4, f5, f6, f7⟩ := YRV (h1 e he)
  have hi : (r - 1).toNat < e.2.length := by omega
  have hg : e.2[(r - 1).toNat]? = some e.2[(r - 1).toNat] := List.getElem?_eq_getElem hi
  have ha := (f6 _ (List.getElem_mem hi)).1
  have hat := qt6 hg ha
  rw [show (((r - 1).toNat + 1 : Nat) : Int) = r by omega] at hat
  obtain ⟨o, ho, hd, hl⟩ := hB e he (r - 1).toNat _ hg (by omega)
  refine ⟨o, ho, ?_, hl⟩
  rw [hd, ← hat, show (((r - 1).toNat + 1 : Nat) : Int) = r by omega]
  congr 1
  omega
 | succ k ih =>
  intro m hm hk
  obtain ⟨o, ho, hd, hl⟩ := ih (m + 1) (by omega) (by omega)
  obtain ⟨f1, f2, f3, f4, f5, f6, f7⟩ := YRV (h1 o ho)
  rw [hd] at f1 f2 f7
  dsimp only at f1 f2 f7
  have hi : (r - 1).toNat < o.2.length := by omega
  have hg : o.2[(r - 1).toNat]? = some m := by
   rw [List.getD_eq_getElem?_getD, List.getElem?_eq_getElem hi] at f7
   rw [List.getElem?_eq_getElem hi]
   have f8 : o.2[(r - 1).toNat] = m + 1 - 1 := f7
   rw [f8]
   congr 1
   omega
  obtain ⟨o', ho', hd', hl'⟩ := hB o ho (r - 1).toNat _ hg (by omega)
  refine ⟨o', ho', ?_, fun q => Int.le_trans (hl' q) (hl q)⟩
  rw [hd', show (((r - 1).toNat + 1 : Nat) : Int) = r by omega]
theorem qOn {l : List EvD} {n : Int} (h : chkG l n = 0) : GV (dpE l) n.toNat := by
 obtain ⟨_, _, _, hA, hB⟩ := ZEf h
 obtain ⟨h1, _, h3⟩ := Js7 hA
 refine ⟨fun d => ?_, fun d a ha => ?_, fun d x hx => ?_⟩
 ·rcases Z7t l d with e | ⟨e, he, _, hd⟩
  ·rw [e]; exact Nat.zero_le _
  ·have := (YRV (h1 e he)).2.2.2.2.1
   rw [hd]; omega
 ·rcases Z7t l d with e | ⟨e, he, _, hd⟩
  ·rw [e] at ha; cases ha
  ·rw [hd] at ha
   exact (YRV (h1 e he)).2.2.2.2.2.1 a ha
 ·rcases Z7t l d with e | ⟨e, he, _, hd⟩
  ·rw [e] at hx
   have := JvS (l := []) (r := x.1) (by have := hx.2; omega)
   simp at this
   omega
  ·rw [hd] at hx ⊢
   obtain ⟨o, ho, hod, hl⟩ := Qfr h he (r := x.1) (atV e.2 x.1 - x.2).toNat x.2 hx.2.1 (by have := hx.2.2; omega)
   have hox : dpE l x = o.2 := by
    have := QEz h3 ho
    rw [hod] at this
    exact this
   rw [hox]
   refine ⟨hl, ?_⟩
   obtain ⟨f1, f2, f3, f4, f5, f6, f7⟩ := YRV (h1 o ho)
   rw [hod] at f1 f2 f3 f7
   dsimp only at f1 f2 f3 f7
   unfold atV
   rw [if_neg (by omega), f7]
   exact Int.max_eq_left (by omega)
theorem Ji4 {l : List EvD} {n : Int} (h : chkG l n = 0) {e : EvD} (he : e ∈ l) {x : Int × Int} (hx : vhas e.2 x) : ∃ o ∈ l, o.1.dot = x := by
 obtain ⟨o, ho, hod, _⟩ := Qfr h he (r := x.1) (atV e.2 x.1 - x.2).toNat x.2 hx.2.1 (by have := hx.2.2; omega)
 exact ⟨o, ho, hod⟩
end Go.Proofs.YtebcngelgdpbjaaGreat
end
section
namespace Go.Proofs.YtebcngelgdpbjaaGreat
theorem Jld (l : List Int) (r : Int) : vAt l r = atV l r := by
 unfold vAt atV
 by_cases h1 : r < 1
 ·rw [if_pos h1, if_pos (.inl h1)]
 ·rw [if_neg h1]
  by_cases h2 : (l.length : Int) < r
  ·rw [if_pos h2, if_pos (.inr h2)]
  ·rw [if_neg h2, if_neg (fun z => z.elim h1 h2)]
theorem zAC {l : List Int} (h : ∀ a ∈ l, 0 ≤ a ∧ a ≤ 1048576) (r : Int) : atV l r ≤ 1048576 := by
 unfold atV
 split
 ·omega
 ·rename_i hr
  have hi : (r - 1).toNat < l.length := by omega
  rw [List.getD_eq_getElem?_getD, List.getElem?_eq_getElem hi]
  have := h _ (List.getElem_mem hi)
  simp only [Option.getD_some]
  omega
theorem QM9 {l : List Int} (h : ∀ a ∈ l, 0 ≤ a ∧ a ≤ 1048576) : ∀ i : Nat, i ≤ 1000 → wS l i = ((wtN l i : Nat) : Int) ∧ wtN l i ≤ 1048576 * i
 | 0, _ => ⟨rfl, Nat.zero_le _⟩
 | i + 1, hi => by
  obtain ⟨h1, h2⟩ := QM9 h i (by omega)
  have h3 := zAC h ((i + 1 : Nat) : Int)
  have h4 := QPS l ((i + 1 : Nat) : Int)
  simp only [wS, wtN, wI, Jld, h1]
  omega
theorem Y6l {l : List EvD} {n : Int} (h : chkG l n = 0) {e o : EvD} (he : e ∈ l) (ho : o ∈ l) (hx : vhas e.2 o.1.dot) : wS o.2 o.2.length < wS e.2 e.2.length := by
 obtain ⟨n1, n2, _, hA, _⟩ := ZEf h
 obtain ⟨h1, _, h3⟩ := Js7 hA
 have hV := qOn h
 have e1 := (YRV (h1 e he)).2.2.2.2
 have e2 := (YRV (h1 o ho)).2.2.2.2
 have q1 := QEz h3 he
 have q2 := QEz h3 ho
 have := hV.lt (d := e.1.dot) (x := o.1.dot) (by rw [q1]; exact hx)
 rw [q1, q2] at this
 have l1 : e.2.length = n.toNat := by omega
 have l2 : o.2.length = n.toNat := by omega
 rw [l1, l2, (QM9 e1.2.1 _ (by omega)).1, (QM9 e2.2.1 _ (by omega)).1]
 omega
end Go.Proofs.YtebcngelgdpbjaaGreat
end
