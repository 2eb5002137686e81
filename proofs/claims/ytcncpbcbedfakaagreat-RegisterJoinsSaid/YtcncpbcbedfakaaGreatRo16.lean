/- Part 16 of what the laws' proofs rest on. No condition. -/
import Derived.Test.YtcncpbcbedfakaaGreatRo15
set_option linter.all false
section
namespace Go.Proofs.YtcncpbcbedfakaaGreat
theorem qV9 {α : Type} {xs ys : List α} {i : Nat} (d : α) (hx : i < xs.length) (hy : i < ys.length) (e : xs.take i = ys.take i) : (xs.take (i + 1) = ys.take (i + 1)) ↔ xs.getD i d = ys.getD i d := by
 rw [List.take_succ_eq_append_getElem hx, List.take_succ_eq_append_getElem hy, e, List.append_right_inj, List.getD_eq_getElem?_getD, List.getD_eq_getElem?_getD, List.getElem?_eq_getElem hx, List.getElem?_eq_getElem hy]
 simp
theorem JeS {α : Type} {xs ys : List α} {i : Nat} (hi : xs.length ≤ i) : (xs.length = ys.length ∧ xs.take i = ys.take i) ↔ xs = ys := by
 constructor
 ·rintro ⟨h1, h2⟩
  rwa [List.take_of_length_le hi, List.take_of_length_le (by omega)] at h2
 ·rintro rfl
  exact ⟨rfl, rfl⟩
theorem Qhw {α : Type} {xs ys : List α} {i : Nat} (h : ¬ (xs.length = ys.length ∧ xs.take i = ys.take i)) : ¬ xs = ys := by
 rintro rfl
 exact h ⟨rfl, rfl⟩
end Go.Proofs.YtcncpbcbedfakaaGreat
end
section
namespace Go.Proofs.YtcncpbcbedfakaaGreat
set_option maxRecDepth 100000
noncomputable def XvN : List AV → List AB → Option (AV × List AB)
 | [a, b], h => (getS intR h a).bind fun xs => (getS intR h b).bind fun ys => some (.b (decide (xs = ys)), h)
 | _, _ => none
theorem X5T : Spec Tryz.prog 74 XvN := by
 intro args h v h' e
 unfold XvN at e
 split at e
 ·rename_i a b
  obtain ⟨xs, ha, e⟩ := zZA e
  obtain ⟨ys, hb, e⟩ := zZA e
  cases e
  refine FnAt.c (FnAt.frz0 fun hz => ?_)
  replace ha := ha.frz
  replace hb := hb.frz
  generalize h.map AB.freeze = h at *
  refine FnAt.run (by kernel_rfl) (T := ⟨[], []⟩) ⟨trivial, trivial⟩ Tryz.func74 sw74 fun ho hh => ?_
  simp only [XDC, Bool.and_eq_true] at ho
  have fa := ha.fx ho.1 (sz := 1) rfl
  have fb := hb.fx ho.2.1 (sz := 1) rfl
  unfold w74
  simp only [QhW, YqD, z18, Xq8, if_true, if_false, reduceIte, Nat.reduceAdd, Nat.reduceSub, Nat.reduceLeDiff, Nat.reduceEqDiff, Nat.reduceMul, Nat.reduceLT, Int.reduceLT, Int.reduceLE, Int.reduceEq, fa, fb]
  refine zXO (S := Nat) (fun i => xs.length - i) (fun i => [a, b] ++ tp 3 ++ [.b (decide (xs.length = ys.length ∧ xs.take i = ys.take i)), .i .i64 i] ++ tp 24) (fun i => xs.length = ys.length → i ≤ xs.length) 0 (fun _ => Nat.zero_le _) (by simp only [z18, Xq8, if_true, if_false, reduceIte, Nat.reduceAdd, Nat.reduceSub, Nat.reduceLeDiff, Nat.reduceEqDiff, Nat.reduceMul, Nat.reduceLT, Int.reduceLT, Int.reduceLE, Int.reduceEq, List.take_zero]) fun i hi => ?_
  simp only [z18, Xq8, if_true, if_false, reduceIte, Nat.reduceAdd, Nat.reduceSub, Nat.reduceLeDiff, Nat.reduceEqDiff, Nat.reduceMul, Nat.reduceLT, Int.reduceLT, Int.reduceLE, Int.reduceEq, fa, fb]
  refine ⟨fun h1 => ⟨fun h2 => ?_, fun h2 => ?_⟩, fun h1 => ?_⟩
  ·have h3 : i < ys.length := by omega
   have e1 : IntKind.i64.wrap ((i : Int) + 1) = ((i + 1 : Nat) : Int) := ZWo (by have := ha.2; unfold maxLen at this; unfold In64; omega)
   simp only [z18, qdf, Xq8, if_true, if_false, reduceIte, Nat.reduceAdd, Nat.reduceSub, Nat.reduceLeDiff, Nat.reduceEqDiff, Nat.reduceMul, Nat.reduceLT, Int.reduceLT, Int.reduceLE, Int.reduceEq, CO.tmps, Opd.tmps, optT, Nat.reducePow, Nat.reduceDiv, Nat.reduceMod, fa, fb, h2, h3, Zr2, Nat.zero_lt_one, e1]
   refine ⟨i + 1, fun _ => h2, by omega, ?_, Wk.refl _⟩
   have e2 : (xs.length = ys.length ∧ xs.take (i + 1) = ys.take (i + 1)) = (xs.getD i intR.d = ys.getD i intR.d) := propext (by rw [and_iff_right h1.1]; exact qV9 _ h2 h3 h1.2)
   simp only [e2, Jjg]
  ·exact Bt.eq (by simp only [AV.b.injEq, decide_eq_decide]; exact JeS (by omega)) (List.append_nil h)
  ·exact Bt.eq (by simp only [AV.b.injEq, decide_eq_decide]; exact iff_of_false h1 (Qhw h1)) (List.append_nil h)
 ·cases e
noncomputable def Yoy : List AV → List AB → Option (AV × List AB)
 | [a, b], h => (getS dotR h a).bind fun xs => (getS dotR h b).bind fun ys => some (.b (decide (xs = ys)), h)
 | _, _ => none
theorem Jez : Spec Tryz.prog 75 Yoy := by
 intro args h v h' e
 unfold Yoy at e
 split at e
 ·rename_i a b
  obtain ⟨xs, ha, e⟩ := zZA e
  obtain ⟨ys, hb, e⟩ := zZA e
  cases e
  refine FnAt.c (FnAt.frz0 fun hz => ?_)
  replace ha := ha.frz
  replace hb := hb.frz
  generalize h.map AB.freeze = h at *
  refine FnAt.run (by kernel_rfl) (T := ⟨[], []⟩) ⟨trivial, trivial⟩ Tryz.func75 sw75 fun ho hh => ?_
  simp only [XDC, Bool.and_eq_true] at ho
  have fa := ha.fx ho.1 (sz := 2) rfl
  have fb := hb.fx ho.2.1 (sz := 2) rfl
  unfold w75
  simp only [QhW, YqD, z18, Xq8, if_true, if_false, reduceIte, Nat.reduceAdd, Nat.reduceSub, Nat.reduceLeDiff, Nat.reduceEqDiff, Nat.reduceMul, Nat.reduceLT, Int.reduceLT, Int.reduceLE, Int.reduceEq, fa, fb]
  refine zXO (S := Nat) (fun i => xs.length - i) (fun i => [a, b] ++ tp 3 ++ [.b (decide (xs.length = ys.length ∧ xs.take i = ys.take i)), .i .i64 i] ++ tp 24) (fun i => xs.length = ys.length → i ≤ xs.length) 0 (fun _ => Nat.zero_le _) (by simp only [z18, Xq8, if_true, if_false, reduceIte, Nat.reduceAdd, Nat.reduceSub, Nat.reduceLeDiff, Nat.reduceEqDiff, Nat.reduceMul, Nat.reduceLT, Int.reduceLT, Int.reduceLE, Int.reduceEq, List.take_zero]) fun i hi => ?_
  simp only [z18, Xq8, if_true, if_false, reduceIte, Nat.reduceAdd, Nat.reduceSub, Nat.reduceLeDiff, Nat.reduceEqDiff, Nat.reduceMul, Nat.reduceLT, Int.reduceLT, Int.reduceLE, Int.reduceEq, fa, fb]
  refine ⟨fun h1 => ⟨fun h2 => ?_, fun h2 => ?_⟩, fun h1 => ?_⟩
  ·have h3 : i < ys.length := by omega
   have e1 : IntKind.i64.wrap ((i : Int) + 1) = ((i + 1 : Nat) : Int) := ZWo (by have := ha.2; unfold maxLen at this; unfold In64; omega)
   simp only [z18, qdf, Xq8, if_true, if_false, reduceIte, Nat.reduceAdd, Nat.reduceSub, Nat.reduceLeDiff, Nat.reduceEqDiff, Nat.reduceMul, Nat.reduceLT, Int.reduceLT, Int.reduceLE, Int.reduceEq, CO.tmps, Opd.tmps, optT, Nat.reducePow, Nat.reduceDiv, Nat.reduceMod, fa, fb, h2, h3, zlA, QQP, Q0x, Nat.zero_lt_one, e1]
   refine ⟨i + 1, fun _ => h2, by omega, ?_, Wk.refl _⟩
   have e2 : (xs.length = ys.length ∧ xs.take (i + 1) = ys.take (i + 1)) = (xs.getD i dotR.d = ys.getD i dotR.d) := propext (by rw [and_iff_right h1.1]; exact qV9 _ h2 h3 h1.2)
   simp only [e2, Jjg]
  ·exact Bt.eq (by simp only [AV.b.injEq, decide_eq_decide]; exact JeS (by omega)) (List.append_nil h)
  ·exact Bt.eq (by simp only [AV.b.injEq, decide_eq_decide]; exact iff_of_false h1 (Qhw h1)) (List.append_nil h)
 ·cases e
noncomputable def ZlC : List AV → List AB → Option (AV × List AB)
 | [a, b], h => (getS intR h a).bind fun xs => (getS intR h b).bind fun ys => some (.b (decide (xs = ys)), h)
 | _, _ => none
theorem Xot : Spec Tryz.prog 100 ZlC := by
 intro args h v h' e
 unfold ZlC at e
 split at e
 ·rename_i a b
  obtain ⟨xs, ha, e⟩ := zZA e
  obtain ⟨ys, hb, e⟩ := zZA e
  cases e
  refine FnAt.c (FnAt.frz0 fun hz => ?_)
  replace ha := ha.frz
  replace hb := hb.frz
  generalize h.map AB.freeze = h at *
  refine FnAt.run (by kernel_rfl) (T := ⟨[], []⟩) ⟨trivial, trivial⟩ Tryz.func100 zCr fun ho hh => ?_
  simp only [XDC, Bool.and_eq_true] at ho
  have fa := ha.fx ho.1 (sz := 1) rfl
  have fb := hb.fx ho.2.1 (sz := 1) rfl
  unfold w100
  simp only [QhW, YqD, z18, Xq8, if_true, if_false, reduceIte, Nat.reduceAdd, Nat.reduceSub, Nat.reduceLeDiff, Nat.reduceEqDiff, Nat.reduceMul, Nat.reduceLT, Int.reduceLT, Int.reduceLE, Int.reduceEq, fa, fb]
  refine ⟨fun h0 => Bt.eq (by simp only [AV.b.injEq, Bool.false_eq, decide_eq_false_iff_not]; rintro rfl; exact h0 rfl) (List.append_nil h), fun h0 => ?_⟩
  replace h0 : xs.length = ys.length := Decidable.not_not.1 h0
  refine zXO (S := Nat) (fun i => xs.length - i) (fun i => [a, b] ++ tp 10 ++ [.i .i64 xs.length, .i .i64 i] ++ tp 12) (fun i => i ≤ xs.length ∧ xs.take i = ys.take i) 0 ⟨Nat.zero_le _, by simp⟩ (by simp only [z18, Xq8, if_true, if_false, reduceIte, Nat.reduceAdd, Nat.reduceSub, Nat.reduceLeDiff, Nat.reduceEqDiff, Nat.reduceMul, Nat.reduceLT, Int.reduceLT, Int.reduceLE, Int.reduceEq]) fun i hi => ?_
  simp only [z18, Xq8, if_true, if_false, reduceIte, Nat.reduceAdd, Nat.reduceSub, Nat.reduceLeDiff, Nat.reduceEqDiff, Nat.reduceMul, Nat.reduceLT, Int.reduceLT, Int.reduceLE, Int.reduceEq, fa, fb]
  refine ⟨fun h2 => ?_, fun h2 => ?_⟩
  ·have h3 : i < ys.length := by omega
   have e1 : IntKind.i64.wrap ((i : Int) + 1) = ((i + 1 : Nat) : Int) := ZWo (by have := ha.2; unfold maxLen at this; unfold In64; omega)
   simp only [z18, qdf, Xq8, if_true, if_false, reduceIte, Nat.reduceAdd, Nat.reduceSub, Nat.reduceLeDiff, Nat.reduceEqDiff, Nat.reduceMul, Nat.reduceLT, Int.reduceLT, Int.reduceLE, Int.reduceEq, CO.tmps, Opd.tmps, optT, Nat.reducePow, Nat.reduceDiv, Nat.reduceMod, fa, fb, h2, h3, Zr2, Nat.zero_lt_one, e1]
   refine ⟨fun h4 => Bt.eq (by simp only [AV.b.injEq, Bool.false_eq, decide_eq_false_iff_not]; rintro rfl; exact h4 rfl) (List.append_nil h), fun h4 => ?_⟩
   exact ⟨i + 1, ⟨h2, (qV9 _ h2 h3 hi.2).2 (Decidable.not_not.1 h4)⟩, by omega, Wk.refl _⟩
  ·exact Bt.eq (by simp only [AV.b.injEq, Bool.true_eq, decide_eq_true_eq]; exact (JeS (by omega)).1 ⟨h0, hi.2⟩) (List.append_nil h)
 ·cases e
noncomputable def Ju4 : List AV → List AB → Option (AV × List AB)
 | [a, b], h => (getS dotR h a).bind fun xs => (getS dotR h b).bind fun ys => some (.b (decide (xs = ys)), h)
 | _, _ => none
theorem qTf : Spec Tryz.prog 101 Ju4 := by
 intro args h v h' e
 unfold Ju4 at e
 split at e
 ·rename_i a b
  obtain ⟨xs, ha, e⟩ := zZA e
  obtain ⟨ys, hb, e⟩ := zZA e
  cases e
  refine FnAt.c (FnAt.frz0 fun hz => ?_)
  replace ha := ha.frz
  replace hb := hb.frz
  generalize h.map AB.freeze = h at *
  refine FnAt.run (by kernel_rfl) (T := ⟨[], []⟩) ⟨trivial, trivial⟩ Tryz.func101 zZy fun ho hh => ?_
  simp only [XDC, Bool.and_eq_true] at ho
  have fa := ha.fx ho.1 (sz := 2) rfl
  have fb := hb.fx ho.2.1 (sz := 2) rfl
  unfold w101
  simp only [QhW, YqD, z18, Xq8, if_true, if_false, reduceIte, Nat.reduceAdd, Nat.reduceSub, Nat.reduceLeDiff, Nat.reduceEqDiff, Nat.reduceMul, Nat.reduceLT, Int.reduceLT, Int.reduceLE, Int.reduceEq, fa, fb]
  refine ⟨fun h0 => Bt.eq (by simp only [AV.b.injEq, Bool.false_eq, decide_eq_false_iff_not]; rintro rfl; exact h0 rfl) (List.append_nil h), fun h0 => ?_⟩
  replace h0 : xs.length = ys.length := Decidable.not_not.1 h0
  refine zXO (S := Nat) (fun i => xs.length - i) (fun i => [a, b] ++ tp 10 ++ [.i .i64 xs.length, .i .i64 i] ++ tp 12) (fun i => i ≤ xs.length ∧ xs.take i = ys.take i) 0 ⟨Nat.zero_le _, by simp⟩ (by simp only [z18, Xq8, if_true, if_false, reduceIte, Nat.reduceAdd, Nat.reduceSub, Nat.reduceLeDiff, Nat.reduceEqDiff, Nat.reduceMul, Nat.reduceLT, Int.reduceLT, Int.reduceLE, Int.reduceEq]) fun i hi => ?_
  simp only [z18, Xq8, if_true, if_false, reduceIte, Nat.reduceAdd, Nat.reduceSub, Nat.reduceLeDiff, Nat.reduceEqDiff, Nat.reduceMul, Nat.reduceLT, Int.reduceLT, Int.reduceLE, Int.reduceEq, fa, fb]
  refine ⟨fun h2 => ?_, fun h2 => ?_⟩
  ·have h3 : i < ys.length := by omega
   have e1 : IntKind.i64.wrap ((i : Int) + 1) = ((i + 1 : Nat) : Int) := ZWo (by have := ha.2; unfold maxLen at this; unfold In64; omega)
   simp only [z18, qdf, Xq8, if_true, if_false, reduceIte, Nat.reduceAdd, Nat.reduceSub, Nat.reduceLeDiff, Nat.reduceEqDiff, Nat.reduceMul, Nat.reduceLT, Int.reduceLT, Int.reduceLE, Int.reduceEq, CO.tmps, Opd.tmps, optT, Nat.reducePow, Nat.reduceDiv, Nat.reduceMod, fa, fb, h2, h3, zlA, q9x, Q0x, Nat.zero_lt_one, e1]
   refine ⟨fun h4 => Bt.eq (by simp only [AV.b.injEq, Bool.false_eq, decide_eq_false_iff_not]; rintro rfl; exact h4 rfl) (List.append_nil h), fun h4 => ?_⟩
   exact ⟨i + 1, ⟨h2, (qV9 _ h2 h3 hi.2).2 (Decidable.not_not.1 h4)⟩, by omega, Wk.refl _⟩
  ·exact Bt.eq (by simp only [AV.b.injEq, Bool.true_eq, decide_eq_true_eq]; exact (JeS (by omega)).1 ⟨h0, hi.2⟩) (List.append_nil h)
 ·cases e
end Go.Proofs.YtcncpbcbedfakaaGreat
end
section
namespace Go.Proofs.YtcncpbcbedfakaaGreat
set_option maxRecDepth 100000
noncomputable def qjw : List AV → List AB → Option (AV × List AB)
 | [a], h => (getS intR h a).bind fun xs => if xs.length ≤ 1000000 then some (rsl intR h.length xs, h ++ [resB intR true xs]) else none
 | _, _ => none
theorem QnG : Spec Tryz.prog 56 qjw := by
 intro args h v h' e
 unfold qjw at e
 split at e
 ·rename_i a
  obtain ⟨xs, ha, e⟩ := zZA e
  split at e
  ·rename_i hl
   cases e
   refine FnAt.c ?_
   refine FnAt.run (by kernel_rfl) (T := ⟨[], []⟩) ⟨trivial, trivial⟩ Tryz.func56 sw56 fun ho hh => ?_
   simp only [XDC, Bool.and_eq_true] at ho
   have fa := ha.fx ho.1 (sz := 1) rfl
   have fs := ha.src (sz := 1) rfl
   unfold w56
   by_cases h0 : xs.length = 0
   ·simp only [QhW, YqD, z18, Xq8, if_true, if_false, reduceIte, Nat.reduceAdd, Nat.reduceSub, Nat.reduceLeDiff, Nat.reduceEqDiff, Nat.reduceMul, Nat.reduceLT, Int.reduceLT, Int.reduceLE, Int.reduceEq, fa, fs, h0]
    exact Bt.one 0 hh (fun _ => Wk.empty _ _ _ _ _ _) (by simp) (fun h => absurd h0 h)
   ·simp only [QhW, YqD, z18, Xq8, if_true, if_false, reduceIte, Nat.reduceAdd, Nat.reduceSub, Nat.reduceLeDiff, Nat.reduceEqDiff, Nat.reduceMul, Nat.reduceLT, Int.reduceLT, Int.reduceLE, Int.reduceEq, fa, fs, h0]
    exact ⟨⟨by omega, by unfold maxLen; omega⟩, Bt.one 1 hh (fun h => absurd h h0) (by simp) (fun _ => ⟨rfl, rfl⟩)⟩
  ·cases e
 ·cases e
noncomputable def z1y : List AV → List AB → Option (AV × List AB)
 | [a], h => (getS dotR h a).bind fun xs => if xs.length ≤ 1000000 then some (rsl dotR h.length xs, h ++ [resB dotR true xs]) else none
 | _, _ => none
theorem zmX : Spec Tryz.prog 57 z1y := by
 intro args h v h' e
 unfold z1y at e
 split at e
 ·rename_i a
  obtain ⟨xs, ha, e⟩ := zZA e
  split at e
  ·rename_i hl
   cases e
   refine FnAt.c ?_
   refine FnAt.run (by kernel_rfl) (T := ⟨[], []⟩) ⟨trivial, trivial⟩ Tryz.func57 sw57 fun ho hh => ?_
   simp only [XDC, Bool.and_eq_true] at ho
   have fa := ha.fx ho.1 (sz := 2) rfl
   have fs := ha.src (sz := 2) rfl
   unfold w57
   by_cases h0 : xs.length = 0
   ·simp only [QhW, YqD, z18, Xq8, if_true, if_false, reduceIte, Nat.reduceAdd, Nat.reduceSub, Nat.reduceLeDiff, Nat.reduceEqDiff, Nat.reduceMul, Nat.reduceLT, Int.reduceLT, Int.reduceLE, Int.reduceEq, fa, fs, h0]
    exact Bt.one 0 hh (fun _ => Wk.empty _ _ _ _ _ _) (by simp) (fun h => absurd h0 h)
   ·simp only [QhW, YqD, z18, Xq8, if_true, if_false, reduceIte, Nat.reduceAdd, Nat.reduceSub, Nat.reduceLeDiff, Nat.reduceEqDiff, Nat.reduceMul, Nat.reduceLT, Int.reduceLT, Int.reduceLE, Int.reduceEq, fa, fs, h0]
    exact ⟨⟨by omega, by unfold maxLen; omega⟩, Bt.one 1 hh (fun h => absurd h h0) (by simp) (fun _ => ⟨rfl, rfl⟩)⟩
  ·cases e
 ·cases e
noncomputable def Ynx : List AV → List AB → Option (AV × List AB)
 | [a], h => (getS dotR h a).bind fun xs => if xs.length ≤ 1000000 then some (rsl dotR h.length xs, h ++ [resB dotR true xs]) else none
 | _, _ => none
theorem YmP (h : List AB) (xs : List (Int × Int)) (h0 : xs.length = 0) : FnC Tryz.prog 97 [.se] h (rsl dotR h.length xs) (h ++ [resB dotR true xs]) := by
 refine FnAt.c (FnAt.run (by kernel_rfl) (T := ⟨[], []⟩) ⟨trivial, trivial⟩ Tryz.func97 sw97 fun ho hh => ?_)
 have fs : ∀ x : List AB, srcV (h ++ x) 2 .se = some (0, []) := fun _ => rfl
 unfold w97
 simp only [QhW, YqD, z18, Xq8, if_true, if_false, reduceIte, Nat.reduceAdd, Nat.reduceSub, Nat.reduceLeDiff, Nat.reduceEqDiff, Nat.reduceMul, Nat.reduceLT, Int.reduceLT, Int.reduceLE, Int.reduceEq, fs]
 exact Bt.one 0 hh (fun _ => Wk.empty _ _ _ _ _ _) (by simp) (fun h => absurd h0 h)
theorem XcB (h : List AB) (xs : List (Int × Int)) (h0 : xs.length = 0) : FnC Tryz.prog 97 [.ns] h (rsl dotR h.length xs) (h ++ [resB dotR true xs]) := by
 refine FnAt.c (FnAt.run (by kernel_rfl) (T := ⟨[], []⟩) ⟨trivial, trivial⟩ Tryz.func97 sw97 fun ho hh => ?_)
 unfold w97
 simp only [QhW, YqD, z18, Xq8, if_true, if_false, reduceIte, Nat.reduceAdd, Nat.reduceSub, Nat.reduceLeDiff, Nat.reduceEqDiff, Nat.reduceMul, Nat.reduceLT, Int.reduceLT, Int.reduceLE, Int.reduceEq]
 exact Bt.one0 h0 (Wk.nil _ _)
theorem YHl : Spec Tryz.prog 97 Ynx := by
 intro args h v h' e
 unfold Ynx at e
 split at e
 ·rename_i a
  obtain ⟨xs, ha, e⟩ := zZA e
  split at e
  ·rename_i hl
   cases e
   by_cases hk : ∃ id off cap, a = .sl id off 0 cap (some 0)
   ·obtain ⟨id, off, cap, rfl⟩ := hk
    have h0 : xs.length = 0 := by have := ha.len; simp only [lenV, Option.some.injEq] at this; omega
    exact FnC.empty1 (XcB h xs h0) (YmP h xs h0)
   have hs := ha.isSl
   have hlen := ha.len
   cases a <;> first | (cases hs; done) | skip
   ·rename_i id off len cap k
    have hq : q70 (.sl id off len cap k) .ns = some false := by
     rw [K7c, if_neg]
     rintro ⟨rfl, rfl⟩
     exact hk ⟨_, _, _, rfl⟩
    refine FnAt.c (FnAt.run (by kernel_rfl) (T := ⟨[], []⟩) ⟨trivial, trivial⟩ Tryz.func97 sw97 fun ho hh => ?_)
    simp only [XDC, Bool.and_eq_true] at ho
    have fa := ha.fx ho.1 (sz := 2) rfl
    have fs := ha.src (sz := 2) rfl
    unfold w97
    by_cases h0 : xs.length = 0
    ·simp only [QhW, YqD, z18, Xq8, if_true, if_false, reduceIte, Nat.reduceAdd, Nat.reduceSub, Nat.reduceLeDiff, Nat.reduceEqDiff, Nat.reduceMul, Nat.reduceLT, Int.reduceLT, Int.reduceLE, Int.reduceEq, fa, fs, h0, hq]
     exact Bt.one 0 hh (fun _ => Wk.empty _ _ _ _ _ _) (by simp) (fun h => absurd h0 h)
    ·simp only [QhW, YqD, z18, Xq8, if_true, if_false, reduceIte, Nat.reduceAdd, Nat.reduceSub, Nat.reduceLeDiff, Nat.reduceEqDiff, Nat.reduceMul, Nat.reduceLT, Int.reduceLT, Int.reduceLE, Int.reduceEq, fa, fs, h0, hq]
     exact ⟨⟨by omega, by unfold maxLen; omega⟩, Bt.one 1 hh (fun h => absurd h h0) (by simp) (fun _ => ⟨rfl, rfl⟩)⟩
   ·exact YmP h xs (by simp only [lenV, Option.some.injEq] at hlen; omega)
   ·exact XcB h xs (by simp only [lenV, Option.some.injEq] at hlen; omega)
  ·cases e
 ·cases e
end Go.Proofs.YtcncpbcbedfakaaGreat
end
section
namespace Go.Proofs.YtcncpbcbedfakaaGreat
set_option maxRecDepth 100000
abbrev Dots := List (Int × Int)
abbrev z7z := List Int × Dots
noncomputable def getC (h : List AB) : AV → Option z7z
 | .ag [v, d] => (getS intR h v).bind fun xs => (getS dotR h d).map fun ds => (xs, ds)
 | _ => none
noncomputable def Y7O : List AV → List AB → Option (AV × List AB)
 | [.ag [v, d], .ag [v', d']], h => (getS intR h v).bind fun xs => (getS dotR h d).bind fun ds => (getS intR h v').bind fun xs' => (getS dotR h d').bind fun ds' => some (.b (decide (xs = xs' ∧ ds = ds')), h)
 | _, _ => none
theorem Qn7 : Spec Tryz.prog 30 Y7O := by
 intro args h v h' e
 unfold Y7O at e
 split at e
 ·rename_i v d v' d'
  obtain ⟨xs, hv, e⟩ := zZA e
  obtain ⟨ds, hd, e⟩ := zZA e
  obtain ⟨xs', hv', e⟩ := zZA e
  obtain ⟨ds', hd', e⟩ := zZA e
  cases e
  refine FnAt.c (FnAt.run (by kernel_rfl) (T := ⟨[⟨74, XvN, fun _ => []⟩, ⟨75, Yoy, fun _ => []⟩], []⟩) ⟨⟨X5T, Jez, trivial⟩, trivial⟩ Tryz.func30 sw30 fun ho hh => ?_)
  simp only [XDC, Y8A, Bool.and_eq_true] at ho
  have f1 := hv.fx ho.1.1 (sz := 1) rfl
  have f2 := hd.fx ho.1.2.1 (sz := 2) rfl
  have f3 := hv'.fx ho.2.1.1 (sz := 1) rfl
  have f4 := hd'.fx ho.2.1.2.1 (sz := 2) rfl
  unfold w30
  simp only [QhW, YqD, z18, Xq8, if_true, if_false, reduceIte, Nat.reduceAdd, Nat.reduceSub, Nat.reduceLeDiff, Nat.reduceEqDiff, Nat.reduceMul, Nat.reduceLT, Int.reduceLT, Int.reduceLE, Int.reduceEq, f1, f2, f3, f4, XvN, Yoy]
  refine ⟨fun h1 => Bt.dropB _ hh (by simp [h1]), fun h1 => Bt.dropB _ hh (by simp [h1])⟩
 ·cases e
noncomputable def zkV : List AV → List AB → Option (AV × List AB)
 | [.ag [v, d]], h => (getS intR h v).bind fun xs => (getS dotR h d).bind fun ds => if xs.length ≤ 1000000 ∧ ds.length ≤ 1000000 then some (.ag [rsl intR h.length xs, rsl dotR (h.length + 1) ds], h ++ [resB intR true xs, resB dotR true ds]) else none
 | _, _ => none
theorem Xgt : Spec Tryz.prog 17 zkV := by
 intro args h v h' e
 unfold zkV at e
 split at e
 ·rename_i v d
  obtain ⟨xs, hv, e⟩ := zZA e
  obtain ⟨ds, hd, e⟩ := zZA e
  split at e
  ·rename_i hl
   cases e
   refine FnAt.c (FnAt.frz fun hz => ?_)
   rw [show h.length = (h.map AB.freeze).length from (List.length_map _).symm]
   replace hv := hv.frz
   replace hd := hd.frz
   generalize h.map AB.freeze = h at *
   refine FnAt.run (by kernel_rfl) (T := ⟨[⟨56, qjw, fun _ => []⟩, ⟨57, z1y, fun _ => []⟩], []⟩) ⟨⟨QnG, zmX, trivial⟩, trivial⟩ Tryz.func17 sw17 fun ho hh => ?_
   simp only [XDC, Y8A, Bool.and_eq_true] at ho
   have f1 := hv.fx ho.1.1 (sz := 1) rfl
   have f2 := hd.fx ho.1.2.1 (sz := 2) rfl
   unfold w17
   simp only [QhW, YqD, z18, qdf, Xq8, if_true, if_false, reduceIte, Nat.reduceAdd, Nat.reduceSub, Nat.reduceLeDiff, Nat.reduceEqDiff, Nat.reduceMul, Nat.reduceLT, Int.reduceLT, Int.reduceLE, Int.reduceEq, CO.tmps, Opd.tmps, optT, Nat.reducePow, Nat.reduceDiv, Nat.reduceMod, f1, f2, qjw, z1y, hl.1, hl.2, XUt hh, qDR hz]
   exact Bt.sel [2, 3] hh (by simp) (by simp only [KlE, FrSel, BlkSel, AV.ren, renL, AV.ok, okL, Option.some.injEq, exists_eq_left', List.length_cons, List.length_nil, Nat.reduceAdd, Nat.reduceLT, reduceCtorEq, implies_true, exists_eq']) (by simp only [KlE, FrSel, BlkSel, AV.ren, renL, AV.ok, okL, Option.some.injEq, exists_eq_left', List.length_cons, List.length_nil, Nat.reduceAdd, Nat.reduceLT, reduceCtorEq, implies_true, exists_eq'])
  ·cases e
 ·cases e
end Go.Proofs.YtcncpbcbedfakaaGreat
end
section
namespace Go.Proofs.YtcncpbcbedfakaaGreat
set_option maxRecDepth 100000
noncomputable def qbD : List AV → List AB → Option (AV × List AB)
 | [.ag [s, t]], h => (getS intR h s).bind fun v => (getS dotR h t).bind fun ds => some (.b (decide (20 < v.length ∨ 30 < ds.length)), h)
 | _, _ => none
theorem zof : Spec Tryz.prog 16 qbD := by
 intro args h v h' e
 unfold qbD at e
 split at e
 ·rename_i s t
  obtain ⟨vs, hs, e⟩ := zZA e
  obtain ⟨ds, ht, e⟩ := zZA e
  cases e
  refine FnAt.c (FnAt.run (by kernel_rfl) (T := ⟨[], []⟩) ⟨trivial, trivial⟩ Tryz.func16 sw16 fun ho hh => ?_)
  simp only [XDC, Y8A, Bool.and_eq_true] at ho
  have f1 := hs.fx ho.1.1 (sz := 1) rfl
  have f2 := ht.fx ho.1.2.1 (sz := 2) rfl
  unfold w16
  simp only [QhW, YqD, z18, Xq8, if_true, if_false, reduceIte, Nat.reduceAdd, Nat.reduceSub, Nat.reduceLeDiff, Nat.reduceEqDiff, Nat.reduceMul, Nat.reduceLT, Int.reduceLT, Int.reduceLE, Int.reduceEq, f1, f2]
  refine ⟨fun q => Bt.dropB _ hh (decide_eq_true (.inl (by omega))).symm, fun q => Bt.dropB _ hh (decide_eq_decide.2 ?_)⟩
  omega
 ·cases e
end Go.Proofs.YtcncpbcbedfakaaGreat
end
section
namespace Go.Proofs.YtcncpbcbedfakaaGreat
set_option maxRecDepth 100000
def vAt (xs : List Int) (r : Int) : Int := if r < 1 then 0 else if (xs.length : Int) < r then 0 else max (xs.getD (r - 1).toNat 0) 0
noncomputable def T_At : List AV → List AB → Option (AV × List AB)
 | [s, .i .i64 r], h => (getS intR h s).bind fun xs => some (.i .i64 (vAt xs r), h)
 | _, _ => none
theorem QFU : Spec Tryz.prog 77 T_At := by
 intro args h v h' e
 unfold T_At at e
 split at e
 ·rename_i s r
  obtain ⟨xs, hs, e⟩ := zZA e
  cases e
  refine FnAt.c ?_
  refine FnAt.run (by kernel_rfl) (T := ⟨[], []⟩) ⟨trivial, trivial⟩ Tryz.func77 sw77 fun ha hh => ?_
  simp only [XDC, Bool.and_eq_true] at ha
  have f := hs.fx ha.1 (sz := 1) rfl
  unfold w77
  simp only [QhW, YqD, z18, Xq8, if_true, if_false, reduceIte, Nat.reduceAdd, Nat.reduceSub, Nat.reduceLeDiff, Nat.reduceEqDiff, Nat.reduceMul, Nat.reduceLT, Int.reduceLT, Int.reduceLE, Int.reduceEq, f]
  refine ⟨fun h1 => Bt.eq (by simp [vAt, h1]) (by simp), fun h1 => ⟨fun h2 => Bt.eq (by simp [vAt, h1, h2]) (by simp), fun h2 => ?_⟩⟩
  have e1 : IntKind.i64.wrap (r - 1) = r - 1 := ZWo (by have := hs.2; unfold maxLen at this; unfold In64; omega)
  have h3 : (r - 1).toNat < xs.length := by omega
  have h4 : (0 ≤ r - 1 ∧ r - 1 < (xs.length : Int)) = True := eq_true (by omega)
  simp only [z18, Xq8, if_true, if_false, reduceIte, Nat.reduceAdd, Nat.reduceSub, Nat.reduceLeDiff, Nat.reduceEqDiff, Nat.reduceMul, Nat.reduceLT, Int.reduceLT, Int.reduceLE, Int.reduceEq, f, e1, h3, h4, Zr2, Nat.zero_lt_one]
  exact Bt.eq (by simp [vAt, h1, h2, intR]) (by simp)
 ·cases e
end Go.Proofs.YtcncpbcbedfakaaGreat
end
section
namespace Go.Proofs.YtcncpbcbedfakaaGreat
set_option maxRecDepth 100000
def Jiu : List AV → List AB → Option (AV × List AB)
 | [.i .i64 _], h => some (.b false, h)
 | _, _ => none
theorem qP5 : Spec Tryz.prog 129 Jiu := by
 intro args h v h' e
 unfold Jiu at e
 split at e
 ·cases e
  refine FnAt.c (FnAt.run (by kernel_rfl) (T := ⟨[], []⟩) ⟨trivial, trivial⟩ Tryz.func129 qeF fun ho hh => ?_)
  unfold w129
  simp only [QhW, YqD, z18, Xq8, if_true, if_false, reduceIte, Nat.reduceAdd, Nat.reduceSub, Nat.reduceLeDiff, Nat.reduceEqDiff, Nat.reduceMul, Nat.reduceLT, Int.reduceLT, Int.reduceLE, Int.reduceEq]
  exact Bt.eq rfl (List.append_nil h)
 ·cases e
def cmpI (a b : Int) : Int := if a < b then -1 else if b < a then 1 else 0
def ZHb : List AV → List AB → Option (AV × List AB)
 | [.i .i64 a, .i .i64 b], h => some (.i .i64 (cmpI a b), h)
 | _, _ => none
theorem X4N : Spec Tryz.prog 90 ZHb := by
 intro args h v h' e
 unfold ZHb at e
 split at e
 ·rename_i a b
  cases e
  refine FnAt.c (FnAt.run (by kernel_rfl) (T := ⟨[⟨129, Jiu, fun _ => []⟩], []⟩) ⟨⟨qP5, trivial⟩, trivial⟩ Tryz.func90 sw90 fun ho hh => ?_)
  unfold w90
  simp only [QhW, YqD, z18, Xq8, if_true, if_false, reduceIte, Nat.reduceAdd, Nat.reduceSub, Nat.reduceLeDiff, Nat.reduceEqDiff, Nat.reduceMul, Nat.reduceLT, Int.reduceLT, Int.reduceLE, Int.reduceEq, Jiu]
  refine ⟨fun h1 => Bt.eq (by simp [cmpI, h1]) (List.append_nil h), fun h1 => ⟨fun h2 => Bt.eq (by simp [cmpI, h1, h2]) (List.append_nil h), fun h2 => Bt.eq (by simp [cmpI, h1, h2]) (List.append_nil h)⟩⟩
 ·cases e
def orI : List Int → Int
 | [] => 0
 | a :: l => if a = 0 then orI l else a
theorem KQT {l : List Int} {i : Nat} (hi : i < l.length) : orI (l.drop i) = if l.getD i intR.d = 0 then orI (l.drop (i + 1)) else l.getD i intR.d := by
 rw [List.drop_eq_getElem_cons hi, List.getD_eq_getElem?_getD, List.getElem?_eq_getElem hi]
 rfl
noncomputable def T_Or : List AV → List AB → Option (AV × List AB)
 | [s], h => (getS intR h s).bind fun l => some (.i .i64 (orI l), h)
 | _, _ => none
theorem Jm7 : Spec Tryz.prog 89 T_Or := by
 intro args h v h' e
 unfold T_Or at e
 split at e
 ·rename_i s
  obtain ⟨l, hs, e⟩ := zZA e
  cases e
  refine FnAt.c (FnAt.run (by kernel_rfl) (T := ⟨[], []⟩) ⟨trivial, trivial⟩ Tryz.func89 sw89 fun ho hh => ?_)
  simp only [XDC, Bool.and_eq_true] at ho
  have f1 := hs.fx ho.1 (sz := 1) rfl
  unfold w89
  simp only [QhW, YqD, z18, Xq8, if_true, if_false, reduceIte, Nat.reduceAdd, Nat.reduceSub, Nat.reduceLeDiff, Nat.reduceEqDiff, Nat.reduceMul, Nat.reduceLT, Int.reduceLT, Int.reduceLE, Int.reduceEq, f1]
  refine zXO (S := Nat) (fun i => l.length - i) (fun i => tp 3 ++ [.i .i64 0] ++ tp 2 ++ [s, .i .i64 l.length, .i .i64 i] ++ tp 9) (fun i => i ≤ l.length ∧ orI l = orI (l.drop i)) 0 ⟨Nat.zero_le _, rfl⟩ (by simp only [z18, Xq8, if_true, if_false, reduceIte, Nat.reduceAdd, Nat.reduceSub, Nat.reduceLeDiff, Nat.reduceEqDiff, Nat.reduceMul, Nat.reduceLT, Int.reduceLT, Int.reduceLE, Int.reduceEq]) fun i hi => ?_
  simp only [z18, Xq8, if_true, if_false, reduceIte, Nat.reduceAdd, Nat.reduceSub, Nat.reduceLeDiff, Nat.reduceEqDiff, Nat.reduceMul, Nat.reduceLT, Int.reduceLT, Int.reduceLE, Int.reduceEq, f1]
  refine ⟨fun h2 => ?_, fun h2 => ?_⟩
  ·have e1 : IntKind.i64.wrap ((i : Int) + 1) = ((i + 1 : Nat) : Int) := ZWo (by have := hs.2; unfold maxLen at this; unfold In64; omega)
   have e2 := KQT h2
   simp only [z18, Xq8, if_true, if_false, reduceIte, Nat.reduceAdd, Nat.reduceSub, Nat.reduceLeDiff, Nat.reduceEqDiff, Nat.reduceMul, Nat.reduceLT, Int.reduceLT, Int.reduceLE, Int.reduceEq, f1, h2, Zr2, Nat.zero_lt_one, e1]
   refine ⟨fun h3 => Bt.eq (by rw [hi.2, e2, if_neg h3]) (List.append_nil h), fun h3 => ⟨i + 1, ⟨h2, ?_⟩, by omega, Wk.refl _⟩⟩
   rw [hi.2, e2, if_pos (Decidable.not_not.1 h3)]
  ·exact Bt.eq (by rw [hi.2, List.drop_eq_nil_of_le (by omega)]; rfl) (List.append_nil h)
 ·cases e
def cmpD (a b : Int × Int) : Int := if cmpI a.1 b.1 = 0 then cmpI a.2 b.2 else cmpI a.1 b.1
def JmA : List AV → List AB → Option (AV × List AB)
 | [.ag [.i .i64 a, .i .i64 b], .ag [.i .i64 c, .i .i64 d]], h => some (.i .i64 (cmpD (a, b) (c, d)), h)
 | _, _ => none
theorem Xej : Spec Tryz.prog 99 JmA := by
 intro args h v h' e
 unfold JmA at e
 split at e
 ·rename_i a b c d
  cases e
  refine FnAt.c (FnAt.frz0 fun hz => ?_)
  generalize h.map AB.freeze = h at *
  refine FnAt.run (by kernel_rfl) (T := ⟨[⟨90, ZHb, fun _ => []⟩, ⟨89, T_Or, fun _ => []⟩], []⟩) ⟨⟨X4N, Jm7, trivial⟩, trivial⟩ Tryz.func99 sw99 fun ho hh => ?_
  unfold w99
  simp only [QhW, YqD, z18, qdf, Xq8, if_true, if_false, reduceIte, Nat.reduceAdd, Nat.reduceSub, Nat.reduceLeDiff, Nat.reduceEqDiff, Nat.reduceMul, Nat.reduceLT, Int.reduceLT, Int.reduceLE, Int.reduceEq, CO.tmps, Opd.tmps, optT, Nat.reducePow, Nat.reduceDiv, Nat.reduceMod, ZHb, T_Or, XUt hh, qDR hz]
  exact Bt.dropI _ hh (by simp only [orI, cmpD]; by_cases h1 : cmpI a c = 0 <;> by_cases h2 : cmpI b d = 0 <;> simp [h1, h2])
 ·cases e
def qfE (d : Int × Int) : Prop := 1 ≤ d.1 ∧ d.1 ≤ 16 ∧ 1 ≤ d.2 ∧ d.2 ≤ 1048576
instance (d : Int × Int) : Decidable (qfE d) := by unfold qfE; infer_instance
def Z8L : List AV → List AB → Option (AV × List AB)
 | [.ag [.i .i64 a, .i .i64 b]], h => some (.b (decide (qfE (a, b))), h)
 | _, _ => none
theorem XSC : Spec Tryz.prog 133 Z8L := by
 intro args h v h' e
 unfold Z8L at e
 split at e
 ·rename_i a b
  cases e
  refine FnAt.c (FnAt.run (by kernel_rfl) (T := ⟨[], []⟩) ⟨trivial, trivial⟩ Tryz.func133 qAo fun ho hh => ?_)
  unfold w133
  simp only [QhW, YqD, z18, Xq8, if_true, if_false, reduceIte, Nat.reduceAdd, Nat.reduceSub, Nat.reduceLeDiff, Nat.reduceEqDiff, Nat.reduceMul, Nat.reduceLT, Int.reduceLT, Int.reduceLE, Int.reduceEq]
  refine ⟨fun h1 => ⟨fun h2 => ⟨fun h3 => ?_, fun h3 => ?_⟩, fun h2 => ?_⟩, fun h1 => ?_⟩ <;> exact Bt.dropB _ hh (by simp [qfE, *])
 ·cases e
def QMf : List AV → List AB → Option (AV × List AB)
 | [.i .i64 n], h => some (.b (decide (n < 0 ∨ 1048576 < n)), h)
 | _, _ => none
theorem KHf : Spec Tryz.prog 131 QMf := by
 intro args h v h' e
 unfold QMf at e
 split at e
 ·rename_i n
  cases e
  refine FnAt.c (FnAt.run (by kernel_rfl) (T := ⟨[], []⟩) ⟨trivial, trivial⟩ Tryz.func131 zJk fun ho hh => ?_)
  unfold w131
  simp only [QhW, YqD, z18, Xq8, if_true, if_false, reduceIte, Nat.reduceAdd, Nat.reduceSub, Nat.reduceLeDiff, Nat.reduceEqDiff, Nat.reduceMul, Nat.reduceLT, Int.reduceLT, Int.reduceLE, Int.reduceEq]
  refine ⟨fun h1 => ?_, fun h1 => ?_⟩ <;> exact Bt.eq (by simp [h1]) (List.append_nil h)
 ·cases e
def ZKE : List AV → List AB → Option (AV × List AB)
 | [.ag [.i .i64 a, .i .i64 b]], h => some (.b (decide (¬ qfE (a, b))), h)
 | _, _ => none
theorem X0m : Spec Tryz.prog 132 ZKE := by
 intro args h v h' e
 unfold ZKE at e
 split at e
 ·rename_i a b
  cases e
  refine FnAt.c (FnAt.run (by kernel_rfl) (T := ⟨[⟨133, Z8L, fun _ => []⟩], []⟩) ⟨⟨XSC, trivial⟩, trivial⟩ Tryz.func132 QbL fun ho hh => ?_)
  unfold w132
  simp only [QhW, YqD, z18, Xq8, if_true, if_false, reduceIte, Nat.reduceAdd, Nat.reduceSub, Nat.reduceLeDiff, Nat.reduceEqDiff, Nat.reduceMul, Nat.reduceLT, Int.reduceLT, Int.reduceLE, Int.reduceEq, Z8L]
  exact Bt.dropB _ hh rfl
 ·cases e
end Go.Proofs.YtcncpbcbedfakaaGreat
end
section
namespace Go.Proofs.YtcncpbcbedfakaaGreat
set_option maxRecDepth 100000
def JFo {α : Type} (p : α → Prop) [DecidablePred p] : List α → Nat → Int
 | [], _ => -1
 | a :: l, n => if p a then n else JFo p l (n + 1)
def idx {α : Type} (p : α → Prop) [DecidablePred p] (l : List α) : Int := JFo p l 0
theorem KAA {α : Type} (p : α → Prop) [DecidablePred p] (d : α) {l : List α} (i : Nat) (hi : i < l.length) : JFo p (l.drop i) i = if p (l.getD i d) then (i : Int) else JFo p (l.drop (i + 1)) (i + 1) := by
 rw [List.drop_eq_getElem_cons hi, List.getD_eq_getElem?_getD, List.getElem?_eq_getElem hi]
 rfl
theorem JGS {α : Type} (p : α → Prop) [DecidablePred p] : ∀ (l : List α) (n : Nat), 0 ≤ JFo p l n ↔ ∃ x ∈ l, p x
 | [], n => by simp [JFo]
 | a :: l, n => by
  have := JGS p l (n + 1)
  unfold JFo
  by_cases h : p a
  ·simp [h]
  ·rw [if_neg h, this]
   simp [h]
theorem zwE {α : Type} (p : α → Prop) [DecidablePred p] (l : List α) : 0 ≤ idx p l ↔ ∃ x ∈ l, p x := JGS p l 0
theorem YT0 {T : Env} (hT : T.Ok Tryz.prog) {f : AV} {p : Int → Prop} [DecidablePred p] (hf : ∀ x H, qQG T f [.i .i64 x] H = some (.b (decide (p x)), H)) {h : List AB} {s : AV} {l : List Int} (hs : Rd intR h s l) : FnC Tryz.prog 153 [s, f] h (.i .i64 (idx p l)) h := by
 refine FnAt.c (FnAt.run (by kernel_rfl) hT Tryz.func153 YlW fun ho hh => ?_)
 simp only [XDC, Bool.and_eq_true] at ho
 have f1 := hs.fx ho.1 (sz := 1) rfl
 unfold w153
 simp only [QhW, YqD, z18, Xq8, if_true, if_false, reduceIte, Nat.reduceAdd, Nat.reduceSub, Nat.reduceLeDiff, Nat.reduceEqDiff, Nat.reduceMul, Nat.reduceLT, Int.reduceLT, Int.reduceLE, Int.reduceEq, f1]
 refine zXO (S := Nat) (fun i => l.length - i) (fun i => [s, f] ++ tp 5 ++ [.i .i64 l.length, .i .i64 i] ++ tp 10) (fun i => i ≤ l.length ∧ idx p l = JFo p (l.drop i) i) 0 ⟨Nat.zero_le _, rfl⟩ (by simp only [z18, Xq8, if_true, if_false, reduceIte, Nat.reduceAdd, Nat.reduceSub, Nat.reduceLeDiff, Nat.reduceEqDiff, Nat.reduceMul, Nat.reduceLT, Int.reduceLT, Int.reduceLE, Int.reduceEq]) fun i hi => ?_
 simp only [z18, Xq8, if_true, if_false, reduceIte, Nat.reduceAdd, Nat.reduceSub, Nat.reduceLeDiff, Nat.reduceEqDiff, Nat.reduceMul, Nat.reduceLT, Int.reduceLT, Int.reduceLE, Int.reduceEq, f1]
 refine ⟨fun h2 => ?_, fun h2 => ?_⟩
 ·have e1 : IntKind.i64.wrap ((i : Int) + 1) = ((i + 1 : Nat) : Int) := ZWo (by have := hs.2; unfold maxLen at this; unfold In64; omega)
  have e2 := KAA p intR.d i h2
  simp only [z18, Xq8, if_true, if_false, reduceIte, Nat.reduceAdd, Nat.reduceSub, Nat.reduceLeDiff, Nat.reduceEqDiff, Nat.reduceMul, Nat.reduceLT, Int.reduceLT, Int.reduceLE, Int.reduceEq, f1, h2, Zr2, Nat.zero_lt_one, e1, hf]
  refine ⟨fun h3 => Bt.eq (by rw [hi.2, e2, if_pos h3]) (List.append_nil h), fun h3 => ⟨i + 1, ⟨h2, ?_⟩, by omega, Wk.refl _⟩⟩
  rw [hi.2, e2, if_neg h3]
 ·exact Bt.eq (by rw [hi.2, List.drop_eq_nil_of_le (by omega)]; rfl) (List.append_nil h)
open Classical in
noncomputable def Ym0 (f : AV) (p : Int → Prop) [DecidablePred p] : List AV → List AB → Option (AV × List AB)
 | [s, f'], h => (getS intR h s).bind fun l => if f' = f then some (.i .i64 (idx p l), h) else none
 | _, _ => none
theorem XAA {T : Env} (hT : T.Ok Tryz.prog) {f : AV} {p : Int → Prop} [DecidablePred p] (hf : ∀ x H, qQG T f [.i .i64 x] H = some (.b (decide (p x)), H)) : Spec Tryz.prog 153 (Ym0 f p) := by
 intro args h v h' e
 unfold Ym0 at e
 split at e
 ·rename_i s f'
  obtain ⟨l, hs, e2⟩ := zZA e
  by_cases hff : f' = f
  ·rw [if_pos hff] at e2
   cases e2
   rw [hff]
   exact YT0 hT hf hs
  ·rw [if_neg hff] at e2
   cases e2
 ·cases e
theorem QIS {T : Env} (hT : T.Ok Tryz.prog) {f : AV} {p : Int → Prop} [DecidablePred p] (hf : ∀ x H, qQG T f [.i .i64 x] H = some (.b (decide (p x)), H)) {h : List AB} {s : AV} {l : List Int} (hs : Rd intR h s l) : FnC Tryz.prog 130 [s, f] h (.b (decide (∃ x ∈ l, p x))) h := by
 refine FnAt.c (FnAt.run (by kernel_rfl) (T := ⟨[⟨153, Ym0 f p, fun _ => []⟩], []⟩) ⟨⟨XAA hT hf, trivial⟩, trivial⟩ Tryz.func130 qq4 fun ho hh => ?_)
 simp only [XDC, Bool.and_eq_true] at ho
 have f1 := hs.fx ho.1 (sz := 1) rfl
 unfold w130
 simp only [QhW, YqD, z18, Xq8, if_true, if_false, reduceIte, Nat.reduceAdd, Nat.reduceSub, Nat.reduceLeDiff, Nat.reduceEqDiff, Nat.reduceMul, Nat.reduceLT, Int.reduceLT, Int.reduceLE, Int.reduceEq, f1, Ym0]
 exact Bt.eq (by simp only [AV.b.injEq, decide_eq_decide]; exact zwE p l) (List.append_nil h)
theorem JMu {T : Env} (hT : T.Ok Tryz.prog) {f : AV} {p : (Int × Int) → Prop} [DecidablePred p] (hf : ∀ x H, qQG T f [.ag (dotR.f x)] H = some (.b (decide (p x)), H)) {h : List AB} {s : AV} {l : List (Int × Int)} (hs : Rd dotR h s l) : FnC Tryz.prog 114 [s, f] h (.i .i64 (idx p l)) h := by
 refine FnAt.c (FnAt.run (by kernel_rfl) hT Tryz.func114 Q02 fun ho hh => ?_)
 simp only [XDC, Bool.and_eq_true] at ho
 have f1 := hs.fx ho.1 (sz := 2) rfl
 unfold w114
 simp only [QhW, YqD, z18, Xq8, if_true, if_false, reduceIte, Nat.reduceAdd, Nat.reduceSub, Nat.reduceLeDiff, Nat.reduceEqDiff, Nat.reduceMul, Nat.reduceLT, Int.reduceLT, Int.reduceLE, Int.reduceEq, f1]
 refine zXO (S := Nat) (fun i => l.length - i) (fun i => [s, f] ++ tp 5 ++ [.i .i64 l.length, .i .i64 i] ++ tp 10) (fun i => i ≤ l.length ∧ idx p l = JFo p (l.drop i) i) 0 ⟨Nat.zero_le _, rfl⟩ (by simp only [z18, Xq8, if_true, if_false, reduceIte, Nat.reduceAdd, Nat.reduceSub, Nat.reduceLeDiff, Nat.reduceEqDiff, Nat.reduceMul, Nat.reduceLT, Int.reduceLT, Int.reduceLE, Int.reduceEq]) fun i hi => ?_
 simp only [z18, Xq8, if_true, if_false, reduceIte, Nat.reduceAdd, Nat.reduceSub, Nat.reduceLeDiff, Nat.reduceEqDiff, Nat.reduceMul, Nat.reduceLT, Int.reduceLT, Int.reduceLE, Int.reduceEq, f1]
 refine ⟨fun h2 => ?_, fun h2 => ?_⟩
 ·have e1 : IntKind.i64.wrap ((i : Int) + 1) = ((i + 1 : Nat) : Int) := ZWo (by have := hs.2; unfold maxLen at this; unfold In64; omega)
  have e2 := KAA p dotR.d i h2
  simp only [z18, Xq8, if_true, if_false, reduceIte, Nat.reduceAdd, Nat.reduceSub, Nat.reduceLeDiff, Nat.reduceEqDiff, Nat.reduceMul, Nat.reduceLT, Int.reduceLT, Int.reduceLE, Int.reduceEq, f1, h2, Nat.zero_lt_one, e1, hf]
  refine ⟨fun h3 => Bt.eq (by rw [hi.2, e2, if_pos h3]) (List.append_nil h), fun h3 => ⟨i + 1, ⟨h2, ?_⟩, by omega, Wk.refl _⟩⟩
  rw [hi.2, e2, if_neg h3]
 ·exact Bt.eq (by rw [hi.2, List.drop_eq_nil_of_le (by omega)]; rfl) (List.append_nil h)
open Classical in
noncomputable def ZzL (f : AV) (p : (Int × Int) → Prop) [DecidablePred p] : List AV → List AB → Option (AV × List AB)
 | [s, f'], h => (getS dotR h s).bind fun l => if f' = f then some (.i .i64 (idx p l), h) else none
 | _, _ => none
theorem zHa {T : Env} (hT : T.Ok Tryz.prog) {f : AV} {p : (Int × Int) → Prop} [DecidablePred p] (hf : ∀ x H, qQG T f [.ag (dotR.f x)] H = some (.b (decide (p x)), H)) : Spec Tryz.prog 114 (ZzL f p) := by
 intro args h v h' e
 unfold ZzL at e
 split at e
 ·rename_i s f'
  obtain ⟨l, hs, e2⟩ := zZA e
  by_cases hff : f' = f
  ·rw [if_pos hff] at e2
   cases e2
   rw [hff]
   exact JMu hT hf hs
  ·rw [if_neg hff] at e2
   cases e2
 ·cases e
theorem XhQ {T : Env} (hT : T.Ok Tryz.prog) {f : AV} {p : (Int × Int) → Prop} [DecidablePred p] (hf : ∀ x H, qQG T f [.ag (dotR.f x)] H = some (.b (decide (p x)), H)) {h : List AB} {s : AV} {l : List (Int × Int)} (hs : Rd dotR h s l) : FnC Tryz.prog 79 [s, f] h (.b (decide (∃ x ∈ l, p x))) h := by
 refine FnAt.c (FnAt.run (by kernel_rfl) (T := ⟨[⟨114, ZzL f p, fun _ => []⟩], []⟩) ⟨⟨zHa hT hf, trivial⟩, trivial⟩ Tryz.func79 sw79 fun ho hh => ?_)
 simp only [XDC, Bool.and_eq_true] at ho
 have f1 := hs.fx ho.1 (sz := 2) rfl
 unfold w79
 simp only [QhW, YqD, z18, Xq8, if_true, if_false, reduceIte, Nat.reduceAdd, Nat.reduceSub, Nat.reduceLeDiff, Nat.reduceEqDiff, Nat.reduceMul, Nat.reduceLT, Int.reduceLT, Int.reduceLE, Int.reduceEq, f1, ZzL]
 exact Bt.eq (by simp only [AV.b.injEq, decide_eq_decide]; exact zwE p l) (List.append_nil h)
def qD3 (v : List Int) (l : Dots) : Prop := v.length ≤ 16 ∧ (∀ n ∈ v, 0 ≤ n ∧ n ≤ 1048576) ∧ ∀ d ∈ l, qfE d
instance (v : List Int) (l : Dots) : Decidable (qD3 v l) := by unfold qD3; infer_instance
noncomputable def JBa : List AV → List AB → Option (AV × List AB)
 | [s, .f (.func 131) [] []], h => (getS intR h s).bind fun l => some (.b (decide (∃ n ∈ l, n < 0 ∨ 1048576 < n)), h)
 | _, _ => none
theorem KiP : Spec Tryz.prog 130 JBa := by
 intro args h v h' e
 unfold JBa at e
 split at e
 ·obtain ⟨l, hs, e⟩ := zZA e
  cases e
  exact QIS (T := ⟨[⟨131, QMf, fun _ => []⟩], []⟩) ⟨⟨KHf, trivial⟩, trivial⟩ (fun x H => by simp only [z18, Xq8, if_true, if_false, reduceIte, Nat.reduceAdd, Nat.reduceSub, Nat.reduceLeDiff, Nat.reduceEqDiff, Nat.reduceMul, Nat.reduceLT, Int.reduceLT, Int.reduceLE, Int.reduceEq, QMf]) hs
 ·cases e
noncomputable def z0O : List AV → List AB → Option (AV × List AB)
 | [s, .f (.func 132) [] []], h => (getS dotR h s).bind fun l => some (.b (decide (∃ d ∈ l, ¬ qfE d)), h)
 | _, _ => none
theorem qyC : Spec Tryz.prog 79 z0O := by
 intro args h v h' e
 unfold z0O at e
 split at e
 ·obtain ⟨l, hs, e⟩ := zZA e
  cases e
  exact XhQ (T := ⟨[⟨132, ZKE, fun _ => []⟩], []⟩) ⟨⟨X0m, trivial⟩, trivial⟩ (fun x H => by simp only [z18, Xq8, if_true, if_false, reduceIte, Nat.reduceAdd, Nat.reduceSub, Nat.reduceLeDiff, Nat.reduceEqDiff, Nat.reduceMul, Nat.reduceLT, Int.reduceLT, Int.reduceLE, Int.reduceEq, ZKE, zBW]) hs
 ·cases e
noncomputable def qPX : List AV → List AB → Option (AV × List AB)
 | [s, t], h => (getS intR h s).bind fun v => (getS dotR h t).bind fun l => some (.b (decide (qD3 v l)), h)
 | _, _ => none
theorem Xg6 : Spec Tryz.prog 96 qPX := by
 intro args h v h' e
 unfold qPX at e
 split at e
 ·rename_i s t
  obtain ⟨vs, hs, e⟩ := zZA e
  obtain ⟨l, ht, e⟩ := zZA e
  cases e
  refine FnAt.c (FnAt.run (by kernel_rfl) (T := ⟨[⟨130, JBa, fun _ => []⟩, ⟨79, z0O, fun _ => []⟩], []⟩) ⟨⟨KiP, qyC, trivial⟩, trivial⟩ Tryz.func96 sw96 fun ho hh => ?_)
  simp only [XDC, Bool.and_eq_true] at ho
  have f1 := hs.fx ho.1 (sz := 1) rfl
  have f2 := ht.fx ho.2.1 (sz := 2) rfl
  unfold w96
  simp only [QhW, YqD, z18, Xq8, if_true, if_false, reduceIte, Nat.reduceAdd, Nat.reduceSub, Nat.reduceLeDiff, Nat.reduceEqDiff, Nat.reduceMul, Nat.reduceLT, Int.reduceLT, Int.reduceLE, Int.reduceEq, f1, f2, JBa, z0O]
  have key : (¬ ∃ n ∈ vs, n < 0 ∨ 1048576 < n) ↔ ∀ n ∈ vs, 0 ≤ n ∧ n ≤ 1048576 := ⟨fun h n hn => by
   have : ¬ (n < 0 ∨ 1048576 < n) := fun q => h ⟨n, hn, q⟩
   omega, fun h ⟨n, hn, q⟩ => by have := h n hn; omega⟩
  refine ⟨fun h1 => ⟨fun h2 => Bt.eq ?_ (List.append_nil h), fun h2 => Bt.eq ?_ (List.append_nil h)⟩, fun h1 => Bt.eq ?_ (List.append_nil h)⟩
  ·refine congrArg AV.b (decide_eq_decide.2 ?_)
   exact ⟨fun h3 => ⟨by omega, key.1 h2, fun d hd => Decidable.byContradiction fun q => h3 ⟨d, hd, q⟩⟩, fun ⟨_, _, h3⟩ ⟨d, hd, q⟩ => q (h3 d hd)⟩
  ·simp only [AV.b.injEq, Bool.false_eq, decide_eq_false_iff_not]
   exact fun h => h2 (key.2 h.2.1)
  ·simp only [AV.b.injEq, Bool.false_eq, decide_eq_false_iff_not]
   exact fun h => h1 (by have := h.1; omega)
 ·cases e
end Go.Proofs.YtcncpbcbedfakaaGreat
end
