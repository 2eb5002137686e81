/- Part 16 of what the laws' proofs rest on. No condition. -/
import Derived.Test.YtcncpbcbedfakaaGreatRn15
set_option linter.all false
section
namespace Go.Proofs.YtcncpbcbedfakaaGreat
theorem take_both {α : Type} {xs ys : List α} {i : Nat} (d : α) (hx : i < xs.length) (hy : i < ys.length) (e : xs.take i = ys.take i) : (xs.take (i + 1) = ys.take (i + 1)) ↔ xs.getD i d = ys.getD i d := by
 rw [List.take_succ_eq_append_getElem hx, List.take_succ_eq_append_getElem hy, e, List.append_right_inj, List.getD_eq_getElem?_getD, List.getD_eq_getElem?_getD, List.getElem?_eq_getElem hx, List.getElem?_eq_getElem hy]
 simp
theorem take_all {α : Type} {xs ys : List α} {i : Nat} (hi : xs.length ≤ i) : (xs.length = ys.length ∧ xs.take i = ys.take i) ↔ xs = ys := by
 constructor
 ·rintro ⟨h1, h2⟩
  rwa [List.take_of_length_le hi, List.take_of_length_le (by omega)] at h2
 ·rintro rfl
  exact ⟨rfl, rfl⟩
theorem take_not {α : Type} {xs ys : List α} {i : Nat} (h : ¬ (xs.length = ys.length ∧ xs.take i = ys.take i)) : ¬ xs = ys := by
 rintro rfl
 exact h ⟨rfl, rfl⟩
end Go.Proofs.YtcncpbcbedfakaaGreat
end
section
namespace Go.Proofs.YtcncpbcbedfakaaGreat
set_option maxRecDepth 100000
set_option linter.unusedSimpArgs false
noncomputable def T_SameInts : List AV → List AB → Option (AV × List AB)
 | [a, b], h => (getS intR h a).bind fun xs => (getS intR h b).bind fun ys => some (.b (decide (xs = ys)), h)
 | _, _ => none
theorem SameInts_spec : Spec Tryz.prog 74 T_SameInts := by
 intro args h v h' e
 unfold T_SameInts at e
 split at e
 ·rename_i a b
  obtain ⟨xs, ha, e⟩ := getS_bind e
  obtain ⟨ys, hb, e⟩ := getS_bind e
  cases e
  refine FnAt.c (FnAt.frz0 fun hz => ?_)
  replace ha := ha.frz
  replace hb := hb.frz
  generalize h.map AB.freeze = h at *
  refine FnAt.run (by kernel_rfl) (T := ⟨[], []⟩) ⟨trivial, trivial⟩ Tryz.func74 sw74 fun ho hh => ?_
  simp only [okL_cons, Bool.and_eq_true] at ho
  have fa := ha.fx ho.1 (sz := 1) rfl
  have fb := hb.fx ho.2.1 (sz := 1) rfl
  unfold w74
  simp only [rep_0, rep_s, walkW, walkX, if_true, if_false, reduceIte, Nat.reduceAdd, Nat.reduceSub, Nat.reduceLeDiff, Nat.reduceEqDiff, Nat.reduceMul, Nat.reduceLT, Int.reduceLT, Int.reduceLE, Int.reduceEq, fa, fb]
  refine W_loopF (S := Nat) (fun i => xs.length - i) (fun i => [a, b] ++ tp 3 ++ [.b (decide (xs.length = ys.length ∧ xs.take i = ys.take i)), .i .i64 i] ++ tp 24) (fun i => xs.length = ys.length → i ≤ xs.length) 0 (fun _ => Nat.zero_le _) (by simp only [walkW, walkX, if_true, if_false, reduceIte, Nat.reduceAdd, Nat.reduceSub, Nat.reduceLeDiff, Nat.reduceEqDiff, Nat.reduceMul, Nat.reduceLT, Int.reduceLT, Int.reduceLE, Int.reduceEq, List.take_zero]) fun i hi => ?_
  simp only [walkW, walkX, if_true, if_false, reduceIte, Nat.reduceAdd, Nat.reduceSub, Nat.reduceLeDiff, Nat.reduceEqDiff, Nat.reduceMul, Nat.reduceLT, Int.reduceLT, Int.reduceLE, Int.reduceEq, fa, fb]
  refine ⟨fun h1 => ⟨fun h2 => ?_, fun h2 => ?_⟩, fun h1 => ?_⟩
  ·have h3 : i < ys.length := by omega
   have e1 : IntKind.i64.wrap ((i : Int) + 1) = ((i + 1 : Nat) : Int) := wrap_in (by have := ha.2; unfold maxLen at this; unfold In64; omega)
   simp only [walkW, walkD, walkX, if_true, if_false, reduceIte, Nat.reduceAdd, Nat.reduceSub, Nat.reduceLeDiff, Nat.reduceEqDiff, Nat.reduceMul, Nat.reduceLT, Int.reduceLT, Int.reduceLE, Int.reduceEq, CO.tmps, Opd.tmps, optT, Nat.reducePow, Nat.reduceDiv, Nat.reduceMod, fa, fb, h2, h3, intR_f, Nat.zero_lt_one, e1]
   refine ⟨i + 1, fun _ => h2, by omega, ?_, Wk.refl _⟩
   have e2 : (xs.length = ys.length ∧ xs.take (i + 1) = ys.take (i + 1)) = (xs.getD i intR.d = ys.getD i intR.d) := propext (by rw [and_iff_right h1.1]; exact take_both _ h2 h3 h1.2)
   simp only [e2, Wk_refl]
  ·exact Bt.eq (by simp only [AV.b.injEq, decide_eq_decide]; exact take_all (by omega)) (List.append_nil h)
  ·exact Bt.eq (by simp only [AV.b.injEq, decide_eq_decide]; exact iff_of_false h1 (take_not h1)) (List.append_nil h)
 ·cases e
noncomputable def T_SameDots : List AV → List AB → Option (AV × List AB)
 | [a, b], h => (getS dotR h a).bind fun xs => (getS dotR h b).bind fun ys => some (.b (decide (xs = ys)), h)
 | _, _ => none
theorem SameDots_spec : Spec Tryz.prog 75 T_SameDots := by
 intro args h v h' e
 unfold T_SameDots at e
 split at e
 ·rename_i a b
  obtain ⟨xs, ha, e⟩ := getS_bind e
  obtain ⟨ys, hb, e⟩ := getS_bind e
  cases e
  refine FnAt.c (FnAt.frz0 fun hz => ?_)
  replace ha := ha.frz
  replace hb := hb.frz
  generalize h.map AB.freeze = h at *
  refine FnAt.run (by kernel_rfl) (T := ⟨[], []⟩) ⟨trivial, trivial⟩ Tryz.func75 sw75 fun ho hh => ?_
  simp only [okL_cons, Bool.and_eq_true] at ho
  have fa := ha.fx ho.1 (sz := 2) rfl
  have fb := hb.fx ho.2.1 (sz := 2) rfl
  unfold w75
  simp only [rep_0, rep_s, walkW, walkX, if_true, if_false, reduceIte, Nat.reduceAdd, Nat.reduceSub, Nat.reduceLeDiff, Nat.reduceEqDiff, Nat.reduceMul, Nat.reduceLT, Int.reduceLT, Int.reduceLE, Int.reduceEq, fa, fb]
  refine W_loopF (S := Nat) (fun i => xs.length - i) (fun i => [a, b] ++ tp 3 ++ [.b (decide (xs.length = ys.length ∧ xs.take i = ys.take i)), .i .i64 i] ++ tp 24) (fun i => xs.length = ys.length → i ≤ xs.length) 0 (fun _ => Nat.zero_le _) (by simp only [walkW, walkX, if_true, if_false, reduceIte, Nat.reduceAdd, Nat.reduceSub, Nat.reduceLeDiff, Nat.reduceEqDiff, Nat.reduceMul, Nat.reduceLT, Int.reduceLT, Int.reduceLE, Int.reduceEq, List.take_zero]) fun i hi => ?_
  simp only [walkW, walkX, if_true, if_false, reduceIte, Nat.reduceAdd, Nat.reduceSub, Nat.reduceLeDiff, Nat.reduceEqDiff, Nat.reduceMul, Nat.reduceLT, Int.reduceLT, Int.reduceLE, Int.reduceEq, fa, fb]
  refine ⟨fun h1 => ⟨fun h2 => ?_, fun h2 => ?_⟩, fun h1 => ?_⟩
  ·have h3 : i < ys.length := by omega
   have e1 : IntKind.i64.wrap ((i : Int) + 1) = ((i + 1 : Nat) : Int) := wrap_in (by have := ha.2; unfold maxLen at this; unfold In64; omega)
   simp only [walkW, walkD, walkX, if_true, if_false, reduceIte, Nat.reduceAdd, Nat.reduceSub, Nat.reduceLeDiff, Nat.reduceEqDiff, Nat.reduceMul, Nat.reduceLT, Int.reduceLT, Int.reduceLE, Int.reduceEq, CO.tmps, Opd.tmps, optT, Nat.reducePow, Nat.reduceDiv, Nat.reduceMod, fa, fb, h2, h3, eqc_dot, xor_f, dot_ok, Nat.zero_lt_one, e1]
   refine ⟨i + 1, fun _ => h2, by omega, ?_, Wk.refl _⟩
   have e2 : (xs.length = ys.length ∧ xs.take (i + 1) = ys.take (i + 1)) = (xs.getD i dotR.d = ys.getD i dotR.d) := propext (by rw [and_iff_right h1.1]; exact take_both _ h2 h3 h1.2)
   simp only [e2, Wk_refl]
  ·exact Bt.eq (by simp only [AV.b.injEq, decide_eq_decide]; exact take_all (by omega)) (List.append_nil h)
  ·exact Bt.eq (by simp only [AV.b.injEq, decide_eq_decide]; exact iff_of_false h1 (take_not h1)) (List.append_nil h)
 ·cases e
noncomputable def T_EqInts : List AV → List AB → Option (AV × List AB)
 | [a, b], h => (getS intR h a).bind fun xs => (getS intR h b).bind fun ys => some (.b (decide (xs = ys)), h)
 | _, _ => none
theorem EqInts_spec : Spec Tryz.prog 100 T_EqInts := by
 intro args h v h' e
 unfold T_EqInts at e
 split at e
 ·rename_i a b
  obtain ⟨xs, ha, e⟩ := getS_bind e
  obtain ⟨ys, hb, e⟩ := getS_bind e
  cases e
  refine FnAt.c (FnAt.frz0 fun hz => ?_)
  replace ha := ha.frz
  replace hb := hb.frz
  generalize h.map AB.freeze = h at *
  refine FnAt.run (by kernel_rfl) (T := ⟨[], []⟩) ⟨trivial, trivial⟩ Tryz.func100 sw100 fun ho hh => ?_
  simp only [okL_cons, Bool.and_eq_true] at ho
  have fa := ha.fx ho.1 (sz := 1) rfl
  have fb := hb.fx ho.2.1 (sz := 1) rfl
  unfold w100
  simp only [rep_0, rep_s, walkW, walkX, if_true, if_false, reduceIte, Nat.reduceAdd, Nat.reduceSub, Nat.reduceLeDiff, Nat.reduceEqDiff, Nat.reduceMul, Nat.reduceLT, Int.reduceLT, Int.reduceLE, Int.reduceEq, fa, fb]
  refine ⟨fun h0 => Bt.eq (by simp only [AV.b.injEq, Bool.false_eq, decide_eq_false_iff_not]; rintro rfl; exact h0 rfl) (List.append_nil h), fun h0 => ?_⟩
  replace h0 : xs.length = ys.length := Decidable.not_not.1 h0
  refine W_loopF (S := Nat) (fun i => xs.length - i) (fun i => [a, b] ++ tp 10 ++ [.i .i64 xs.length, .i .i64 i] ++ tp 12) (fun i => i ≤ xs.length ∧ xs.take i = ys.take i) 0 ⟨Nat.zero_le _, by simp⟩ (by simp only [walkW, walkX, if_true, if_false, reduceIte, Nat.reduceAdd, Nat.reduceSub, Nat.reduceLeDiff, Nat.reduceEqDiff, Nat.reduceMul, Nat.reduceLT, Int.reduceLT, Int.reduceLE, Int.reduceEq]) fun i hi => ?_
  simp only [walkW, walkX, if_true, if_false, reduceIte, Nat.reduceAdd, Nat.reduceSub, Nat.reduceLeDiff, Nat.reduceEqDiff, Nat.reduceMul, Nat.reduceLT, Int.reduceLT, Int.reduceLE, Int.reduceEq, fa, fb]
  refine ⟨fun h2 => ?_, fun h2 => ?_⟩
  ·have h3 : i < ys.length := by omega
   have e1 : IntKind.i64.wrap ((i : Int) + 1) = ((i + 1 : Nat) : Int) := wrap_in (by have := ha.2; unfold maxLen at this; unfold In64; omega)
   simp only [walkW, walkD, walkX, if_true, if_false, reduceIte, Nat.reduceAdd, Nat.reduceSub, Nat.reduceLeDiff, Nat.reduceEqDiff, Nat.reduceMul, Nat.reduceLT, Int.reduceLT, Int.reduceLE, Int.reduceEq, CO.tmps, Opd.tmps, optT, Nat.reducePow, Nat.reduceDiv, Nat.reduceMod, fa, fb, h2, h3, intR_f, Nat.zero_lt_one, e1]
   refine ⟨fun h4 => Bt.eq (by simp only [AV.b.injEq, Bool.false_eq, decide_eq_false_iff_not]; rintro rfl; exact h4 rfl) (List.append_nil h), fun h4 => ?_⟩
   exact ⟨i + 1, ⟨h2, (take_both _ h2 h3 hi.2).2 (Decidable.not_not.1 h4)⟩, by omega, Wk.refl _⟩
  ·exact Bt.eq (by simp only [AV.b.injEq, Bool.true_eq, decide_eq_true_eq]; exact (take_all (by omega)).1 ⟨h0, hi.2⟩) (List.append_nil h)
 ·cases e
noncomputable def T_EqDots : List AV → List AB → Option (AV × List AB)
 | [a, b], h => (getS dotR h a).bind fun xs => (getS dotR h b).bind fun ys => some (.b (decide (xs = ys)), h)
 | _, _ => none
theorem EqDots_spec : Spec Tryz.prog 101 T_EqDots := by
 intro args h v h' e
 unfold T_EqDots at e
 split at e
 ·rename_i a b
  obtain ⟨xs, ha, e⟩ := getS_bind e
  obtain ⟨ys, hb, e⟩ := getS_bind e
  cases e
  refine FnAt.c (FnAt.frz0 fun hz => ?_)
  replace ha := ha.frz
  replace hb := hb.frz
  generalize h.map AB.freeze = h at *
  refine FnAt.run (by kernel_rfl) (T := ⟨[], []⟩) ⟨trivial, trivial⟩ Tryz.func101 sw101 fun ho hh => ?_
  simp only [okL_cons, Bool.and_eq_true] at ho
  have fa := ha.fx ho.1 (sz := 2) rfl
  have fb := hb.fx ho.2.1 (sz := 2) rfl
  unfold w101
  simp only [rep_0, rep_s, walkW, walkX, if_true, if_false, reduceIte, Nat.reduceAdd, Nat.reduceSub, Nat.reduceLeDiff, Nat.reduceEqDiff, Nat.reduceMul, Nat.reduceLT, Int.reduceLT, Int.reduceLE, Int.reduceEq, fa, fb]
  refine ⟨fun h0 => Bt.eq (by simp only [AV.b.injEq, Bool.false_eq, decide_eq_false_iff_not]; rintro rfl; exact h0 rfl) (List.append_nil h), fun h0 => ?_⟩
  replace h0 : xs.length = ys.length := Decidable.not_not.1 h0
  refine W_loopF (S := Nat) (fun i => xs.length - i) (fun i => [a, b] ++ tp 10 ++ [.i .i64 xs.length, .i .i64 i] ++ tp 12) (fun i => i ≤ xs.length ∧ xs.take i = ys.take i) 0 ⟨Nat.zero_le _, by simp⟩ (by simp only [walkW, walkX, if_true, if_false, reduceIte, Nat.reduceAdd, Nat.reduceSub, Nat.reduceLeDiff, Nat.reduceEqDiff, Nat.reduceMul, Nat.reduceLT, Int.reduceLT, Int.reduceLE, Int.reduceEq]) fun i hi => ?_
  simp only [walkW, walkX, if_true, if_false, reduceIte, Nat.reduceAdd, Nat.reduceSub, Nat.reduceLeDiff, Nat.reduceEqDiff, Nat.reduceMul, Nat.reduceLT, Int.reduceLT, Int.reduceLE, Int.reduceEq, fa, fb]
  refine ⟨fun h2 => ?_, fun h2 => ?_⟩
  ·have h3 : i < ys.length := by omega
   have e1 : IntKind.i64.wrap ((i : Int) + 1) = ((i + 1 : Nat) : Int) := wrap_in (by have := ha.2; unfold maxLen at this; unfold In64; omega)
   simp only [walkW, walkD, walkX, if_true, if_false, reduceIte, Nat.reduceAdd, Nat.reduceSub, Nat.reduceLeDiff, Nat.reduceEqDiff, Nat.reduceMul, Nat.reduceLT, Int.reduceLT, Int.reduceLE, Int.reduceEq, CO.tmps, Opd.tmps, optT, Nat.reducePow, Nat.reduceDiv, Nat.reduceMod, fa, fb, h2, h3, eqc_dot, xor_t, dot_ok, Nat.zero_lt_one, e1]
   refine ⟨fun h4 => Bt.eq (by simp only [AV.b.injEq, Bool.false_eq, decide_eq_false_iff_not]; rintro rfl; exact h4 rfl) (List.append_nil h), fun h4 => ?_⟩
   exact ⟨i + 1, ⟨h2, (take_both _ h2 h3 hi.2).2 (Decidable.not_not.1 h4)⟩, by omega, Wk.refl _⟩
  ·exact Bt.eq (by simp only [AV.b.injEq, Bool.true_eq, decide_eq_true_eq]; exact (take_all (by omega)).1 ⟨h0, hi.2⟩) (List.append_nil h)
 ·cases e
end Go.Proofs.YtcncpbcbedfakaaGreat
end
section
namespace Go.Proofs.YtcncpbcbedfakaaGreat
set_option maxRecDepth 100000
set_option linter.unusedSimpArgs false
noncomputable def T_CopyInts : List AV → List AB → Option (AV × List AB)
 | [a], h => (getS intR h a).bind fun xs => if xs.length ≤ 1000000 then some (rsl intR h.length xs, h ++ [resB intR true xs]) else none
 | _, _ => none
theorem CopyInts_spec : Spec Tryz.prog 56 T_CopyInts := by
 intro args h v h' e
 unfold T_CopyInts at e
 split at e
 ·rename_i a
  obtain ⟨xs, ha, e⟩ := getS_bind e
  split at e
  ·rename_i hl
   cases e
   refine FnAt.c ?_
   refine FnAt.run (by kernel_rfl) (T := ⟨[], []⟩) ⟨trivial, trivial⟩ Tryz.func56 sw56 fun ho hh => ?_
   simp only [okL_cons, Bool.and_eq_true] at ho
   have fa := ha.fx ho.1 (sz := 1) rfl
   have fs := ha.src (sz := 1) rfl
   unfold w56
   by_cases h0 : xs.length = 0
   ·simp only [rep_0, rep_s, walkW, walkX, if_true, if_false, reduceIte, Nat.reduceAdd, Nat.reduceSub, Nat.reduceLeDiff, Nat.reduceEqDiff, Nat.reduceMul, Nat.reduceLT, Int.reduceLT, Int.reduceLE, Int.reduceEq, fa, fs, h0]
    exact Bt.one 0 hh (fun _ => Wk.empty _ _ _ _ _ _) (by simp) (fun h => absurd h0 h)
   ·simp only [rep_0, rep_s, walkW, walkX, if_true, if_false, reduceIte, Nat.reduceAdd, Nat.reduceSub, Nat.reduceLeDiff, Nat.reduceEqDiff, Nat.reduceMul, Nat.reduceLT, Int.reduceLT, Int.reduceLE, Int.reduceEq, fa, fs, h0]
    exact ⟨⟨by omega, by unfold maxLen; omega⟩, Bt.one 1 hh (fun h => absurd h h0) (by simp) (fun _ => ⟨rfl, rfl⟩)⟩
  ·cases e
 ·cases e
noncomputable def T_CopyDots : List AV → List AB → Option (AV × List AB)
 | [a], h => (getS dotR h a).bind fun xs => if xs.length ≤ 1000000 then some (rsl dotR h.length xs, h ++ [resB dotR true xs]) else none
 | _, _ => none
theorem CopyDots_spec : Spec Tryz.prog 57 T_CopyDots := by
 intro args h v h' e
 unfold T_CopyDots at e
 split at e
 ·rename_i a
  obtain ⟨xs, ha, e⟩ := getS_bind e
  split at e
  ·rename_i hl
   cases e
   refine FnAt.c ?_
   refine FnAt.run (by kernel_rfl) (T := ⟨[], []⟩) ⟨trivial, trivial⟩ Tryz.func57 sw57 fun ho hh => ?_
   simp only [okL_cons, Bool.and_eq_true] at ho
   have fa := ha.fx ho.1 (sz := 2) rfl
   have fs := ha.src (sz := 2) rfl
   unfold w57
   by_cases h0 : xs.length = 0
   ·simp only [rep_0, rep_s, walkW, walkX, if_true, if_false, reduceIte, Nat.reduceAdd, Nat.reduceSub, Nat.reduceLeDiff, Nat.reduceEqDiff, Nat.reduceMul, Nat.reduceLT, Int.reduceLT, Int.reduceLE, Int.reduceEq, fa, fs, h0]
    exact Bt.one 0 hh (fun _ => Wk.empty _ _ _ _ _ _) (by simp) (fun h => absurd h0 h)
   ·simp only [rep_0, rep_s, walkW, walkX, if_true, if_false, reduceIte, Nat.reduceAdd, Nat.reduceSub, Nat.reduceLeDiff, Nat.reduceEqDiff, Nat.reduceMul, Nat.reduceLT, Int.reduceLT, Int.reduceLE, Int.reduceEq, fa, fs, h0]
    exact ⟨⟨by omega, by unfold maxLen; omega⟩, Bt.one 1 hh (fun h => absurd h h0) (by simp) (fun _ => ⟨rfl, rfl⟩)⟩
  ·cases e
 ·cases e
noncomputable def T_CloneDots : List AV → List AB → Option (AV × List AB)
 | [a], h => (getS dotR h a).bind fun xs => if xs.length ≤ 1000000 then some (rsl dotR h.length xs, h ++ [resB dotR true xs]) else none
 | _, _ => none
theorem CloneDots_se (h : List AB) (xs : List (Int × Int)) (h0 : xs.length = 0) : FnC Tryz.prog 97 [.se] h (rsl dotR h.length xs) (h ++ [resB dotR true xs]) := by
 refine FnAt.c (FnAt.run (by kernel_rfl) (T := ⟨[], []⟩) ⟨trivial, trivial⟩ Tryz.func97 sw97 fun ho hh => ?_)
 have fs : ∀ x : List AB, srcV (h ++ x) 2 .se = some (0, []) := fun _ => rfl
 unfold w97
 simp only [rep_0, rep_s, walkW, walkX, if_true, if_false, reduceIte, Nat.reduceAdd, Nat.reduceSub, Nat.reduceLeDiff, Nat.reduceEqDiff, Nat.reduceMul, Nat.reduceLT, Int.reduceLT, Int.reduceLE, Int.reduceEq, fs]
 exact Bt.one 0 hh (fun _ => Wk.empty _ _ _ _ _ _) (by simp) (fun h => absurd h0 h)
theorem CloneDots_ns (h : List AB) (xs : List (Int × Int)) (h0 : xs.length = 0) : FnC Tryz.prog 97 [.ns] h (rsl dotR h.length xs) (h ++ [resB dotR true xs]) := by
 refine FnAt.c (FnAt.run (by kernel_rfl) (T := ⟨[], []⟩) ⟨trivial, trivial⟩ Tryz.func97 sw97 fun ho hh => ?_)
 unfold w97
 simp only [rep_0, rep_s, walkW, walkX, if_true, if_false, reduceIte, Nat.reduceAdd, Nat.reduceSub, Nat.reduceLeDiff, Nat.reduceEqDiff, Nat.reduceMul, Nat.reduceLT, Int.reduceLT, Int.reduceLE, Int.reduceEq]
 exact Bt.one0 h0 (Wk.nil _ _)
theorem CloneDots_spec : Spec Tryz.prog 97 T_CloneDots := by
 intro args h v h' e
 unfold T_CloneDots at e
 split at e
 ·rename_i a
  obtain ⟨xs, ha, e⟩ := getS_bind e
  split at e
  ·rename_i hl
   cases e
   by_cases hk : ∃ id off cap, a = .sl id off 0 cap (some 0)
   ·obtain ⟨id, off, cap, rfl⟩ := hk
    have h0 : xs.length = 0 := by have := ha.len; simp only [lenV, Option.some.injEq] at this; omega
    exact FnC.empty1 (CloneDots_ns h xs h0) (CloneDots_se h xs h0)
   have hs := ha.isSl
   have hlen := ha.len
   cases a <;> first | (cases hs; done) | skip
   ·rename_i id off len cap k
    have hq : eqNil (.sl id off len cap k) .ns = some false := by
     rw [eqNil_sl, if_neg]
     rintro ⟨rfl, rfl⟩
     exact hk ⟨_, _, _, rfl⟩
    refine FnAt.c (FnAt.run (by kernel_rfl) (T := ⟨[], []⟩) ⟨trivial, trivial⟩ Tryz.func97 sw97 fun ho hh => ?_)
    simp only [okL_cons, Bool.and_eq_true] at ho
    have fa := ha.fx ho.1 (sz := 2) rfl
    have fs := ha.src (sz := 2) rfl
    unfold w97
    by_cases h0 : xs.length = 0
    ·simp only [rep_0, rep_s, walkW, walkX, if_true, if_false, reduceIte, Nat.reduceAdd, Nat.reduceSub, Nat.reduceLeDiff, Nat.reduceEqDiff, Nat.reduceMul, Nat.reduceLT, Int.reduceLT, Int.reduceLE, Int.reduceEq, fa, fs, h0, hq]
     exact Bt.one 0 hh (fun _ => Wk.empty _ _ _ _ _ _) (by simp) (fun h => absurd h0 h)
    ·simp only [rep_0, rep_s, walkW, walkX, if_true, if_false, reduceIte, Nat.reduceAdd, Nat.reduceSub, Nat.reduceLeDiff, Nat.reduceEqDiff, Nat.reduceMul, Nat.reduceLT, Int.reduceLT, Int.reduceLE, Int.reduceEq, fa, fs, h0, hq]
     exact ⟨⟨by omega, by unfold maxLen; omega⟩, Bt.one 1 hh (fun h => absurd h h0) (by simp) (fun _ => ⟨rfl, rfl⟩)⟩
   ·exact CloneDots_se h xs (by simp only [lenV, Option.some.injEq] at hlen; omega)
   ·exact CloneDots_ns h xs (by simp only [lenV, Option.some.injEq] at hlen; omega)
  ·cases e
 ·cases e
end Go.Proofs.YtcncpbcbedfakaaGreat
end
section
namespace Go.Proofs.YtcncpbcbedfakaaGreat
set_option maxRecDepth 100000
set_option linter.unusedSimpArgs false
abbrev Dots := List (Int × Int)
abbrev Cloud := List Int × Dots
noncomputable def getC (h : List AB) : AV → Option Cloud
 | .ag [v, d] => (getS intR h v).bind fun xs => (getS dotR h d).map fun ds => (xs, ds)
 | _ => none
noncomputable def T_SameCloud : List AV → List AB → Option (AV × List AB)
 | [.ag [v, d], .ag [v', d']], h => (getS intR h v).bind fun xs => (getS dotR h d).bind fun ds => (getS intR h v').bind fun xs' => (getS dotR h d').bind fun ds' => some (.b (decide (xs = xs' ∧ ds = ds')), h)
 | _, _ => none
theorem SameCloud_spec : Spec Tryz.prog 30 T_SameCloud := by
 intro args h v h' e
 unfold T_SameCloud at e
 split at e
 ·rename_i v d v' d'
  obtain ⟨xs, hv, e⟩ := getS_bind e
  obtain ⟨ds, hd, e⟩ := getS_bind e
  obtain ⟨xs', hv', e⟩ := getS_bind e
  obtain ⟨ds', hd', e⟩ := getS_bind e
  cases e
  refine FnAt.c (FnAt.run (by kernel_rfl) (T := ⟨[⟨74, T_SameInts, fun _ => []⟩, ⟨75, T_SameDots, fun _ => []⟩], []⟩) ⟨⟨SameInts_spec, SameDots_spec, trivial⟩, trivial⟩ Tryz.func30 sw30 fun ho hh => ?_)
  simp only [okL_cons, ok_ag, Bool.and_eq_true] at ho
  have f1 := hv.fx ho.1.1 (sz := 1) rfl
  have f2 := hd.fx ho.1.2.1 (sz := 2) rfl
  have f3 := hv'.fx ho.2.1.1 (sz := 1) rfl
  have f4 := hd'.fx ho.2.1.2.1 (sz := 2) rfl
  unfold w30
  simp only [rep_0, rep_s, walkW, walkX, if_true, if_false, reduceIte, Nat.reduceAdd, Nat.reduceSub, Nat.reduceLeDiff, Nat.reduceEqDiff, Nat.reduceMul, Nat.reduceLT, Int.reduceLT, Int.reduceLE, Int.reduceEq, f1, f2, f3, f4, T_SameInts, T_SameDots]
  refine ⟨fun h1 => Bt.dropB _ hh (by simp [h1]), fun h1 => Bt.dropB _ hh (by simp [h1])⟩
 ·cases e
noncomputable def T_CopyCloud : List AV → List AB → Option (AV × List AB)
 | [.ag [v, d]], h => (getS intR h v).bind fun xs => (getS dotR h d).bind fun ds => if xs.length ≤ 1000000 ∧ ds.length ≤ 1000000 then some (.ag [rsl intR h.length xs, rsl dotR (h.length + 1) ds], h ++ [resB intR true xs, resB dotR true ds]) else none
 | _, _ => none
end Go.Proofs.YtcncpbcbedfakaaGreat
end
section
namespace Go.Proofs.YtcncpbcbedfakaaGreat
set_option maxRecDepth 100000
set_option linter.unusedSimpArgs false
noncomputable def T_Long : List AV → List AB → Option (AV × List AB)
 | [.ag [s, t]], h => (getS intR h s).bind fun v => (getS dotR h t).bind fun ds => some (.b (decide (20 < v.length ∨ 30 < ds.length)), h)
 | _, _ => none
theorem Long_spec : Spec Tryz.prog 16 T_Long := by
 intro args h v h' e
 unfold T_Long at e
 split at e
 ·rename_i s t
  obtain ⟨vs, hs, e⟩ := getS_bind e
  obtain ⟨ds, ht, e⟩ := getS_bind e
  cases e
  refine FnAt.c (FnAt.run (by kernel_rfl) (T := ⟨[], []⟩) ⟨trivial, trivial⟩ Tryz.func16 sw16 fun ho hh => ?_)
  simp only [okL_cons, ok_ag, Bool.and_eq_true] at ho
  have f1 := hs.fx ho.1.1 (sz := 1) rfl
  have f2 := ht.fx ho.1.2.1 (sz := 2) rfl
  unfold w16
  simp only [rep_0, rep_s, walkW, walkX, if_true, if_false, reduceIte, Nat.reduceAdd, Nat.reduceSub, Nat.reduceLeDiff, Nat.reduceEqDiff, Nat.reduceMul, Nat.reduceLT, Int.reduceLT, Int.reduceLE, Int.reduceEq, f1, f2]
  refine ⟨fun q => Bt.dropB _ hh (decide_eq_true (.inl (by omega))).symm, fun q => Bt.dropB _ hh (decide_eq_decide.2 ?_)⟩
  omega
 ·cases e
def T_Pick : List AV → List AB → Option (AV × List AB)
 | [.i .i64 a, .i .i64 b], h => if (-9223372036854775808 ≤ a ∧ a ≤ 9223372036854775807) ∧ (-9223372036854775808 ≤ b ∧ b ≤ 9223372036854775807) then some (.i .i64 (if b ≤ 0 then 0 else a % b), h) else none
 | _, _ => none
theorem Pick_spec : Spec Tryz.prog 40 T_Pick := by
 intro args h v h' e
 unfold T_Pick at e
 split at e
 ·rename_i a b
  split at e
  ·rename_i hc
   obtain ⟨ha, hb⟩ := hc
   cases e
   refine FnAt.c (FnAt.run (by kernel_rfl) (T := ⟨[], []⟩) ⟨trivial, trivial⟩ Tryz.func40 sw40 fun ho hh => ?_)
   unfold w40
   by_cases h0 : b ≤ 0
   ·have h0' := eq_true h0
    simp only [rep_0, rep_s, walkW, walkX, if_true, if_false, reduceIte, Nat.reduceAdd, Nat.reduceSub, Nat.reduceLeDiff, Nat.reduceEqDiff, Nat.reduceMul, Nat.reduceLT, Int.reduceLT, Int.reduceLE, Int.reduceEq, h0']
    exact ⟨Bt.eq rfl (List.append_nil h), fun q => q.elim⟩
   ·have h0' := eq_false h0
    have e1 : binV .rem (.i .i64 a) (.i .i64 b) = some (.i .i64 (a.tmod b)) := by
     show (if b = 0 then none else some (AV.i .i64 (a.tmod b))) = _
     rw [if_neg (by omega)]
    have t1 : -b < a.tmod b ∧ a.tmod b < b := ⟨Int.lt_tmod_of_pos a (by omega), Int.tmod_lt_of_pos a (by omega)⟩
    have em : a % b = a.tmod b % b := by
     have h1 := Int.mul_tdiv_add_tmod a b
     conv => lhs; rw [← h1]
     exact Int.mul_add_emod_self_left b _ _
    rw [if_neg h0]
    by_cases hn : a.tmod b < 0
    ·have e2 : IntKind.i64.wrap (a.tmod b + b) = a.tmod b + b := wrap_in (by unfold In64; omega)
     have e3 : a % b = a.tmod b + b := by rw [em, ← Int.add_emod_right, Int.emod_eq_of_lt (by omega) (by omega)]
     have hn' := eq_true hn
     simp only [rep_0, rep_s, walkW, walkX, if_true, if_false, reduceIte, Nat.reduceAdd, Nat.reduceSub, Nat.reduceLeDiff, Nat.reduceEqDiff, Nat.reduceMul, Nat.reduceLT, Int.reduceLT, Int.reduceLE, Int.reduceEq, h0', e1, e2, hn']
     first
      | exact ⟨fun q => q.elim, Bt.eq (by rw [e3]) (List.append_nil h), fun q => q.elim⟩
      | exact ⟨fun q => q.elim, fun _ => Bt.eq (by rw [e3]) (List.append_nil h), fun q => absurd hn q⟩
    ·have e3 : a % b = a.tmod b := by rw [em, Int.emod_eq_of_lt (by omega) (by omega)]
     have hn' := eq_false hn
     simp only [rep_0, rep_s, walkW, walkX, if_true, if_false, reduceIte, Nat.reduceAdd, Nat.reduceSub, Nat.reduceLeDiff, Nat.reduceEqDiff, Nat.reduceMul, Nat.reduceLT, Int.reduceLT, Int.reduceLE, Int.reduceEq, h0', e1, hn']
     exact ⟨fun q => q.elim, fun q => q.elim, Bt.eq (by rw [e3]) (List.append_nil h)⟩
  ·cases e
 ·cases e
end Go.Proofs.YtcncpbcbedfakaaGreat
end
section
namespace Go.Proofs.YtcncpbcbedfakaaGreat
set_option maxRecDepth 100000
set_option linter.unusedSimpArgs false
def vAt (xs : List Int) (r : Int) : Int := if r < 1 then 0 else if (xs.length : Int) < r then 0 else max (xs.getD (r - 1).toNat 0) 0
noncomputable def T_At : List AV → List AB → Option (AV × List AB)
 | [s, .i .i64 r], h => (getS intR h s).bind fun xs => some (.i .i64 (vAt xs r), h)
 | _, _ => none
theorem at_spec : Spec Tryz.prog 77 T_At := by
 intro args h v h' e
 unfold T_At at e
 split at e
 ·rename_i s r
  obtain ⟨xs, hs, e⟩ := getS_bind e
  cases e
  refine FnAt.c ?_
  refine FnAt.run (by kernel_rfl) (T := ⟨[], []⟩) ⟨trivial, trivial⟩ Tryz.func77 sw77 fun ha hh => ?_
  simp only [okL_cons, Bool.and_eq_true] at ha
  have f := hs.fx ha.1 (sz := 1) rfl
  unfold w77
  simp only [rep_0, rep_s, walkW, walkX, if_true, if_false, reduceIte, Nat.reduceAdd, Nat.reduceSub, Nat.reduceLeDiff, Nat.reduceEqDiff, Nat.reduceMul, Nat.reduceLT, Int.reduceLT, Int.reduceLE, Int.reduceEq, f]
  refine ⟨fun h1 => Bt.eq (by simp [vAt, h1]) (by simp), fun h1 => ⟨fun h2 => Bt.eq (by simp [vAt, h1, h2]) (by simp), fun h2 => ?_⟩⟩
  have e1 : IntKind.i64.wrap (r - 1) = r - 1 := wrap_in (by have := hs.2; unfold maxLen at this; unfold In64; omega)
  have h3 : (r - 1).toNat < xs.length := by omega
  have h4 : (0 ≤ r - 1 ∧ r - 1 < (xs.length : Int)) = True := eq_true (by omega)
  simp only [walkW, walkX, if_true, if_false, reduceIte, Nat.reduceAdd, Nat.reduceSub, Nat.reduceLeDiff, Nat.reduceEqDiff, Nat.reduceMul, Nat.reduceLT, Int.reduceLT, Int.reduceLE, Int.reduceEq, f, e1, h3, h4, intR_f, Nat.zero_lt_one]
  exact Bt.eq (by simp [vAt, h1, h2, intR]) (by simp)
 ·cases e
end Go.Proofs.YtcncpbcbedfakaaGreat
end
section
namespace Go.Proofs.YtcncpbcbedfakaaGreat
set_option maxRecDepth 100000
set_option linter.unusedSimpArgs false
def T_isNaN : List AV → List AB → Option (AV × List AB)
 | [.i .i64 _], h => some (.b false, h)
 | _, _ => none
theorem isNaN_spec : Spec Tryz.prog 129 T_isNaN := by
 intro args h v h' e
 unfold T_isNaN at e
 split at e
 ·cases e
  refine FnAt.c (FnAt.run (by kernel_rfl) (T := ⟨[], []⟩) ⟨trivial, trivial⟩ Tryz.func129 sw129 fun ho hh => ?_)
  unfold w129
  simp only [rep_0, rep_s, walkW, walkX, if_true, if_false, reduceIte, Nat.reduceAdd, Nat.reduceSub, Nat.reduceLeDiff, Nat.reduceEqDiff, Nat.reduceMul, Nat.reduceLT, Int.reduceLT, Int.reduceLE, Int.reduceEq]
  exact Bt.eq rfl (List.append_nil h)
 ·cases e
def cmpI (a b : Int) : Int := if a < b then -1 else if b < a then 1 else 0
def T_Compare : List AV → List AB → Option (AV × List AB)
 | [.i .i64 a, .i .i64 b], h => some (.i .i64 (cmpI a b), h)
 | _, _ => none
theorem Compare_spec : Spec Tryz.prog 90 T_Compare := by
 intro args h v h' e
 unfold T_Compare at e
 split at e
 ·rename_i a b
  cases e
  refine FnAt.c (FnAt.run (by kernel_rfl) (T := ⟨[⟨129, T_isNaN, fun _ => []⟩], []⟩) ⟨⟨isNaN_spec, trivial⟩, trivial⟩ Tryz.func90 sw90 fun ho hh => ?_)
  unfold w90
  simp only [rep_0, rep_s, walkW, walkX, if_true, if_false, reduceIte, Nat.reduceAdd, Nat.reduceSub, Nat.reduceLeDiff, Nat.reduceEqDiff, Nat.reduceMul, Nat.reduceLT, Int.reduceLT, Int.reduceLE, Int.reduceEq, T_isNaN]
  refine ⟨fun h1 => Bt.eq (by simp [cmpI, h1]) (List.append_nil h), fun h1 => ⟨fun h2 => Bt.eq (by simp [cmpI, h1, h2]) (List.append_nil h), fun h2 => Bt.eq (by simp [cmpI, h1, h2]) (List.append_nil h)⟩⟩
 ·cases e
def orI : List Int → Int
 | [] => 0
 | a :: l => if a = 0 then orI l else a
theorem orI_drop {l : List Int} {i : Nat} (hi : i < l.length) : orI (l.drop i) = if l.getD i intR.d = 0 then orI (l.drop (i + 1)) else l.getD i intR.d := by
 rw [List.drop_eq_getElem_cons hi, List.getD_eq_getElem?_getD, List.getElem?_eq_getElem hi]
 rfl
noncomputable def T_Or : List AV → List AB → Option (AV × List AB)
 | [s], h => (getS intR h s).bind fun l => some (.i .i64 (orI l), h)
 | _, _ => none
theorem Or_spec : Spec Tryz.prog 89 T_Or := by
 intro args h v h' e
 unfold T_Or at e
 split at e
 ·rename_i s
  obtain ⟨l, hs, e⟩ := getS_bind e
  cases e
  refine FnAt.c (FnAt.run (by kernel_rfl) (T := ⟨[], []⟩) ⟨trivial, trivial⟩ Tryz.func89 sw89 fun ho hh => ?_)
  simp only [okL_cons, Bool.and_eq_true] at ho
  have f1 := hs.fx ho.1 (sz := 1) rfl
  unfold w89
  simp only [rep_0, rep_s, walkW, walkX, if_true, if_false, reduceIte, Nat.reduceAdd, Nat.reduceSub, Nat.reduceLeDiff, Nat.reduceEqDiff, Nat.reduceMul, Nat.reduceLT, Int.reduceLT, Int.reduceLE, Int.reduceEq, f1]
  refine W_loopF (S := Nat) (fun i => l.length - i) (fun i => tp 3 ++ [.i .i64 0] ++ tp 2 ++ [s, .i .i64 l.length, .i .i64 i] ++ tp 9) (fun i => i ≤ l.length ∧ orI l = orI (l.drop i)) 0 ⟨Nat.zero_le _, rfl⟩ (by simp only [walkW, walkX, if_true, if_false, reduceIte, Nat.reduceAdd, Nat.reduceSub, Nat.reduceLeDiff, Nat.reduceEqDiff, Nat.reduceMul, Nat.reduceLT, Int.reduceLT, Int.reduceLE, Int.reduceEq]) fun i hi => ?_
  simp only [walkW, walkX, if_true, if_false, reduceIte, Nat.reduceAdd, Nat.reduceSub, Nat.reduceLeDiff, Nat.reduceEqDiff, Nat.reduceMul, Nat.reduceLT, Int.reduceLT, Int.reduceLE, Int.reduceEq, f1]
  refine ⟨fun h2 => ?_, fun h2 => ?_⟩
  ·have e1 : IntKind.i64.wrap ((i : Int) + 1) = ((i + 1 : Nat) : Int) := wrap_in (by have := hs.2; unfold maxLen at this; unfold In64; omega)
   have e2 := orI_drop h2
   simp only [walkW, walkX, if_true, if_false, reduceIte, Nat.reduceAdd, Nat.reduceSub, Nat.reduceLeDiff, Nat.reduceEqDiff, Nat.reduceMul, Nat.reduceLT, Int.reduceLT, Int.reduceLE, Int.reduceEq, f1, h2, intR_f, Nat.zero_lt_one, e1]
   refine ⟨fun h3 => Bt.eq (by rw [hi.2, e2, if_neg h3]) (List.append_nil h), fun h3 => ⟨i + 1, ⟨h2, ?_⟩, by omega, Wk.refl _⟩⟩
   rw [hi.2, e2, if_pos (Decidable.not_not.1 h3)]
  ·exact Bt.eq (by rw [hi.2, List.drop_eq_nil_of_le (by omega)]; rfl) (List.append_nil h)
 ·cases e
def cmpD (a b : Int × Int) : Int := if cmpI a.1 b.1 = 0 then cmpI a.2 b.2 else cmpI a.1 b.1
def T_compare : List AV → List AB → Option (AV × List AB)
 | [.ag [.i .i64 a, .i .i64 b], .ag [.i .i64 c, .i .i64 d]], h => some (.i .i64 (cmpD (a, b) (c, d)), h)
 | _, _ => none
theorem compare_spec : Spec Tryz.prog 99 T_compare := by
 intro args h v h' e
 unfold T_compare at e
 split at e
 ·rename_i a b c d
  cases e
  refine FnAt.c (FnAt.frz0 fun hz => ?_)
  generalize h.map AB.freeze = h at *
  refine FnAt.run (by kernel_rfl) (T := ⟨[⟨90, T_Compare, fun _ => []⟩, ⟨89, T_Or, fun _ => []⟩], []⟩) ⟨⟨Compare_spec, Or_spec, trivial⟩, trivial⟩ Tryz.func99 sw99 fun ho hh => ?_
  unfold w99
  simp only [rep_0, rep_s, walkW, walkD, walkX, if_true, if_false, reduceIte, Nat.reduceAdd, Nat.reduceSub, Nat.reduceLeDiff, Nat.reduceEqDiff, Nat.reduceMul, Nat.reduceLT, Int.reduceLT, Int.reduceLE, Int.reduceEq, CO.tmps, Opd.tmps, optT, Nat.reducePow, Nat.reduceDiv, Nat.reduceMod, T_Compare, T_Or, HOk_own hh, mask_own hz]
  exact Bt.dropI _ hh (by simp only [orI, cmpD]; by_cases h1 : cmpI a c = 0 <;> by_cases h2 : cmpI b d = 0 <;> simp [h1, h2])
 ·cases e
def dottedP (d : Int × Int) : Prop := 1 ≤ d.1 ∧ d.1 ≤ 16 ∧ 1 ≤ d.2 ∧ d.2 ≤ 1048576
instance (d : Int × Int) : Decidable (dottedP d) := by unfold dottedP; infer_instance
def T_dotted : List AV → List AB → Option (AV × List AB)
 | [.ag [.i .i64 a, .i .i64 b]], h => some (.b (decide (dottedP (a, b))), h)
 | _, _ => none
theorem dotted_spec : Spec Tryz.prog 133 T_dotted := by
 intro args h v h' e
 unfold T_dotted at e
 split at e
 ·rename_i a b
  cases e
  refine FnAt.c (FnAt.run (by kernel_rfl) (T := ⟨[], []⟩) ⟨trivial, trivial⟩ Tryz.func133 sw133 fun ho hh => ?_)
  unfold w133
  simp only [rep_0, rep_s, walkW, walkX, if_true, if_false, reduceIte, Nat.reduceAdd, Nat.reduceSub, Nat.reduceLeDiff, Nat.reduceEqDiff, Nat.reduceMul, Nat.reduceLT, Int.reduceLT, Int.reduceLE, Int.reduceEq]
  refine ⟨fun h1 => ⟨fun h2 => ⟨fun h3 => ?_, fun h3 => ?_⟩, fun h2 => ?_⟩, fun h1 => ?_⟩ <;> exact Bt.dropB _ hh (by simp [dottedP, *])
 ·cases e
def T_bad : List AV → List AB → Option (AV × List AB)
 | [.i .i64 n], h => some (.b (decide (n < 0 ∨ 1048576 < n)), h)
 | _, _ => none
theorem bad_spec : Spec Tryz.prog 131 T_bad := by
 intro args h v h' e
 unfold T_bad at e
 split at e
 ·rename_i n
  cases e
  refine FnAt.c (FnAt.run (by kernel_rfl) (T := ⟨[], []⟩) ⟨trivial, trivial⟩ Tryz.func131 sw131 fun ho hh => ?_)
  unfold w131
  simp only [rep_0, rep_s, walkW, walkX, if_true, if_false, reduceIte, Nat.reduceAdd, Nat.reduceSub, Nat.reduceLeDiff, Nat.reduceEqDiff, Nat.reduceMul, Nat.reduceLT, Int.reduceLT, Int.reduceLE, Int.reduceEq]
  refine ⟨fun h1 => ?_, fun h1 => ?_⟩ <;> exact Bt.eq (by simp [h1]) (List.append_nil h)
 ·cases e
def T_odd : List AV → List AB → Option (AV × List AB)
 | [.ag [.i .i64 a, .i .i64 b]], h => some (.b (decide (¬ dottedP (a, b))), h)
 | _, _ => none
theorem odd_spec : Spec Tryz.prog 132 T_odd := by
 intro args h v h' e
 unfold T_odd at e
 split at e
 ·rename_i a b
  cases e
  refine FnAt.c (FnAt.run (by kernel_rfl) (T := ⟨[⟨133, T_dotted, fun _ => []⟩], []⟩) ⟨⟨dotted_spec, trivial⟩, trivial⟩ Tryz.func132 sw132 fun ho hh => ?_)
  unfold w132
  simp only [rep_0, rep_s, walkW, walkX, if_true, if_false, reduceIte, Nat.reduceAdd, Nat.reduceSub, Nat.reduceLeDiff, Nat.reduceEqDiff, Nat.reduceMul, Nat.reduceLT, Int.reduceLT, Int.reduceLE, Int.reduceEq, T_dotted]
  exact Bt.dropB _ hh rfl
 ·cases e
end Go.Proofs.YtcncpbcbedfakaaGreat
end
section
namespace Go.Proofs.YtcncpbcbedfakaaGreat
set_option maxRecDepth 100000
set_option linter.unusedSimpArgs false
def idxFrom {α : Type} (p : α → Prop) [DecidablePred p] : List α → Nat → Int
 | [], _ => -1
 | a :: l, n => if p a then n else idxFrom p l (n + 1)
def idx {α : Type} (p : α → Prop) [DecidablePred p] (l : List α) : Int := idxFrom p l 0
theorem idx_drop {α : Type} (p : α → Prop) [DecidablePred p] (d : α) {l : List α} (i : Nat) (hi : i < l.length) : idxFrom p (l.drop i) i = if p (l.getD i d) then (i : Int) else idxFrom p (l.drop (i + 1)) (i + 1) := by
 rw [List.drop_eq_getElem_cons hi, List.getD_eq_getElem?_getD, List.getElem?_eq_getElem hi]
 rfl
theorem idxFrom_has {α : Type} (p : α → Prop) [DecidablePred p] : ∀ (l : List α) (n : Nat), 0 ≤ idxFrom p l n ↔ ∃ x ∈ l, p x
 | [], n => by simp [idxFrom]
 | a :: l, n => by
  have := idxFrom_has p l (n + 1)
  unfold idxFrom
  by_cases h : p a
  ·simp [h]
  ·rw [if_neg h, this]
   simp [h]
theorem idx_has {α : Type} (p : α → Prop) [DecidablePred p] (l : List α) : 0 ≤ idx p l ↔ ∃ x ∈ l, p x := idxFrom_has p l 0
theorem indexI {T : Env} (hT : T.Ok Tryz.prog) {f : AV} {p : Int → Prop} [DecidablePred p] (hf : ∀ x H, callE T f [.i .i64 x] H = some (.b (decide (p x)), H)) {h : List AB} {s : AV} {l : List Int} (hs : Rd intR h s l) : FnC Tryz.prog 153 [s, f] h (.i .i64 (idx p l)) h := by
 refine FnAt.c (FnAt.run (by kernel_rfl) hT Tryz.func153 sw153 fun ho hh => ?_)
 simp only [okL_cons, Bool.and_eq_true] at ho
 have f1 := hs.fx ho.1 (sz := 1) rfl
 unfold w153
 simp only [rep_0, rep_s, walkW, walkX, if_true, if_false, reduceIte, Nat.reduceAdd, Nat.reduceSub, Nat.reduceLeDiff, Nat.reduceEqDiff, Nat.reduceMul, Nat.reduceLT, Int.reduceLT, Int.reduceLE, Int.reduceEq, f1]
 refine W_loopF (S := Nat) (fun i => l.length - i) (fun i => [s, f] ++ tp 5 ++ [.i .i64 l.length, .i .i64 i] ++ tp 10) (fun i => i ≤ l.length ∧ idx p l = idxFrom p (l.drop i) i) 0 ⟨Nat.zero_le _, rfl⟩ (by simp only [walkW, walkX, if_true, if_false, reduceIte, Nat.reduceAdd, Nat.reduceSub, Nat.reduceLeDiff, Nat.reduceEqDiff, Nat.reduceMul, Nat.reduceLT, Int.reduceLT, Int.reduceLE, Int.reduceEq]) fun i hi => ?_
 simp only [walkW, walkX, if_true, if_false, reduceIte, Nat.reduceAdd, Nat.reduceSub, Nat.reduceLeDiff, Nat.reduceEqDiff, Nat.reduceMul, Nat.reduceLT, Int.reduceLT, Int.reduceLE, Int.reduceEq, f1]
 refine ⟨fun h2 => ?_, fun h2 => ?_⟩
 ·have e1 : IntKind.i64.wrap ((i : Int) + 1) = ((i + 1 : Nat) : Int) := wrap_in (by have := hs.2; unfold maxLen at this; unfold In64; omega)
  have e2 := idx_drop p intR.d i h2
  simp only [walkW, walkX, if_true, if_false, reduceIte, Nat.reduceAdd, Nat.reduceSub, Nat.reduceLeDiff, Nat.reduceEqDiff, Nat.reduceMul, Nat.reduceLT, Int.reduceLT, Int.reduceLE, Int.reduceEq, f1, h2, intR_f, Nat.zero_lt_one, e1, hf]
  refine ⟨fun h3 => Bt.eq (by rw [hi.2, e2, if_pos h3]) (List.append_nil h), fun h3 => ⟨i + 1, ⟨h2, ?_⟩, by omega, Wk.refl _⟩⟩
  rw [hi.2, e2, if_neg h3]
 ·exact Bt.eq (by rw [hi.2, List.drop_eq_nil_of_le (by omega)]; rfl) (List.append_nil h)
open Classical in
noncomputable def TIdxI (f : AV) (p : Int → Prop) [DecidablePred p] : List AV → List AB → Option (AV × List AB)
 | [s, f'], h => (getS intR h s).bind fun l => if f' = f then some (.i .i64 (idx p l), h) else none
 | _, _ => none
theorem tIdxI {T : Env} (hT : T.Ok Tryz.prog) {f : AV} {p : Int → Prop} [DecidablePred p] (hf : ∀ x H, callE T f [.i .i64 x] H = some (.b (decide (p x)), H)) : Spec Tryz.prog 153 (TIdxI f p) := by
 intro args h v h' e
 unfold TIdxI at e
 split at e
 ·rename_i s f'
  obtain ⟨l, hs, e2⟩ := getS_bind e
  by_cases hff : f' = f
  ·rw [if_pos hff] at e2
   cases e2
   rw [hff]
   exact indexI hT hf hs
  ·rw [if_neg hff] at e2
   cases e2
 ·cases e
theorem containsI {T : Env} (hT : T.Ok Tryz.prog) {f : AV} {p : Int → Prop} [DecidablePred p] (hf : ∀ x H, callE T f [.i .i64 x] H = some (.b (decide (p x)), H)) {h : List AB} {s : AV} {l : List Int} (hs : Rd intR h s l) : FnC Tryz.prog 130 [s, f] h (.b (decide (∃ x ∈ l, p x))) h := by
 refine FnAt.c (FnAt.run (by kernel_rfl) (T := ⟨[⟨153, TIdxI f p, fun _ => []⟩], []⟩) ⟨⟨tIdxI hT hf, trivial⟩, trivial⟩ Tryz.func130 sw130 fun ho hh => ?_)
 simp only [okL_cons, Bool.and_eq_true] at ho
 have f1 := hs.fx ho.1 (sz := 1) rfl
 unfold w130
 simp only [rep_0, rep_s, walkW, walkX, if_true, if_false, reduceIte, Nat.reduceAdd, Nat.reduceSub, Nat.reduceLeDiff, Nat.reduceEqDiff, Nat.reduceMul, Nat.reduceLT, Int.reduceLT, Int.reduceLE, Int.reduceEq, f1, TIdxI]
 exact Bt.eq (by simp only [AV.b.injEq, decide_eq_decide]; exact idx_has p l) (List.append_nil h)
theorem indexD {T : Env} (hT : T.Ok Tryz.prog) {f : AV} {p : (Int × Int) → Prop} [DecidablePred p] (hf : ∀ x H, callE T f [.ag (dotR.f x)] H = some (.b (decide (p x)), H)) {h : List AB} {s : AV} {l : List (Int × Int)} (hs : Rd dotR h s l) : FnC Tryz.prog 114 [s, f] h (.i .i64 (idx p l)) h := by
 refine FnAt.c (FnAt.run (by kernel_rfl) hT Tryz.func114 sw114 fun ho hh => ?_)
 simp only [okL_cons, Bool.and_eq_true] at ho
 have f1 := hs.fx ho.1 (sz := 2) rfl
 unfold w114
 simp only [rep_0, rep_s, walkW, walkX, if_true, if_false, reduceIte, Nat.reduceAdd, Nat.reduceSub, Nat.reduceLeDiff, Nat.reduceEqDiff, Nat.reduceMul, Nat.reduceLT, Int.reduceLT, Int.reduceLE, Int.reduceEq, f1]
 refine W_loopF (S := Nat) (fun i => l.length - i) (fun i => [s, f] ++ tp 5 ++ [.i .i64 l.length, .i .i64 i] ++ tp 10) (fun i => i ≤ l.length ∧ idx p l = idxFrom p (l.drop i) i) 0 ⟨Nat.zero_le _, rfl⟩ (by simp only [walkW, walkX, if_true, if_false, reduceIte, Nat.reduceAdd, Nat.reduceSub, Nat.reduceLeDiff, Nat.reduceEqDiff, Nat.reduceMul, Nat.reduceLT, Int.reduceLT, Int.reduceLE, Int.reduceEq]) fun i hi => ?_
 simp only [walkW, walkX, if_true, if_false, reduceIte, Nat.reduceAdd, Nat.reduceSub, Nat.reduceLeDiff, Nat.reduceEqDiff, Nat.reduceMul, Nat.reduceLT, Int.reduceLT, Int.reduceLE, Int.reduceEq, f1]
 refine ⟨fun h2 => ?_, fun h2 => ?_⟩
 ·have e1 : IntKind.i64.wrap ((i : Int) + 1) = ((i + 1 : Nat) : Int) := wrap_in (by have := hs.2; unfold maxLen at this; unfold In64; omega)
  have e2 := idx_drop p dotR.d i h2
  simp only [walkW, walkX, if_true, if_false, reduceIte, Nat.reduceAdd, Nat.reduceSub, Nat.reduceLeDiff, Nat.reduceEqDiff, Nat.reduceMul, Nat.reduceLT, Int.reduceLT, Int.reduceLE, Int.reduceEq, f1, h2, Nat.zero_lt_one, e1, hf]
  refine ⟨fun h3 => Bt.eq (by rw [hi.2, e2, if_pos h3]) (List.append_nil h), fun h3 => ⟨i + 1, ⟨h2, ?_⟩, by omega, Wk.refl _⟩⟩
  rw [hi.2, e2, if_neg h3]
 ·exact Bt.eq (by rw [hi.2, List.drop_eq_nil_of_le (by omega)]; rfl) (List.append_nil h)
open Classical in
noncomputable def TIdxD (f : AV) (p : (Int × Int) → Prop) [DecidablePred p] : List AV → List AB → Option (AV × List AB)
 | [s, f'], h => (getS dotR h s).bind fun l => if f' = f then some (.i .i64 (idx p l), h) else none
 | _, _ => none
theorem tIdxD {T : Env} (hT : T.Ok Tryz.prog) {f : AV} {p : (Int × Int) → Prop} [DecidablePred p] (hf : ∀ x H, callE T f [.ag (dotR.f x)] H = some (.b (decide (p x)), H)) : Spec Tryz.prog 114 (TIdxD f p) := by
 intro args h v h' e
 unfold TIdxD at e
 split at e
 ·rename_i s f'
  obtain ⟨l, hs, e2⟩ := getS_bind e
  by_cases hff : f' = f
  ·rw [if_pos hff] at e2
   cases e2
   rw [hff]
   exact indexD hT hf hs
  ·rw [if_neg hff] at e2
   cases e2
 ·cases e
theorem containsD {T : Env} (hT : T.Ok Tryz.prog) {f : AV} {p : (Int × Int) → Prop} [DecidablePred p] (hf : ∀ x H, callE T f [.ag (dotR.f x)] H = some (.b (decide (p x)), H)) {h : List AB} {s : AV} {l : List (Int × Int)} (hs : Rd dotR h s l) : FnC Tryz.prog 79 [s, f] h (.b (decide (∃ x ∈ l, p x))) h := by
 refine FnAt.c (FnAt.run (by kernel_rfl) (T := ⟨[⟨114, TIdxD f p, fun _ => []⟩], []⟩) ⟨⟨tIdxD hT hf, trivial⟩, trivial⟩ Tryz.func79 sw79 fun ho hh => ?_)
 simp only [okL_cons, Bool.and_eq_true] at ho
 have f1 := hs.fx ho.1 (sz := 2) rfl
 unfold w79
 simp only [rep_0, rep_s, walkW, walkX, if_true, if_false, reduceIte, Nat.reduceAdd, Nat.reduceSub, Nat.reduceLeDiff, Nat.reduceEqDiff, Nat.reduceMul, Nat.reduceLT, Int.reduceLT, Int.reduceLE, Int.reduceEq, f1, TIdxD]
 exact Bt.eq (by simp only [AV.b.injEq, decide_eq_decide]; exact idx_has p l) (List.append_nil h)
def rangedP (v : List Int) (l : Dots) : Prop := v.length ≤ 16 ∧ (∀ n ∈ v, 0 ≤ n ∧ n ≤ 1048576) ∧ ∀ d ∈ l, dottedP d
instance (v : List Int) (l : Dots) : Decidable (rangedP v l) := by unfold rangedP; infer_instance
noncomputable def T_CFbad : List AV → List AB → Option (AV × List AB)
 | [s, .f (.func 131) [] []], h => (getS intR h s).bind fun l => some (.b (decide (∃ n ∈ l, n < 0 ∨ 1048576 < n)), h)
 | _, _ => none
theorem CFbad_spec : Spec Tryz.prog 130 T_CFbad := by
 intro args h v h' e
 unfold T_CFbad at e
 split at e
 ·obtain ⟨l, hs, e⟩ := getS_bind e
  cases e
  exact containsI (T := ⟨[⟨131, T_bad, fun _ => []⟩], []⟩) ⟨⟨bad_spec, trivial⟩, trivial⟩ (fun x H => by simp only [walkW, walkX, if_true, if_false, reduceIte, Nat.reduceAdd, Nat.reduceSub, Nat.reduceLeDiff, Nat.reduceEqDiff, Nat.reduceMul, Nat.reduceLT, Int.reduceLT, Int.reduceLE, Int.reduceEq, T_bad]) hs
 ·cases e
noncomputable def T_CFodd : List AV → List AB → Option (AV × List AB)
 | [s, .f (.func 132) [] []], h => (getS dotR h s).bind fun l => some (.b (decide (∃ d ∈ l, ¬ dottedP d)), h)
 | _, _ => none
theorem CFodd_spec : Spec Tryz.prog 79 T_CFodd := by
 intro args h v h' e
 unfold T_CFodd at e
 split at e
 ·obtain ⟨l, hs, e⟩ := getS_bind e
  cases e
  exact containsD (T := ⟨[⟨132, T_odd, fun _ => []⟩], []⟩) ⟨⟨odd_spec, trivial⟩, trivial⟩ (fun x H => by simp only [walkW, walkX, if_true, if_false, reduceIte, Nat.reduceAdd, Nat.reduceSub, Nat.reduceLeDiff, Nat.reduceEqDiff, Nat.reduceMul, Nat.reduceLT, Int.reduceLT, Int.reduceLE, Int.reduceEq, T_odd, dotR_f]) hs
 ·cases e
noncomputable def T_ranged : List AV → List AB → Option (AV × List AB)
 | [s, t], h => (getS intR h s).bind fun v => (getS dotR h t).bind fun l => some (.b (decide (rangedP v l)), h)
 | _, _ => none
theorem ranged_spec : Spec Tryz.prog 96 T_ranged := by
 intro args h v h' e
 unfold T_ranged at e
 split at e
 ·rename_i s t
  obtain ⟨vs, hs, e⟩ := getS_bind e
  obtain ⟨l, ht, e⟩ := getS_bind e
  cases e
  refine FnAt.c (FnAt.run (by kernel_rfl) (T := ⟨[⟨130, T_CFbad, fun _ => []⟩, ⟨79, T_CFodd, fun _ => []⟩], []⟩) ⟨⟨CFbad_spec, CFodd_spec, trivial⟩, trivial⟩ Tryz.func96 sw96 fun ho hh => ?_)
  simp only [okL_cons, Bool.and_eq_true] at ho
  have f1 := hs.fx ho.1 (sz := 1) rfl
  have f2 := ht.fx ho.2.1 (sz := 2) rfl
  unfold w96
  simp only [rep_0, rep_s, walkW, walkX, if_true, if_false, reduceIte, Nat.reduceAdd, Nat.reduceSub, Nat.reduceLeDiff, Nat.reduceEqDiff, Nat.reduceMul, Nat.reduceLT, Int.reduceLT, Int.reduceLE, Int.reduceEq, f1, f2, T_CFbad, T_CFodd]
  have key : (¬ ∃ n ∈ vs, n < 0 ∨ 1048576 < n) ↔ ∀ n ∈ vs, 0 ≤ n ∧ n ≤ 1048576 := ⟨fun h n hn => by
   have : ¬ (n < 0 ∨ 1048576 < n) := fun q => h ⟨n, hn, q⟩
   omega, fun h ⟨n, hn, q⟩ => by have := h n hn; omega⟩
  refine ⟨fun h1 => ⟨fun h2 => Bt.eq ?_ (List.append_nil h), fun h2 => Bt.eq ?_ (List.append_nil h)⟩, fun h1 => Bt.eq ?_ (List.append_nil h)⟩
  ·refine congrArg AV.b (decide_eq_decide.2 ?_)
   exact ⟨fun h3 => ⟨by omega, key.1 h2, fun d hd => Decidable.byContradiction fun q => h3 ⟨d, hd, q⟩⟩, fun ⟨_, _, h3⟩ ⟨d, hd, q⟩ => q (h3 d hd)⟩
  ·simp only [AV.b.injEq, Bool.false_eq, decide_eq_false_iff_not]
   exact fun h => h2 (key.2 h.2.1)
  ·simp only [AV.b.injEq, Bool.false_eq, decide_eq_false_iff_not]
   exact fun h => h1 (by have := h.1; omega)
 ·cases e
end Go.Proofs.YtcncpbcbedfakaaGreat
end
