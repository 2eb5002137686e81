/- Part 15 of what the laws' proofs rest on. No condition. -/
import Derived.Test.YtcncpbcbedfakaaGreatRp14
set_option linter.all false
section
namespace Go.Proofs.YtcncpbcbedfakaaGreat
theorem KPN {α : Type} {xs ys : List α} {i : Nat} (d : α) (hx : i < xs.length) (hy : i < ys.length) (e : xs.take i = ys.take i) : (xs.take (i + 1) = ys.take (i + 1)) ↔ xs.getD i d = ys.getD i d := by
 rw [List.take_succ_eq_append_getElem hx, List.take_succ_eq_append_getElem hy, e, List.append_right_inj, List.getD_eq_getElem?_getD, List.getD_eq_getElem?_getD, List.getElem?_eq_getElem hx, List.getElem?_eq_getElem hy]
 simp
theorem q1W {α : Type} {xs ys : List α} {i : Nat} (hi : xs.length ≤ i) : (xs.length = ys.length ∧ xs.take i = ys.take i) ↔ xs = ys := by
 constructor
 ·rintro ⟨h1, h2⟩
  rwa [List.take_of_length_le hi, List.take_of_length_le (by omega)] at h2
 ·rintro rfl
  exact ⟨rfl, rfl⟩
theorem Qn5 {α : Type} {xs ys : List α} {i : Nat} (h : ¬ (xs.length = ys.length ∧ xs.take i = ys.take i)) : ¬ xs = ys := by
 rintro rfl
 exact h ⟨rfl, rfl⟩
end Go.Proofs.YtcncpbcbedfakaaGreat
end
section
namespace Go.Proofs.YtcncpbcbedfakaaGreat
set_option maxRecDepth 100000
noncomputable def JRW : List AV → List AB → Option (AV × List AB)
 | [a, b], h => (getS intR h a).bind fun xs => (getS intR h b).bind fun ys => some (.b (decide (xs = ys)), h)
 | _, _ => none
theorem KuU : Spec Tryz.prog 74 JRW := by
 intro args h v h' e
 unfold JRW at e
 split at e
 ·rename_i a b
  obtain ⟨xs, ha, e⟩ := Ksw e
  obtain ⟨ys, hb, e⟩ := Ksw e
  cases e
  refine FnAt.c (FnAt.frz0 fun hz => ?_)
  replace ha := ha.frz
  replace hb := hb.frz
  generalize h.map AB.freeze = h at *
  refine FnAt.run (by kernel_rfl) (T := ⟨[], []⟩) ⟨trivial, trivial⟩ Tryz.func74 sw74 fun ho hh => ?_
  simp only [Xto, Bool.and_eq_true] at ho
  have fa := ha.fx ho.1 (sz := 1) rfl
  have fb := hb.fx ho.2.1 (sz := 1) rfl
  unfold w74
  simp only [X7f, KtR, YUa, XuN, simprocAttr, fa, fb]
  refine KUy (S := Nat) (fun i => xs.length - i) (fun i => [a, b] ++ tp 3 ++ [.b (decide (xs.length = ys.length ∧ xs.take i = ys.take i)), .i .i64 i] ++ tp 24) (fun i => xs.length = ys.length → i ≤ xs.length) 0 (fun _ => Nat.zero_le _) (by simp only [YUa, XuN, simprocAttr, List.take_zero]) fun i hi => ?_
  simp only [YUa, XuN, simprocAttr, fa, fb]
  refine ⟨fun h1 => ⟨fun h2 => ?_, fun h2 => ?_⟩, fun h1 => ?_⟩
  ·have h3 : i < ys.length := by omega
   have e1 : IntKind.i64.wrap ((i : Int) + 1) = ((i + 1 : Nat) : Int) := ZPn (by have := ha.2; unfold maxLen at this; unfold In64; omega)
   simp only [YUa, zc6, XuN, simprocAttr, CO.tmps, Opd.tmps, optT, Nat.reducePow, Nat.reduceDiv, Nat.reduceMod, fa, fb, h2, h3, ze8, Nat.zero_lt_one, e1]
   refine ⟨i + 1, fun _ => h2, by omega, ?_, Wk.refl _⟩
   have e2 : (xs.length = ys.length ∧ xs.take (i + 1) = ys.take (i + 1)) = (xs.getD i intR.d = ys.getD i intR.d) := propext (by rw [and_iff_right h1.1]; exact KPN _ h2 h3 h1.2)
   simp only [e2, Khc]
  ·exact Bt.eq (by simp only [AV.b.injEq, decide_eq_decide]; exact q1W (by omega)) (List.append_nil h)
  ·exact Bt.eq (by simp only [AV.b.injEq, decide_eq_decide]; exact iff_of_false h1 (Qn5 h1)) (List.append_nil h)
 ·cases e
noncomputable def z9t : List AV → List AB → Option (AV × List AB)
 | [a, b], h => (getS dotR h a).bind fun xs => (getS dotR h b).bind fun ys => some (.b (decide (xs = ys)), h)
 | _, _ => none
theorem Q1E : Spec Tryz.prog 75 z9t := by
 intro args h v h' e
 unfold z9t at e
 split at e
 ·rename_i a b
  obtain ⟨xs, ha, e⟩ := Ksw e
  obtain ⟨ys, hb, e⟩ := Ksw e
  cases e
  refine FnAt.c (FnAt.frz0 fun hz => ?_)
  replace ha := ha.frz
  replace hb := hb.frz
  generalize h.map AB.freeze = h at *
  refine FnAt.run (by kernel_rfl) (T := ⟨[], []⟩) ⟨trivial, trivial⟩ Tryz.func75 sw75 fun ho hh => ?_
  simp only [Xto, Bool.and_eq_true] at ho
  have fa := ha.fx ho.1 (sz := 2) rfl
  have fb := hb.fx ho.2.1 (sz := 2) rfl
  unfold w75
  simp only [X7f, KtR, YUa, XuN, simprocAttr, fa, fb]
  refine KUy (S := Nat) (fun i => xs.length - i) (fun i => [a, b] ++ tp 3 ++ [.b (decide (xs.length = ys.length ∧ xs.take i = ys.take i)), .i .i64 i] ++ tp 24) (fun i => xs.length = ys.length → i ≤ xs.length) 0 (fun _ => Nat.zero_le _) (by simp only [YUa, XuN, simprocAttr, List.take_zero]) fun i hi => ?_
  simp only [YUa, XuN, simprocAttr, fa, fb]
  refine ⟨fun h1 => ⟨fun h2 => ?_, fun h2 => ?_⟩, fun h1 => ?_⟩
  ·have h3 : i < ys.length := by omega
   have e1 : IntKind.i64.wrap ((i : Int) + 1) = ((i + 1 : Nat) : Int) := ZPn (by have := ha.2; unfold maxLen at this; unfold In64; omega)
   simp only [YUa, zc6, XuN, simprocAttr, CO.tmps, Opd.tmps, optT, Nat.reducePow, Nat.reduceDiv, Nat.reduceMod, fa, fb, h2, h3, Ym0, ZNA, Yfg, Nat.zero_lt_one, e1]
   refine ⟨i + 1, fun _ => h2, by omega, ?_, Wk.refl _⟩
   have e2 : (xs.length = ys.length ∧ xs.take (i + 1) = ys.take (i + 1)) = (xs.getD i dotR.d = ys.getD i dotR.d) := propext (by rw [and_iff_right h1.1]; exact KPN _ h2 h3 h1.2)
   simp only [e2, Khc]
  ·exact Bt.eq (by simp only [AV.b.injEq, decide_eq_decide]; exact q1W (by omega)) (List.append_nil h)
  ·exact Bt.eq (by simp only [AV.b.injEq, decide_eq_decide]; exact iff_of_false h1 (Qn5 h1)) (List.append_nil h)
 ·cases e
noncomputable def YcQ : List AV → List AB → Option (AV × List AB)
 | [a, b], h => (getS intR h a).bind fun xs => (getS intR h b).bind fun ys => some (.b (decide (xs = ys)), h)
 | _, _ => none
theorem QzD : Spec Tryz.prog 100 YcQ := by
 intro args h v h' e
 unfold YcQ at e
 split at e
 ·rename_i a b
  obtain ⟨xs, ha, e⟩ := Ksw e
  obtain ⟨ys, hb, e⟩ := Ksw e
  cases e
  refine FnAt.c (FnAt.frz0 fun hz => ?_)
  replace ha := ha.frz
  replace hb := hb.frz
  generalize h.map AB.freeze = h at *
  refine FnAt.run (by kernel_rfl) (T := ⟨[], []⟩) ⟨trivial, trivial⟩ Tryz.func100 QpR fun ho hh => ?_
  simp only [Xto, Bool.and_eq_true] at ho
  have fa := ha.fx ho.1 (sz := 1) rfl
  have fb := hb.fx ho.2.1 (sz := 1) rfl
  unfold w100
  simp only [X7f, KtR, YUa, XuN, simprocAttr, fa, fb]
  refine ⟨fun h0 => Bt.eq (by simp only [AV.b.injEq, Bool.false_eq, decide_eq_false_iff_not]; rintro rfl; exact h0 rfl) (List.append_nil h), fun h0 => ?_⟩
  replace h0 : xs.length = ys.length := Decidable.not_not.1 h0
  refine KUy (S := Nat) (fun i => xs.length - i) (fun i => [a, b] ++ tp 10 ++ [.i .i64 xs.length, .i .i64 i] ++ tp 12) (fun i => i ≤ xs.length ∧ xs.take i = ys.take i) 0 ⟨Nat.zero_le _, by simp⟩ (by simp only [YUa, XuN, simprocAttr]) fun i hi => ?_
  simp only [YUa, XuN, simprocAttr, fa, fb]
  refine ⟨fun h2 => ?_, fun h2 => ?_⟩
  ·have h3 : i < ys.length := by omega
   have e1 : IntKind.i64.wrap ((i : Int) + 1) = ((i + 1 : Nat) : Int) := ZPn (by have := ha.2; unfold maxLen at this; unfold In64; omega)
   simp only [YUa, zc6, XuN, simprocAttr, CO.tmps, Opd.tmps, optT, Nat.reducePow, Nat.reduceDiv, Nat.reduceMod, fa, fb, h2, h3, ze8, Nat.zero_lt_one, e1]
   refine ⟨fun h4 => Bt.eq (by simp only [AV.b.injEq, Bool.false_eq, decide_eq_false_iff_not]; rintro rfl; exact h4 rfl) (List.append_nil h), fun h4 => ?_⟩
   exact ⟨i + 1, ⟨h2, (KPN _ h2 h3 hi.2).2 (Decidable.not_not.1 h4)⟩, by omega, Wk.refl _⟩
  ·exact Bt.eq (by simp only [AV.b.injEq, Bool.true_eq, decide_eq_true_eq]; exact (q1W (by omega)).1 ⟨h0, hi.2⟩) (List.append_nil h)
 ·cases e
noncomputable def Zwx : List AV → List AB → Option (AV × List AB)
 | [a, b], h => (getS dotR h a).bind fun xs => (getS dotR h b).bind fun ys => some (.b (decide (xs = ys)), h)
 | _, _ => none
theorem Qco : Spec Tryz.prog 101 Zwx := by
 intro args h v h' e
 unfold Zwx at e
 split at e
 ·rename_i a b
  obtain ⟨xs, ha, e⟩ := Ksw e
  obtain ⟨ys, hb, e⟩ := Ksw e
  cases e
  refine FnAt.c (FnAt.frz0 fun hz => ?_)
  replace ha := ha.frz
  replace hb := hb.frz
  generalize h.map AB.freeze = h at *
  refine FnAt.run (by kernel_rfl) (T := ⟨[], []⟩) ⟨trivial, trivial⟩ Tryz.func101 Kei fun ho hh => ?_
  simp only [Xto, Bool.and_eq_true] at ho
  have fa := ha.fx ho.1 (sz := 2) rfl
  have fb := hb.fx ho.2.1 (sz := 2) rfl
  unfold w101
  simp only [X7f, KtR, YUa, XuN, simprocAttr, fa, fb]
  refine ⟨fun h0 => Bt.eq (by simp only [AV.b.injEq, Bool.false_eq, decide_eq_false_iff_not]; rintro rfl; exact h0 rfl) (List.append_nil h), fun h0 => ?_⟩
  replace h0 : xs.length = ys.length := Decidable.not_not.1 h0
  refine KUy (S := Nat) (fun i => xs.length - i) (fun i => [a, b] ++ tp 10 ++ [.i .i64 xs.length, .i .i64 i] ++ tp 12) (fun i => i ≤ xs.length ∧ xs.take i = ys.take i) 0 ⟨Nat.zero_le _, by simp⟩ (by simp only [YUa, XuN, simprocAttr]) fun i hi => ?_
  simp only [YUa, XuN, simprocAttr, fa, fb]
  refine ⟨fun h2 => ?_, fun h2 => ?_⟩
  ·have h3 : i < ys.length := by omega
   have e1 : IntKind.i64.wrap ((i : Int) + 1) = ((i + 1 : Nat) : Int) := ZPn (by have := ha.2; unfold maxLen at this; unfold In64; omega)
   simp only [YUa, zc6, XuN, simprocAttr, CO.tmps, Opd.tmps, optT, Nat.reducePow, Nat.reduceDiv, Nat.reduceMod, fa, fb, h2, h3, Ym0, YyS, Yfg, Nat.zero_lt_one, e1]
   refine ⟨fun h4 => Bt.eq (by simp only [AV.b.injEq, Bool.false_eq, decide_eq_false_iff_not]; rintro rfl; exact h4 rfl) (List.append_nil h), fun h4 => ?_⟩
   exact ⟨i + 1, ⟨h2, (KPN _ h2 h3 hi.2).2 (Decidable.not_not.1 h4)⟩, by omega, Wk.refl _⟩
  ·exact Bt.eq (by simp only [AV.b.injEq, Bool.true_eq, decide_eq_true_eq]; exact (q1W (by omega)).1 ⟨h0, hi.2⟩) (List.append_nil h)
 ·cases e
end Go.Proofs.YtcncpbcbedfakaaGreat
end
section
namespace Go.Proofs.YtcncpbcbedfakaaGreat
set_option maxRecDepth 100000
noncomputable def KSs : List AV → List AB → Option (AV × List AB)
 | [a], h => (getS intR h a).bind fun xs => if xs.length ≤ 1000000 then some (rsl intR h.length xs, h ++ [resB intR true xs]) else none
 | _, _ => none
theorem q03 : Spec Tryz.prog 56 KSs := by
 intro args h v h' e
 unfold KSs at e
 split at e
 ·rename_i a
  obtain ⟨xs, ha, e⟩ := Ksw e
  split at e
  ·rename_i hl
   cases e
   refine FnAt.c ?_
   refine FnAt.run (by kernel_rfl) (T := ⟨[], []⟩) ⟨trivial, trivial⟩ Tryz.func56 sw56 fun ho hh => ?_
   simp only [Xto, Bool.and_eq_true] at ho
   have fa := ha.fx ho.1 (sz := 1) rfl
   have fs := ha.src (sz := 1) rfl
   unfold w56
   by_cases h0 : xs.length = 0
   ·simp only [X7f, KtR, YUa, XuN, simprocAttr, fa, fs, h0]
    exact Bt.one 0 hh (fun _ => Wk.empty _ _ _ _ _ _) (by simp) (fun h => absurd h0 h)
   ·simp only [X7f, KtR, YUa, XuN, simprocAttr, fa, fs, h0]
    exact ⟨⟨by omega, by unfold maxLen; omega⟩, Bt.one 1 hh (fun h => absurd h h0) (by simp) (fun _ => ⟨rfl, rfl⟩)⟩
  ·cases e
 ·cases e
noncomputable def ZvX : List AV → List AB → Option (AV × List AB)
 | [a], h => (getS dotR h a).bind fun xs => if xs.length ≤ 1000000 then some (rsl dotR h.length xs, h ++ [resB dotR true xs]) else none
 | _, _ => none
theorem Qzh : Spec Tryz.prog 57 ZvX := by
 intro args h v h' e
 unfold ZvX at e
 split at e
 ·rename_i a
  obtain ⟨xs, ha, e⟩ := Ksw e
  split at e
  ·rename_i hl
   cases e
   refine FnAt.c ?_
   refine FnAt.run (by kernel_rfl) (T := ⟨[], []⟩) ⟨trivial, trivial⟩ Tryz.func57 sw57 fun ho hh => ?_
   simp only [Xto, Bool.and_eq_true] at ho
   have fa := ha.fx ho.1 (sz := 2) rfl
   have fs := ha.src (sz := 2) rfl
   unfold w57
   by_cases h0 : xs.length = 0
   ·simp only [X7f, KtR, YUa, XuN, simprocAttr, fa, fs, h0]
    exact Bt.one 0 hh (fun _ => Wk.empty _ _ _ _ _ _) (by simp) (fun h => absurd h0 h)
   ·simp only [X7f, KtR, YUa, XuN, simprocAttr, fa, fs, h0]
    exact ⟨⟨by omega, by unfold maxLen; omega⟩, Bt.one 1 hh (fun h => absurd h h0) (by simp) (fun _ => ⟨rfl, rfl⟩)⟩
  ·cases e
 ·cases e
noncomputable def Q8o : List AV → List AB → Option (AV × List AB)
 | [a], h => (getS dotR h a).bind fun xs => if xs.length ≤ 1000000 then some (rsl dotR h.length xs, h ++ [resB dotR true xs]) else none
 | _, _ => none
theorem qk1 (h : List AB) (xs : List (Int × Int)) (h0 : xs.length = 0) : FnC Tryz.prog 97 [.se] h (rsl dotR h.length xs) (h ++ [resB dotR true xs]) := by
 refine FnAt.c (FnAt.run (by kernel_rfl) (T := ⟨[], []⟩) ⟨trivial, trivial⟩ Tryz.func97 sw97 fun ho hh => ?_)
 have fs : ∀ x : List AB, srcV (h ++ x) 2 .se = some (0, []) := fun _ => rfl
 unfold w97
 simp only [X7f, KtR, YUa, XuN, simprocAttr, fs]
 exact Bt.one 0 hh (fun _ => Wk.empty _ _ _ _ _ _) (by simp) (fun h => absurd h0 h)
theorem KfG (h : List AB) (xs : List (Int × Int)) (h0 : xs.length = 0) : FnC Tryz.prog 97 [.ns] h (rsl dotR h.length xs) (h ++ [resB dotR true xs]) := by
 refine FnAt.c (FnAt.run (by kernel_rfl) (T := ⟨[], []⟩) ⟨trivial, trivial⟩ Tryz.func97 sw97 fun ho hh => ?_)
 unfold w97
 simp only [X7f, KtR, YUa, XuN, simprocAttr]
 exact Bt.one0 h0 (Wk.nil _ _)
theorem XKy : Spec Tryz.prog 97 Q8o := by
 intro args h v h' e
 unfold Q8o at e
 split at e
 ·rename_i a
  obtain ⟨xs, ha, e⟩ := Ksw e
  split at e
  ·rename_i hl
   cases e
   by_cases hk : ∃ id off cap, a = .sl id off 0 cap (some 0)
   ·obtain ⟨id, off, cap, rfl⟩ := hk
    have h0 : xs.length = 0 := by have := ha.len; simp only [lenV, Option.some.injEq] at this; omega
    exact FnC.empty1 (KfG h xs h0) (qk1 h xs h0)
   have hs := ha.isSl
   have hlen := ha.len
   cases a <;> first | (cases hs; done) | skip
   ·rename_i id off len cap k
    have hq : YxC (.sl id off len cap k) .ns = some false := by
     rw [qcH, if_neg]
     rintro ⟨rfl, rfl⟩
     exact hk ⟨_, _, _, rfl⟩
    refine FnAt.c (FnAt.run (by kernel_rfl) (T := ⟨[], []⟩) ⟨trivial, trivial⟩ Tryz.func97 sw97 fun ho hh => ?_)
    simp only [Xto, Bool.and_eq_true] at ho
    have fa := ha.fx ho.1 (sz := 2) rfl
    have fs := ha.src (sz := 2) rfl
    unfold w97
    by_cases h0 : xs.length = 0
    ·simp only [X7f, KtR, YUa, XuN, simprocAttr, fa, fs, h0, hq]
     exact Bt.one 0 hh (fun _ => Wk.empty _ _ _ _ _ _) (by simp) (fun h => absurd h0 h)
    ·simp only [X7f, KtR, YUa, XuN, simprocAttr, fa, fs, h0, hq]
     exact ⟨⟨by omega, by unfold maxLen; omega⟩, Bt.one 1 hh (fun h => absurd h h0) (by simp) (fun _ => ⟨rfl, rfl⟩)⟩
   ·exact qk1 h xs (by simp only [lenV, Option.some.injEq] at hlen; omega)
   ·exact KfG h xs (by simp only [lenV, Option.some.injEq] at hlen; omega)
  ·cases e
 ·cases e
end Go.Proofs.YtcncpbcbedfakaaGreat
end
section
namespace Go.Proofs.YtcncpbcbedfakaaGreat
set_option maxRecDepth 100000
abbrev Dots := List (Int × Int)
abbrev qud := List Int × Dots
noncomputable def getC (h : List AB) : AV → Option qud
 | .ag [v, d] => (getS intR h v).bind fun xs => (getS dotR h d).map fun ds => (xs, ds)
 | _ => none
noncomputable def Qd2 : List AV → List AB → Option (AV × List AB)
 | [.ag [v, d], .ag [v', d']], h => (getS intR h v).bind fun xs => (getS dotR h d).bind fun ds => (getS intR h v').bind fun xs' => (getS dotR h d').bind fun ds' => some (.b (decide (xs = xs' ∧ ds = ds')), h)
 | _, _ => none
theorem qVt : Spec Tryz.prog 30 Qd2 := by
 intro args h v h' e
 unfold Qd2 at e
 split at e
 ·rename_i v d v' d'
  obtain ⟨xs, hv, e⟩ := Ksw e
  obtain ⟨ds, hd, e⟩ := Ksw e
  obtain ⟨xs', hv', e⟩ := Ksw e
  obtain ⟨ds', hd', e⟩ := Ksw e
  cases e
  refine FnAt.c (FnAt.run (by kernel_rfl) (T := ⟨[⟨74, JRW, fun _ => []⟩, ⟨75, z9t, fun _ => []⟩], []⟩) ⟨⟨KuU, Q1E, trivial⟩, trivial⟩ Tryz.func30 sw30 fun ho hh => ?_)
  simp only [Xto, J9P, Bool.and_eq_true] at ho
  have f1 := hv.fx ho.1.1 (sz := 1) rfl
  have f2 := hd.fx ho.1.2.1 (sz := 2) rfl
  have f3 := hv'.fx ho.2.1.1 (sz := 1) rfl
  have f4 := hd'.fx ho.2.1.2.1 (sz := 2) rfl
  unfold w30
  simp only [X7f, KtR, YUa, XuN, simprocAttr, f1, f2, f3, f4, JRW, z9t]
  refine ⟨fun h1 => Bt.dropB _ hh (by simp [h1]), fun h1 => Bt.dropB _ hh (by simp [h1])⟩
 ·cases e
noncomputable def KAb : List AV → List AB → Option (AV × List AB)
 | [.ag [v, d]], h => (getS intR h v).bind fun xs => (getS dotR h d).bind fun ds => if xs.length ≤ 1000000 ∧ ds.length ≤ 1000000 then some (.ag [rsl intR h.length xs, rsl dotR (h.length + 1) ds], h ++ [resB intR true xs, resB dotR true ds]) else none
 | _, _ => none
theorem KGT : Spec Tryz.prog 17 KAb := by
 intro args h v h' e
 unfold KAb at e
 split at e
 ·rename_i v d
  obtain ⟨xs, hv, e⟩ := Ksw e
  obtain ⟨ds, hd, e⟩ := Ksw e
  split at e
  ·rename_i hl
   cases e
   refine FnAt.c (FnAt.frz fun hz => ?_)
   rw [show h.length = (h.map AB.freeze).length from (List.length_map _).symm]
   replace hv := hv.frz
   replace hd := hd.frz
   generalize h.map AB.freeze = h at *
   refine FnAt.run (by kernel_rfl) (T := ⟨[⟨56, KSs, fun _ => []⟩, ⟨57, ZvX, fun _ => []⟩], []⟩) ⟨⟨q03, Qzh, trivial⟩, trivial⟩ Tryz.func17 sw17 fun ho hh => ?_
   simp only [Xto, J9P, Bool.and_eq_true] at ho
   have f1 := hv.fx ho.1.1 (sz := 1) rfl
   have f2 := hd.fx ho.1.2.1 (sz := 2) rfl
   unfold w17
   simp only [X7f, KtR, YUa, zc6, XuN, simprocAttr, CO.tmps, Opd.tmps, optT, Nat.reducePow, Nat.reduceDiv, Nat.reduceMod, f1, f2, KSs, ZvX, hl.1, hl.2, zN5 hh, qFZ hz]
   exact Bt.sel [2, 3] hh (by simp) (by simp only [qpr, FrSel, BlkSel, AV.ren, renL, AV.ok, okL, Option.some.injEq, exists_eq_left', List.length_cons, List.length_nil, Nat.reduceAdd, Nat.reduceLT, reduceCtorEq, implies_true, exists_eq']) (by simp only [qpr, FrSel, BlkSel, AV.ren, renL, AV.ok, okL, Option.some.injEq, exists_eq_left', List.length_cons, List.length_nil, Nat.reduceAdd, Nat.reduceLT, reduceCtorEq, implies_true, exists_eq'])
  ·cases e
 ·cases e
end Go.Proofs.YtcncpbcbedfakaaGreat
end
section
namespace Go.Proofs.YtcncpbcbedfakaaGreat
set_option maxRecDepth 100000
noncomputable def qBl : List AV → List AB → Option (AV × List AB)
 | [.ag [s, t]], h => (getS intR h s).bind fun v => (getS dotR h t).bind fun ds => some (.b (decide (20 < v.length ∨ 30 < ds.length)), h)
 | _, _ => none
theorem zma : Spec Tryz.prog 16 qBl := by
 intro args h v h' e
 unfold qBl at e
 split at e
 ·rename_i s t
  obtain ⟨vs, hs, e⟩ := Ksw e
  obtain ⟨ds, ht, e⟩ := Ksw e
  cases e
  refine FnAt.c (FnAt.run (by kernel_rfl) (T := ⟨[], []⟩) ⟨trivial, trivial⟩ Tryz.func16 sw16 fun ho hh => ?_)
  simp only [Xto, J9P, Bool.and_eq_true] at ho
  have f1 := hs.fx ho.1.1 (sz := 1) rfl
  have f2 := ht.fx ho.1.2.1 (sz := 2) rfl
  unfold w16
  simp only [X7f, KtR, YUa, XuN, simprocAttr, f1, f2]
  refine ⟨fun q => Bt.dropB _ hh (decide_eq_true (.inl (by omega))).symm, fun q => Bt.dropB _ hh (decide_eq_decide.2 ?_)⟩
  omega
 ·cases e
end Go.Proofs.YtcncpbcbedfakaaGreat
end
section
namespace Go.Proofs.YtcncpbcbedfakaaGreat
set_option maxRecDepth 100000
def vAt (xs : List Int) (r : Int) : Int := if r < 1 then 0 else if (xs.length : Int) < r then 0 else max (xs.getD (r - 1).toNat 0) 0
noncomputable def T_At : List AV → List AB → Option (AV × List AB)
 | [s, .i .i64 r], h => (getS intR h s).bind fun xs => some (.i .i64 (vAt xs r), h)
 | _, _ => none
theorem KQZ : Spec Tryz.prog 77 T_At := by
 intro args h v h' e
 unfold T_At at e
 split at e
 ·rename_i s r
  obtain ⟨xs, hs, e⟩ := Ksw e
  cases e
  refine FnAt.c ?_
  refine FnAt.run (by kernel_rfl) (T := ⟨[], []⟩) ⟨trivial, trivial⟩ Tryz.func77 sw77 fun ha hh => ?_
  simp only [Xto, Bool.and_eq_true] at ha
  have f := hs.fx ha.1 (sz := 1) rfl
  unfold w77
  simp only [X7f, KtR, YUa, XuN, simprocAttr, f]
  refine ⟨fun h1 => Bt.eq (by simp [vAt, h1]) (by simp), fun h1 => ⟨fun h2 => Bt.eq (by simp [vAt, h1, h2]) (by simp), fun h2 => ?_⟩⟩
  have e1 : IntKind.i64.wrap (r - 1) = r - 1 := ZPn (by have := hs.2; unfold maxLen at this; unfold In64; omega)
  have h3 : (r - 1).toNat < xs.length := by omega
  have h4 : (0 ≤ r - 1 ∧ r - 1 < (xs.length : Int)) = True := eq_true (by omega)
  simp only [YUa, XuN, simprocAttr, f, e1, h3, h4, ze8, Nat.zero_lt_one]
  exact Bt.eq (by simp [vAt, h1, h2, intR]) (by simp)
 ·cases e
end Go.Proofs.YtcncpbcbedfakaaGreat
end
section
namespace Go.Proofs.YtcncpbcbedfakaaGreat
set_option maxRecDepth 100000
def QIn : List AV → List AB → Option (AV × List AB)
 | [.i .i64 _], h => some (.b false, h)
 | _, _ => none
theorem ZWp : Spec Tryz.prog 129 QIn := by
 intro args h v h' e
 unfold QIn at e
 split at e
 ·cases e
  refine FnAt.c (FnAt.run (by kernel_rfl) (T := ⟨[], []⟩) ⟨trivial, trivial⟩ Tryz.func129 qUs fun ho hh => ?_)
  unfold w129
  simp only [X7f, KtR, YUa, XuN, simprocAttr]
  exact Bt.eq rfl (List.append_nil h)
 ·cases e
def cmpI (a b : Int) : Int := if a < b then -1 else if b < a then 1 else 0
def KUf : List AV → List AB → Option (AV × List AB)
 | [.i .i64 a, .i .i64 b], h => some (.i .i64 (cmpI a b), h)
 | _, _ => none
theorem K52 : Spec Tryz.prog 90 KUf := by
 intro args h v h' e
 unfold KUf at e
 split at e
 ·rename_i a b
  cases e
  refine FnAt.c (FnAt.run (by kernel_rfl) (T := ⟨[⟨129, QIn, fun _ => []⟩], []⟩) ⟨⟨ZWp, trivial⟩, trivial⟩ Tryz.func90 sw90 fun ho hh => ?_)
  unfold w90
  simp only [X7f, KtR, YUa, XuN, simprocAttr, QIn]
  refine ⟨fun h1 => Bt.eq (by simp [cmpI, h1]) (List.append_nil h), fun h1 => ⟨fun h2 => Bt.eq (by simp [cmpI, h1, h2]) (List.append_nil h), fun h2 => Bt.eq (by simp [cmpI, h1, h2]) (List.append_nil h)⟩⟩
 ·cases e
def orI : List Int → Int
 | [] => 0
 | a :: l => if a = 0 then orI l else a
theorem YUz {l : List Int} {i : Nat} (hi : i < l.length) : orI (l.drop i) = if l.getD i intR.d = 0 then orI (l.drop (i + 1)) else l.getD i intR.d := by
 rw [List.drop_eq_getElem_cons hi, List.getD_eq_getElem?_getD, List.getElem?_eq_getElem hi]
 rfl
noncomputable def T_Or : List AV → List AB → Option (AV × List AB)
 | [s], h => (getS intR h s).bind fun l => some (.i .i64 (orI l), h)
 | _, _ => none
theorem zLX : Spec Tryz.prog 89 T_Or := by
 intro args h v h' e
 unfold T_Or at e
 split at e
 ·rename_i s
  obtain ⟨l, hs, e⟩ := Ksw e
  cases e
  refine FnAt.c (FnAt.run (by kernel_rfl) (T := ⟨[], []⟩) ⟨trivial, trivial⟩ Tryz.func89 sw89 fun ho hh => ?_)
  simp only [Xto, Bool.and_eq_true] at ho
  have f1 := hs.fx ho.1 (sz := 1) rfl
  unfold w89
  simp only [X7f, KtR, YUa, XuN, simprocAttr, f1]
  refine KUy (S := Nat) (fun i => l.length - i) (fun i => tp 3 ++ [.i .i64 0] ++ tp 2 ++ [s, .i .i64 l.length, .i .i64 i] ++ tp 9) (fun i => i ≤ l.length ∧ orI l = orI (l.drop i)) 0 ⟨Nat.zero_le _, rfl⟩ (by simp only [YUa, XuN, simprocAttr]) fun i hi => ?_
  simp only [YUa, XuN, simprocAttr, f1]
  refine ⟨fun h2 => ?_, fun h2 => ?_⟩
  ·have e1 : IntKind.i64.wrap ((i : Int) + 1) = ((i + 1 : Nat) : Int) := ZPn (by have := hs.2; unfold maxLen at this; unfold In64; omega)
   have e2 := YUz h2
   simp only [YUa, XuN, simprocAttr, f1, h2, ze8, Nat.zero_lt_one, e1]
   refine ⟨fun h3 => Bt.eq (by rw [hi.2, e2, if_neg h3]) (List.append_nil h), fun h3 => ⟨i + 1, ⟨h2, ?_⟩, by omega, Wk.refl _⟩⟩
   rw [hi.2, e2, if_pos (Decidable.not_not.1 h3)]
  ·exact Bt.eq (by rw [hi.2, List.drop_eq_nil_of_le (by omega)]; rfl) (List.append_nil h)
 ·cases e
def cmpD (a b : Int × Int) : Int := if cmpI a.1 b.1 = 0 then cmpI a.2 b.2 else cmpI a.1 b.1
def KyH : List AV → List AB → Option (AV × List AB)
 | [.ag [.i .i64 a, .i .i64 b], .ag [.i .i64 c, .i .i64 d]], h => some (.i .i64 (cmpD (a, b) (c, d)), h)
 | _, _ => none
theorem Q17 : Spec Tryz.prog 99 KyH := by
 intro args h v h' e
 unfold KyH at e
 split at e
 ·rename_i a b c d
  cases e
  refine FnAt.c (FnAt.frz0 fun hz => ?_)
  generalize h.map AB.freeze = h at *
  refine FnAt.run (by kernel_rfl) (T := ⟨[⟨90, KUf, fun _ => []⟩, ⟨89, T_Or, fun _ => []⟩], []⟩) ⟨⟨K52, zLX, trivial⟩, trivial⟩ Tryz.func99 sw99 fun ho hh => ?_
  unfold w99
  simp only [X7f, KtR, YUa, zc6, XuN, simprocAttr, CO.tmps, Opd.tmps, optT, Nat.reducePow, Nat.reduceDiv, Nat.reduceMod, KUf, T_Or, zN5 hh, qFZ hz]
  exact Bt.dropI _ hh (by simp only [orI, cmpD]; by_cases h1 : cmpI a c = 0 <;> by_cases h2 : cmpI b d = 0 <;> simp [h1, h2])
 ·cases e
def qu1 (d : Int × Int) : Prop := 1 ≤ d.1 ∧ d.1 ≤ 16 ∧ 1 ≤ d.2 ∧ d.2 ≤ 1048576
instance (d : Int × Int) : Decidable (qu1 d) := by unfold qu1; infer_instance
def YcP : List AV → List AB → Option (AV × List AB)
 | [.ag [.i .i64 a, .i .i64 b]], h => some (.b (decide (qu1 (a, b))), h)
 | _, _ => none
theorem Kcc : Spec Tryz.prog 133 YcP := by
 intro args h v h' e
 unfold YcP at e
 split at e
 ·rename_i a b
  cases e
  refine FnAt.c (FnAt.run (by kernel_rfl) (T := ⟨[], []⟩) ⟨trivial, trivial⟩ Tryz.func133 Qcz fun ho hh => ?_)
  unfold w133
  simp only [X7f, KtR, YUa, XuN, simprocAttr]
  refine ⟨fun h1 => ⟨fun h2 => ⟨fun h3 => ?_, fun h3 => ?_⟩, fun h2 => ?_⟩, fun h1 => ?_⟩ <;> exact Bt.dropB _ hh (by simp [qu1, *])
 ·cases e
def Yes : List AV → List AB → Option (AV × List AB)
 | [.i .i64 n], h => some (.b (decide (n < 0 ∨ 1048576 < n)), h)
 | _, _ => none
theorem Qhw : Spec Tryz.prog 131 Yes := by
 intro args h v h' e
 unfold Yes at e
 split at e
 ·rename_i n
  cases e
  refine FnAt.c (FnAt.run (by kernel_rfl) (T := ⟨[], []⟩) ⟨trivial, trivial⟩ Tryz.func131 Zjd fun ho hh => ?_)
  unfold w131
  simp only [X7f, KtR, YUa, XuN, simprocAttr]
  refine ⟨fun h1 => ?_, fun h1 => ?_⟩ <;> exact Bt.eq (by simp [h1]) (List.append_nil h)
 ·cases e
def YMx : List AV → List AB → Option (AV × List AB)
 | [.ag [.i .i64 a, .i .i64 b]], h => some (.b (decide (¬ qu1 (a, b))), h)
 | _, _ => none
theorem QCj : Spec Tryz.prog 132 YMx := by
 intro args h v h' e
 unfold YMx at e
 split at e
 ·rename_i a b
  cases e
  refine FnAt.c (FnAt.run (by kernel_rfl) (T := ⟨[⟨133, YcP, fun _ => []⟩], []⟩) ⟨⟨Kcc, trivial⟩, trivial⟩ Tryz.func132 zxO fun ho hh => ?_)
  unfold w132
  simp only [X7f, KtR, YUa, XuN, simprocAttr, YcP]
  exact Bt.dropB _ hh rfl
 ·cases e
end Go.Proofs.YtcncpbcbedfakaaGreat
end
section
namespace Go.Proofs.YtcncpbcbedfakaaGreat
set_option maxRecDepth 100000
def qVz {α : Type} (p : α → Prop) [DecidablePred p] : List α → Nat → Int
 | [], _ => -1
 | a :: l, n => if p a then n else qVz p l (n + 1)
def idx {α : Type} (p : α → Prop) [DecidablePred p] (l : List α) : Int := qVz p l 0
theorem JXX {α : Type} (p : α → Prop) [DecidablePred p] (d : α) {l : List α} (i : Nat) (hi : i < l.length) : qVz p (l.drop i) i = if p (l.getD i d) then (i : Int) else qVz p (l.drop (i + 1)) (i + 1) := by
 rw [List.drop_eq_getElem_cons hi, List.getD_eq_getElem?_getD, List.getElem?_eq_getElem hi]
 rfl
theorem zlV {α : Type} (p : α → Prop) [DecidablePred p] : ∀ (l : List α) (n : Nat), 0 ≤ qVz p l n ↔ ∃ x ∈ l, p x
 | [], n => by simp [qVz]
 | a :: l, n => by
  have := zlV p l (n + 1)
  unfold qVz
  by_cases h : p a
  ·simp [h]
  ·rw [if_neg h, this]
   simp [h]
theorem J0H {α : Type} (p : α → Prop) [DecidablePred p] (l : List α) : 0 ≤ idx p l ↔ ∃ x ∈ l, p x := zlV p l 0
theorem ZQo {T : Env} (hT : T.Ok Tryz.prog) {f : AV} {p : Int → Prop} [DecidablePred p] (hf : ∀ x H, Jy0 T f [.i .i64 x] H = some (.b (decide (p x)), H)) {h : List AB} {s : AV} {l : List Int} (hs : Rd intR h s l) : FnC Tryz.prog 153 [s, f] h (.i .i64 (idx p l)) h := by
 refine FnAt.c (FnAt.run (by kernel_rfl) hT Tryz.func153 XJq fun ho hh => ?_)
 simp only [Xto, Bool.and_eq_true] at ho
 have f1 := hs.fx ho.1 (sz := 1) rfl
 unfold w153
 simp only [X7f, KtR, YUa, XuN, simprocAttr, f1]
 refine KUy (S := Nat) (fun i => l.length - i) (fun i => [s, f] ++ tp 5 ++ [.i .i64 l.length, .i .i64 i] ++ tp 10) (fun i => i ≤ l.length ∧ idx p l = qVz p (l.drop i) i) 0 ⟨Nat.zero_le _, rfl⟩ (by simp only [YUa, XuN, simprocAttr]) fun i hi => ?_
 simp only [YUa, XuN, simprocAttr, f1]
 refine ⟨fun h2 => ?_, fun h2 => ?_⟩
 ·have e1 : IntKind.i64.wrap ((i : Int) + 1) = ((i + 1 : Nat) : Int) := ZPn (by have := hs.2; unfold maxLen at this; unfold In64; omega)
  have e2 := JXX p intR.d i h2
  simp only [YUa, XuN, simprocAttr, f1, h2, ze8, Nat.zero_lt_one, e1, hf]
  refine ⟨fun h3 => Bt.eq (by rw [hi.2, e2, if_pos h3]) (List.append_nil h), fun h3 => ⟨i + 1, ⟨h2, ?_⟩, by omega, Wk.refl _⟩⟩
  rw [hi.2, e2, if_neg h3]
 ·exact Bt.eq (by rw [hi.2, List.drop_eq_nil_of_le (by omega)]; rfl) (List.append_nil h)
open Classical in
noncomputable def qQW (f : AV) (p : Int → Prop) [DecidablePred p] : List AV → List AB → Option (AV × List AB)
 | [s, f'], h => (getS intR h s).bind fun l => if f' = f then some (.i .i64 (idx p l), h) else none
 | _, _ => none
theorem X05 {T : Env} (hT : T.Ok Tryz.prog) {f : AV} {p : Int → Prop} [DecidablePred p] (hf : ∀ x H, Jy0 T f [.i .i64 x] H = some (.b (decide (p x)), H)) : Spec Tryz.prog 153 (qQW f p) := by
 intro args h v h' e
 unfold qQW at e
 split at e
 ·rename_i s f'
  obtain ⟨l, hs, e2⟩ := Ksw e
  by_cases hff : f' = f
  ·rw [if_pos hff] at e2
   cases e2
   rw [hff]
   exact ZQo hT hf hs
  ·rw [if_neg hff] at e2
   cases e2
 ·cases e
theorem ZZm {T : Env} (hT : T.Ok Tryz.prog) {f : AV} {p : Int → Prop} [DecidablePred p] (hf : ∀ x H, Jy0 T f [.i .i64 x] H = some (.b (decide (p x)), H)) {h : List AB} {s : AV} {l : List Int} (hs : Rd intR h s l) : FnC Tryz.prog 130 [s, f] h (.b (decide (∃ x ∈ l, p x))) h := by
 refine FnAt.c (FnAt.run (by kernel_rfl) (T := ⟨[⟨153, qQW f p, fun _ => []⟩], []⟩) ⟨⟨X05 hT hf, trivial⟩, trivial⟩ Tryz.func130 YM0 fun ho hh => ?_)
 simp only [Xto, Bool.and_eq_true] at ho
 have f1 := hs.fx ho.1 (sz := 1) rfl
 unfold w130
 simp only [X7f, KtR, YUa, XuN, simprocAttr, f1, qQW]
 exact Bt.eq (by simp only [AV.b.injEq, decide_eq_decide]; exact J0H p l) (List.append_nil h)
theorem XLw {T : Env} (hT : T.Ok Tryz.prog) {f : AV} {p : (Int × Int) → Prop} [DecidablePred p] (hf : ∀ x H, Jy0 T f [.ag (dotR.f x)] H = some (.b (decide (p x)), H)) {h : List AB} {s : AV} {l : List (Int × Int)} (hs : Rd dotR h s l) : FnC Tryz.prog 114 [s, f] h (.i .i64 (idx p l)) h := by
 refine FnAt.c (FnAt.run (by kernel_rfl) hT Tryz.func114 XND fun ho hh => ?_)
 simp only [Xto, Bool.and_eq_true] at ho
 have f1 := hs.fx ho.1 (sz := 2) rfl
 unfold w114
 simp only [X7f, KtR, YUa, XuN, simprocAttr, f1]
 refine KUy (S := Nat) (fun i => l.length - i) (fun i => [s, f] ++ tp 5 ++ [.i .i64 l.length, .i .i64 i] ++ tp 10) (fun i => i ≤ l.length ∧ idx p l = qVz p (l.drop i) i) 0 ⟨Nat.zero_le _, rfl⟩ (by simp only [YUa, XuN, simprocAttr]) fun i hi => ?_
 simp only [YUa, XuN, simprocAttr, f1]
 refine ⟨fun h2 => ?_, fun h2 => ?_⟩
 ·have e1 : IntKind.i64.wrap ((i : Int) + 1) = ((i + 1 : Nat) : Int) := ZPn (by have := hs.2; unfold maxLen at this; unfold In64; omega)
  have e2 := JXX p dotR.d i h2
  simp only [YUa, XuN, simprocAttr, f1, h2, Nat.zero_lt_one, e1, hf]
  refine ⟨fun h3 => Bt.eq (by rw [hi.2, e2, if_pos h3]) (List.append_nil h), fun h3 => ⟨i + 1, ⟨h2, ?_⟩, by omega, Wk.refl _⟩⟩
  rw [hi.2, e2, if_neg h3]
 ·exact Bt.eq (by rw [hi.2, List.drop_eq_nil_of_le (by omega)]; rfl) (List.append_nil h)
open Classical in
noncomputable def Q6z (f : AV) (p : (Int × Int) → Prop) [DecidablePred p] : List AV → List AB → Option (AV × List AB)
 | [s, f'], h => (getS dotR h s).bind fun l => if f' = f then some (.i .i64 (idx p l), h) else none
 | _, _ => none
theorem zEy {T : Env} (hT : T.Ok Tryz.prog) {f : AV} {p : (Int × Int) → Prop} [DecidablePred p] (hf : ∀ x H, Jy0 T f [.ag (dotR.f x)] H = some (.b (decide (p x)), H)) : Spec Tryz.prog 114 (Q6z f p) := by
 intro args h v h' e
 unfold Q6z at e
 split at e
 ·rename_i s f'
  obtain ⟨l, hs, e2⟩ := Ksw e
  by_cases hff : f' = f
  ·rw [if_pos hff] at e2
   cases e2
   rw [hff]
   exact XLw hT hf hs
  ·rw [if_neg hff] at e2
   cases e2
 ·cases e
theorem Z3y {T : Env} (hT : T.Ok Tryz.prog) {f : AV} {p : (Int × Int) → Prop} [DecidablePred p] (hf : ∀ x H, Jy0 T f [.ag (dotR.f x)] H = some (.b (decide (p x)), H)) {h : List AB} {s : AV} {l : List (Int × Int)} (hs : Rd dotR h s l) : FnC Tryz.prog 79 [s, f] h (.b (decide (∃ x ∈ l, p x))) h := by
 refine FnAt.c (FnAt.run (by kernel_rfl) (T := ⟨[⟨114, Q6z f p, fun _ => []⟩], []⟩) ⟨⟨zEy hT hf, trivial⟩, trivial⟩ Tryz.func79 sw79 fun ho hh => ?_)
 simp only [Xto, Bool.and_eq_true] at ho
 have f1 := hs.fx ho.1 (sz := 2) rfl
 unfold w79
 simp only [X7f, KtR, YUa, XuN, simprocAttr, f1, Q6z]
 exact Bt.eq (by simp only [AV.b.injEq, decide_eq_decide]; exact J0H p l) (List.append_nil h)
def YoS (v : List Int) (l : Dots) : Prop := v.length ≤ 16 ∧ (∀ n ∈ v, 0 ≤ n ∧ n ≤ 1048576) ∧ ∀ d ∈ l, qu1 d
instance (v : List Int) (l : Dots) : Decidable (YoS v l) := by unfold YoS; infer_instance
noncomputable def XJy : List AV → List AB → Option (AV × List AB)
 | [s, .f (.func 131) [] []], h => (getS intR h s).bind fun l => some (.b (decide (∃ n ∈ l, n < 0 ∨ 1048576 < n)), h)
 | _, _ => none
theorem Kth : Spec Tryz.prog 130 XJy := by
 intro args h v h' e
 unfold XJy at e
 split at e
 ·obtain ⟨l, hs, e⟩ := Ksw e
  cases e
  exact ZZm (T := ⟨[⟨131, Yes, fun _ => []⟩], []⟩) ⟨⟨Qhw, trivial⟩, trivial⟩ (fun x H => by simp only [YUa, XuN, simprocAttr, Yes]) hs
 ·cases e
noncomputable def qf1 : List AV → List AB → Option (AV × List AB)
 | [s, .f (.func 132) [] []], h => (getS dotR h s).bind fun l => some (.b (decide (∃ d ∈ l, ¬ qu1 d)), h)
 | _, _ => none
theorem Z9E : Spec Tryz.prog 79 qf1 := by
 intro args h v h' e
 unfold qf1 at e
 split at e
 ·obtain ⟨l, hs, e⟩ := Ksw e
  cases e
  exact Z3y (T := ⟨[⟨132, YMx, fun _ => []⟩], []⟩) ⟨⟨QCj, trivial⟩, trivial⟩ (fun x H => by simp only [YUa, XuN, simprocAttr, YMx, X5J]) hs
 ·cases e
noncomputable def KNS : List AV → List AB → Option (AV × List AB)
 | [s, t], h => (getS intR h s).bind fun v => (getS dotR h t).bind fun l => some (.b (decide (YoS v l)), h)
 | _, _ => none
theorem QkS : Spec Tryz.prog 96 KNS := by
 intro args h v h' e
 unfold KNS at e
 split at e
 ·rename_i s t
  obtain ⟨vs, hs, e⟩ := Ksw e
  obtain ⟨l, ht, e⟩ := Ksw e
  cases e
  refine FnAt.c (FnAt.run (by kernel_rfl) (T := ⟨[⟨130, XJy, fun _ => []⟩, ⟨79, qf1, fun _ => []⟩], []⟩) ⟨⟨Kth, Z9E, trivial⟩, trivial⟩ Tryz.func96 sw96 fun ho hh => ?_)
  simp only [Xto, Bool.and_eq_true] at ho
  have f1 := hs.fx ho.1 (sz := 1) rfl
  have f2 := ht.fx ho.2.1 (sz := 2) rfl
  unfold w96
  simp only [X7f, KtR, YUa, XuN, simprocAttr, f1, f2, XJy, qf1]
  have key : (¬ ∃ n ∈ vs, n < 0 ∨ 1048576 < n) ↔ ∀ n ∈ vs, 0 ≤ n ∧ n ≤ 1048576 := ⟨fun h n hn => by
   have : ¬ (n < 0 ∨ 1048576 < n) := fun q => h ⟨n, hn, q⟩
   omega, fun h ⟨n, hn, q⟩ => by have := h n hn; omega⟩
  refine ⟨fun h1 => ⟨fun h2 => Bt.eq ?_ (List.append_nil h), fun h2 => Bt.eq ?_ (List.append_nil h)⟩, fun h1 => Bt.eq ?_ (List.append_nil h)⟩
  ·refine congrArg AV.b (decide_eq_decide.2 ?_)
   exact ⟨fun h3 => ⟨by omega, key.1 h2, fun d hd => Decidable.byContradiction fun q => h3 ⟨d, hd, q⟩⟩, fun ⟨_, _, h3⟩ ⟨d, hd, q⟩ => q (h3 d hd)⟩
  ·simp only [AV.b.injEq, Bool.false_eq, decide_eq_false_iff_not]
   exact fun h => h2 (key.2 h.2.1)
  ·simp only [AV.b.injEq, Bool.false_eq, decide_eq_false_iff_not]
   exact fun h => h1 (by have := h.1; omega)
 ·cases e
end Go.Proofs.YtcncpbcbedfakaaGreat
end
section
namespace Go.Proofs.YtcncpbcbedfakaaGreat
set_option maxRecDepth 100000
def JnM : List AV → List AB → Option (AV × List AB)
 | [.i .i64 a, .i .i64 b], h => some (.i .i64 (max a b), h)
 | _, _ => none
theorem Kqi : Spec Tryz.prog 147 JnM := by
 intro args h v h' e
 unfold JnM at e
 split at e
 ·cases e
  refine FnAt.c (FnAt.run (by kernel_rfl) (T := ⟨[], []⟩) ⟨trivial, trivial⟩ Tryz.func147 YOk fun ho hh => ?_)
  unfold w147
  simp only [X7f, KtR, YUa, XuN, simprocAttr]
  exact Bt.eq rfl (List.append_nil h)
 ·cases e
def Qpa : List AV → List AB → Option (AV × List AB)
 | [acc, .i .i64 a, .i .i64 b, .p i 0], h => match KFh h i with
  | some [.f (.func 147) [] []] => appV (h ++ [.blk true true [.i .i64 (max a b)]]) true 1 8 acc (.sl (h.length + 0) 0 1 1 none)
  | _ => none
 | _, _ => none
theorem Y2G : Spec Tryz.prog 168 Qpa := by
 intro args h v h' e
 unfold Qpa at e
 split at e
 ·rename_i acc a b i
  split at e
  ·rename_i hb
   refine FnAt.c (FnAt.run (by kernel_rfl) (T := ⟨[⟨147, JnM, fun _ => []⟩], []⟩) ⟨⟨Kqi, trivial⟩, trivial⟩ Tryz.func168 Z5q fun ho hh => ?_)
   have f1 := YMj hb
   simp only [YUa, XuN, simprocAttr] at e
   unfold w168
   simp only [X7f, KtR, YUa, XuN, simprocAttr, JnM, f1, e]
   exact Bt.eq rfl rfl
  ·cases e
 ·cases e
def fA : CC := (CC.seq (CC.reg 2 [{ dst := some 7, guard := none, op := CO.mv (Opd.t 10) }]) (CC.reg 3 [{ dst := some 8, guard := none, op := CO.mv (Opd.t 11) }]))
def fB : CC := (CC.block 1 (CC.reg 4 [{ dst := some 12, guard := none, op := CO.ld none (Opd.t 5) }, { dst := some 13, guard := none, op := CO.ld none (Opd.t 4) }, { dst := some 14, guard := none, op := CO.mv (Opd.t 7) }, { dst := some 15, guard := none, op := CO.mv (Opd.t 8) }, { dst := some 16, guard := none, op := CO.call (Opd.t 12) [Opd.t 13, Opd.t 14, Opd.t 15] }, { dst := none, guard := none, op := CO.st none (Opd.t 4) (Opd.t 16) }]))
def YVT (p i1 i2 i0 : Nat) : List AV := [.f (.func 174) [] [.p i1 0, .p i2 0], .ns, .f (.func 168) [] [.p i0 0], .tu [], .p (p + 0) 0, .p (p + 1) 0, .ns, .tu [], .tu [], .f (.func 174) [] [.p i1 0, .p i2 0], .tu [], .tu [], .tu [], .tu [], .tu [], .tu [], .tu [], .tu []]
def qgm (p i1 i2 i0 : Nat) (m : Bool) (acc : AV) (B : AB) : List AB := [.blk false true [acc], .blk false m [.f (.func 168) [] [.p i0 0]], .lp .ready .n (YVT p i1 i2 i0) [10, 11] fA fB, B]
theorem YQb (h : List AB) (i1 i2 i0 : Nat) (m : Bool) (l : List Int) (a b : Int) (hb : KFh h i0 = some [.f (.func 147) [] []]) (hl : l.length ≤ 1000000) :
  RdAt' Tryz.prog (h.length + 2) [.i .i64 a, .i .i64 b] (h ++ qgm h.length i1 i2 i0 m (apS intR (h.length + 3) l) (resB intR true l)) (.b true)
   (h ++ (qgm h.length i1 i2 i0 m (.sl (h.length + 5) 0 (l.length + 1) (l.length + 1) (some 1)) .dead ++ [.blk true true [.i .i64 (max a b)], .blk true true (intR.cells l ++ [.i .i64 (max a b)])])) := by
 have f1 := YMj hb
 have e1 := fun L hL => Yrl (h := h) (r := intR) (sz := 1) rfl L 3 l 8 1 [.i .i64 (max a b)] hL (by decide) (by omega) (by unfold maxLen; omega)
 refine RdAt'.run (by kernel_rfl) (T := ⟨[⟨168, Qpa, fun _ => []⟩], []⟩) ⟨⟨Y2G, trivial⟩, trivial⟩ (by rw [Qzu]; rfl) rfl ?_
 simp only [YVT, zwj, fA, qgm, YUa, XuN, simprocAttr]
 refine ⟨_, _, _, _, _, by rw [Qzu]; rfl, ?_⟩
 simp only [fB, YUa, XuN, simprocAttr, Qpa, f1, e1]
 exact ⟨_, _, _, _, _, _, by rw [Qzu]; rfl, rfl, by unfold Y0z; dsimp only; rw [qIW]; rfl⟩
def jn (xs ys : List Int) (i : Nat) : List Int := (List.range i).map fun k : Nat => max (vAt xs ((k + 1 : Nat) : Int)) (vAt ys ((k + 1 : Nat) : Int))
theorem zqq (xs ys : List Int) (i : Nat) : (jn xs ys i).length = i := by simp [jn]
theorem Qcl (xs ys : List Int) (i : Nat) : jn xs ys (i + 1) = jn xs ys i ++ [max (vAt xs ((i + 1 : Nat) : Int)) (vAt ys ((i + 1 : Nat) : Int))] := by
 simp [jn, List.range_succ]
def X0P (h : List AB) (i1 i2 i0 : Nat) (a b : Int) (m : Bool) (l : List Int) : List AB := h ++ (qgm h.length i1 i2 i0 m (.sl (h.length + 5) 0 (l.length + 1) (l.length + 1) (some 1)) .dead ++ [.blk true true [.i .i64 (max a b)], .blk true true (intR.cells l ++ [.i .i64 (max a b)])])
def QT9 (h : List AB) (i1 i2 i0 : Nat) (a b : Int) (hh r : List AB) : Prop := ∃ m l, l.length ≤ 1000000 ∧ hh = h ++ qgm h.length i1 i2 i0 m (apS intR (h.length + 3) l) (resB intR true l) ∧ r = X0P h i1 i2 i0 a b m l
open Classical in
noncomputable def z7R (h : List AB) (i1 i2 i0 : Nat) : List AV → List AB → Option (AV × List AB)
 | [.i .i64 a, .i .i64 b], hh => if c : ∃ r, QT9 h i1 i2 i0 a b hh r then some (.b true, c.choose) else none
 | _, _ => none
theorem ZCd (h : List AB) (i1 i2 i0 : Nat) (a b : Int) (m : Bool) (l : List Int) (hl : l.length ≤ 1000000) : z7R h i1 i2 i0 [.i .i64 a, .i .i64 b] (h ++ qgm h.length i1 i2 i0 m (apS intR (h.length + 3) l) (resB intR true l)) = some (.b true, X0P h i1 i2 i0 a b m l) := by
 have hc : ∃ r, QT9 h i1 i2 i0 a b (h ++ qgm h.length i1 i2 i0 m (apS intR (h.length + 3) l) (resB intR true l)) r := ⟨_, m, l, hl, rfl, rfl⟩
 obtain ⟨m', l', _, e, e5⟩ := hc.choose_spec
 replace e := List.append_cancel_left e
 simp only [qgm, List.cons.injEq, AB.blk.injEq, and_true, true_and] at e
 obtain ⟨e1, e2, e3⟩ := e
 have e4 := XVA e1 e3
 subst e2 e4
 simp only [z7R]
 rw [dif_pos hc, e5]
theorem ZTI (h : List AB) (i1 i2 i0 : Nat) (hb : KFh h i0 = some [.f (.func 147) [] []]) : XrH Tryz.prog (h.length + 2) (z7R h i1 i2 i0) := by
 intro args hh v h' e
 unfold z7R at e
 split at e
 ·rename_i a b
  split at e
  ·rename_i hc
   cases e
   obtain ⟨m, l, h1, h2, h3⟩ := hc.choose_spec
   rw [h3, h2]
   exact YQb h i1 i2 i0 m l a b hb h1
  ·cases e
 ·cases e
theorem qxr (h : List AB) (hz : h.map AB.freeze = h) (hh : HOk h) (i1 i2 i0 : Nat) (sv sw : AV) (xs ys : List Int) (hb : KFh h i0 = some [.f (.func 147) [] []]) (h1 : bxS h i1 = some sv) (h2 : bxS h i2 = some sw) (hx : Rd intR h sv xs) (hy : Rd intR h sw ys) (hl : xs.length ≤ 1000000 ∧ ys.length ≤ 1000000) :
  FnAt Tryz.prog 174 [.y (h.length + 2), .p i1 0, .p i2 0] (h ++ [.blk false true [.ns], .blk false true [.f (.func 168) [] [.p i0 0]], .lp .ready .n (YVT h.length i1 i2 i0) [10, 11] fA fB]) (.tu [])
   (h ++ qgm h.length i1 i2 i0 true (apS intR (h.length + 3) (jn xs ys (max xs.length ys.length))) (resB intR true (jn xs ys (max xs.length ys.length)))) := by
 refine FnAt.run (by kernel_rfl) (T := ⟨[⟨77, T_At, fun _ => []⟩], [⟨h.length + 2, z7R h i1 i2 i0, fun _ => [h.length + 0, h.length + 2, h.length + 3]⟩]⟩) ⟨⟨KQZ, trivial⟩, ⟨ZTI h i1 i2 i0 hb, trivial⟩⟩ Tryz.func174 YZb fun _ _ => ?_
 have f1 := YMj (zwa h1)
 have f2 := YMj (zwa h2)
 have f0 := YMj hb
 have f3 := hx.fx (QtI h1 hh) (sz := 1) rfl
 have f4 := hy.fx (QtI h2 hh) (sz := 1) rfl
 unfold w174
 simp only [X7f, KtR, YUa, XuN, simprocAttr, f1, f2, f3, f4]
 refine QZo (S := Nat) (fun i => max xs.length ys.length - i) (fun i => [.y (h.length + 2), .p i1 0, .p i2 0] ++ tp 6 ++ [.i .i64 (max (xs.length : Int) ys.length), .i .i64 i] ++ tp 14) (fun i => h ++ qgm h.length i1 i2 i0 true (apS intR (h.length + 3) (jn xs ys i)) (resB intR true (jn xs ys i))) (fun i => i ≤ max xs.length ys.length) 0 (Nat.zero_le _) ?_ fun i hi => ?_
 ·have e : h ++ qgm h.length i1 i2 i0 true (apS intR (h.length + 3) (jn xs ys 0)) (resB intR true (jn xs ys 0)) = h ++ [.blk false true [.ns], .blk false true [.f (.func 168) [] [.p i0 0]], .lp .ready .n (YVT h.length i1 i2 i0) [10, 11] fA fB] ++ List.replicate 1 .dead := by
   rw [List.append_assoc]
   rfl
  rw [e]
  refine Bt.trans (Bt.wk ?_) (Bt.pad _ _ 1)
  simp only [YUa, XuN, simprocAttr]
 ·simp only [qgm, YVT, YUa, XuN, simprocAttr, f1, f2, f3, f4]
  refine ⟨fun g1 => ?_, fun g1 => ?_⟩
  ·have e1 : IntKind.i64.wrap ((i : Int) + 1) = ((i + 1 : Nat) : Int) := ZPn (by unfold In64; omega)
   have e2 := fun a b m => ZCd h i1 i2 i0 a b m (jn xs ys i) (by rw [zqq]; omega)
   simp only [qgm, YVT, X0P, zLh, JVd] at e2
   simp only [YUa, zc6, XuN, simprocAttr, CO.tmps, Opd.tmps, optT, Nat.reducePow, Nat.reduceDiv, Nat.reduceMod, f0, f1, f2, f3, f4, T_At, e1, e2, zN5 hh, qFZ hz]
   refine ⟨i + 1, by omega, by dsimp only; omega, ?_⟩
   have s1 : ∀ sel, selN h.length sel i1 = i1 := fun sel => q8q (Jv4 (zwa h1))
   have s2 : ∀ sel, selN h.length sel i2 = i2 := fun sel => q8q (Jv4 (zwa h2))
   have s0 : ∀ sel, selN h.length sel i0 = i0 := fun sel => q8q (Jv4 hb)
   have q1 : decide (i1 < h.length + 4) = true := decide_eq_true (by have := Jv4 (zwa h1); omega)
   have q2 : decide (i2 < h.length + 4) = true := decide_eq_true (by have := Jv4 (zwa h2); omega)
   have q0 : decide (i0 < h.length + 4) = true := decide_eq_true (by have := Jv4 hb; omega)
   refine Bt.selL 3 [0, 1, 2, 5] hh (by decide) (by decide) (by decide) (by decide) ?_ ?_
   ·simp only [Qcl, zfM, XJF, zqq]
    simp only [qpr, FrSel, BlkSel, AV.ren, renL, AV.ok, okL, Option.some.injEq, exists_eq_left', List.length_cons, List.length_nil, Nat.reduceAdd, Nat.reduceLT, reduceCtorEq, implies_true, exists_eq', s0, s1, s2, q0, q1, q2]
   ·simp only [qpr, FrSel, BlkSel, AV.ren, renL, AV.ok, okL, Option.some.injEq, exists_eq_left', List.length_cons, List.length_nil, Nat.reduceAdd, Nat.reduceLT, reduceCtorEq, implies_true, exists_eq', s0, s1, s2, q0, q1, q2]
  ·have : i = max xs.length ys.length := by omega
   subst this
   exact Bt.refl _ _ _
def qjt (xs ys : List Int) : List Int := jn xs ys (max xs.length ys.length)
noncomputable def JPQ : List AV → List AB → Option (AV × List AB)
 | [.f (.func 174) [] [.p i1 0, .p i2 0], .ns, .f (.func 168) [] [.p i0 0]], h => match KFh h i0 with
  | some [.f (.func 147) [] []] => (bxS h i1).bind fun sv => (bxS h i2).bind fun sw => (getS intR h sv).bind fun xs => (getS intR h sw).bind fun ys =>
    if xs.length ≤ 1000000 ∧ ys.length ≤ 1000000 then some (rsl intR h.length (qjt xs ys), h ++ [resB intR true (qjt xs ys)]) else none
  | _ => none
 | _, _ => none
theorem Jau : Spec Tryz.prog 166 JPQ := by
 intro args h v h' e
 unfold JPQ at e
 split at e
 ·rename_i i1 i2 i0
  split at e
  ·rename_i hb
   obtain ⟨sv, h1, e⟩ := Option.bind_eq_some_iff.1 e
   obtain ⟨sw, h2, e⟩ := Option.bind_eq_some_iff.1 e
   obtain ⟨xs, hx, e⟩ := Ksw e
   obtain ⟨ys, hy, e⟩ := Ksw e
   split at e
   ·rename_i hl
    cases e
    refine FnAt.c (FnAt.frz fun hz => ?_)
    rw [show h.length = (h.map AB.freeze).length from (List.length_map _).symm]
    replace hx := hx.frz
    replace hy := hy.frz
    rw [← QvN] at hb
    rw [← qYl] at h1 h2
    generalize h.map AB.freeze = h at *
    refine FnAt.run (by kernel_rfl) (T := ⟨[], []⟩) ⟨trivial, trivial⟩ Tryz.func166 ZoO fun ho hh => ?_
    unfold w166
    simp only [X7f, KtR, YUa, XuN, simprocAttr]
    refine W_rf rfl (by simp only [YUa, XuN, simprocAttr]) rfl (by simp only [YUa, XuN, simprocAttr]; rfl) (qxr h hz hh i1 i2 i0 sv sw xs ys hb h1 h2 hx hy hl) (by rw [Qzu]; rfl) (by decide) ?_
    simp only [qgm, YVT, YUa, XuN, simprocAttr]
    exact Bt.oneA 3 hh rfl
   ·cases e
  ·cases e
 ·cases e
def Z4Q : List AV → List AB → Option (AV × List AB)
 | [a, b], h => if a.isSl = true ∧ b.isSl = true then some (.f (.func 174) [] [.p (h.length + 0) 0, .p (h.length + 1) 0], h ++ [.blk false true [a], .blk false true [b]]) else none
 | _, _ => none
theorem Juo : Spec Tryz.prog 167 Z4Q := by
 intro args h v h' e
 unfold Z4Q at e
 split at e
 ·rename_i a b
  split at e
  ·rename_i hs
   cases e
   refine FnAt.c (FnAt.run (by kernel_rfl) (T := ⟨[], []⟩) ⟨trivial, trivial⟩ Tryz.func167 K9p fun ho hh => ?_)
   unfold w167
   simp only [X7f, KtR, YUa, XuN, simprocAttr, YOD hs.1, YOD hs.2, qLb hs.1, qLb hs.2]
   exact Bt.eq rfl rfl
  ·cases e
 ·cases e
noncomputable def YUg : List AV → List AB → Option (AV × List AB)
 | [a, b], h => (getS intR h a).bind fun xs => (getS intR h b).bind fun ys => if xs.length ≤ 1000000 ∧ ys.length ≤ 1000000 then some (rsl intR h.length (qjt xs ys), h ++ [resB intR true (qjt xs ys)]) else none
 | _, _ => none
noncomputable def KF1 : List AV → List AB → Option (AV × List AB)
 | [a, b, .f (.func 147) [] []], h => YUg [a, b] h
 | _, _ => none
theorem JtX : Spec Tryz.prog 146 KF1 := by
 intro args h v h' e
 unfold KF1 at e
 split at e
 ·rename_i a b
  unfold YUg at e
  obtain ⟨xs, hx, e⟩ := Ksw e
  obtain ⟨ys, hy, e⟩ := Ksw e
  split at e
  ·rename_i hl
   cases e
   refine FnAt.c (FnAt.run (by kernel_rfl) (T := ⟨[⟨167, Z4Q, fun _ => []⟩, ⟨166, JPQ, fun _ => []⟩], []⟩) ⟨⟨Juo, Jau, trivial⟩, trivial⟩ Tryz.func146 ZBu fun ho hh => ?_)
   simp only [Xto, Bool.and_eq_true] at ho
   have f1 := hx.fx ho.1 (sz := 1) rfl
   have f2 := hy.fx ho.2.1 (sz := 1) rfl
   unfold w146
   simp only [X7f, KtR, YUa, XuN, simprocAttr, Z4Q, JPQ, f1, f2, hx.isSl, hy.isSl, hl]
   exact Bt.oneR 3 hh rfl
  ·cases e
 ·cases e
theorem ZMD : Spec Tryz.prog 117 YUg := by
 intro args h v h' e
 unfold YUg at e
 split at e
 ·rename_i a b
  obtain ⟨xs, hx, e⟩ := Ksw e
  obtain ⟨ys, hy, e⟩ := Ksw e
  split at e
  ·rename_i hl
   cases e
   refine FnAt.c (FnAt.run (by kernel_rfl) (T := ⟨[⟨146, KF1, fun _ => []⟩], []⟩) ⟨⟨JtX, trivial⟩, trivial⟩ Tryz.func117 Xko fun ho hh => ?_)
   simp only [Xto, Bool.and_eq_true] at ho
   have f1 := hx.fx ho.1 (sz := 1) rfl
   have f2 := hy.fx ho.2.1 (sz := 1) rfl
   unfold w117
   simp only [X7f, KtR, YUa, XuN, simprocAttr, KF1, YUg, f1, f2, hl]
   exact Bt.oneR 0 hh rfl
  ·cases e
 ·cases e
end Go.Proofs.YtcncpbcbedfakaaGreat
end
section
namespace Go.Proofs.YtcncpbcbedfakaaGreat
set_option maxRecDepth 100000
def XQM (xs : List Int) (d : Int × Int) : Prop := 1 ≤ d.1 ∧ 1 ≤ d.2 ∧ d.2 ≤ vAt xs d.1
instance (xs : List Int) (d : Int × Int) : Decidable (XQM xs d) := by unfold XQM; infer_instance
noncomputable def YyX : List AV → List AB → Option (AV × List AB)
 | [s, .ag [.i .i64 a, .i .i64 b]], h => (getS intR h s).bind fun xs => some (.b (decide (XQM xs (a, b))), h)
 | _, _ => none
theorem JgF : Spec Tryz.prog 113 YyX := by
 intro args h v h' e
 unfold YyX at e
 split at e
 ·rename_i s a b
  obtain ⟨xs, hx, e⟩ := Ksw e
  cases e
  refine FnAt.c (FnAt.frz0 fun hz => ?_)
  replace hx := hx.frz
  generalize h.map AB.freeze = h at *
  refine FnAt.run (by kernel_rfl) (T := ⟨[⟨77, T_At, fun _ => []⟩], []⟩) ⟨⟨KQZ, trivial⟩, trivial⟩ Tryz.func113 Ya7 fun ho hh => ?_
  simp only [Xto, Bool.and_eq_true] at ho
  have f1 := hx.fx ho.1 (sz := 1) rfl
  unfold w113
  simp only [X7f, KtR, YUa, zc6, XuN, if_true, if_false, reduceIte, Nat.reduceAdd, Nat.reduceSub, Nat.reduceLeDiff, Nat.reduceEqDiff, Nat.reduceMul, Nat.reduceLT, Int.reduceLT, Int.reduceLE, Int.reduceEq, CO.tmps, Opd.tmps, optT, Nat.reducePow, Nat.reduceDiv, Nat.reduceMod, T_At, f1, zN5 hh, qFZ hz]
  refine ⟨fun h1 => ⟨fun h2 => ?_, fun h2 => ?_⟩, fun h1 => ?_⟩ <;> exact Bt.dropB _ hh (by simp [XQM, *])
 ·cases e
def zWM (xs : List Int) (d : Int × Int) : List Int :=
 if d.1 < 1 ∨ 16 < d.1 ∨ d.2 < 1 ∨ d.2 ≤ vAt xs d.1 then qjt xs [] else qjt xs ((List.replicate d.1.toNat 0).set (d.1 - 1).toNat d.2)
noncomputable def qss : List AV → List AB → Option (AV × List AB)
 | [s, .ag [.i .i64 a, .i .i64 b]], h => (getS intR h s).bind fun xs => if xs.length ≤ 1000000 then some (rsl intR h.length (zWM xs (a, b)), h ++ [resB intR true (zWM xs (a, b))]) else none
 | _, _ => none
theorem QuJ : Spec Tryz.prog 118 qss := by
 intro args h v h' e
 unfold qss at e
 split at e
 ·rename_i s a b
  obtain ⟨xs, hx, e⟩ := Ksw e
  split at e
  ·rename_i hl
   cases e
   refine FnAt.c (FnAt.frz fun hz => ?_)
   rw [show h.length = (h.map AB.freeze).length from (List.length_map _).symm]
   replace hx := hx.frz
   generalize h.map AB.freeze = h at *
   refine FnAt.run (by kernel_rfl) (T := ⟨[⟨77, T_At, fun _ => []⟩, ⟨117, YUg, fun _ => []⟩], []⟩) ⟨⟨KQZ, ZMD, trivial⟩, trivial⟩ Tryz.func118 qzY fun ho hh => ?_
   simp only [Xto, Bool.and_eq_true] at ho
   have f1 := hx.fx ho.1 (sz := 1) rfl
   unfold w118
   simp only [X7f, KtR, YUa, zc6, XuN, if_true, if_false, reduceIte, Nat.reduceAdd, Nat.reduceSub, Nat.reduceLeDiff, Nat.reduceEqDiff, Nat.reduceMul, Nat.reduceLT, Int.reduceLT, Int.reduceLE, Int.reduceEq, CO.tmps, Opd.tmps, optT, Nat.reducePow, Nat.reduceDiv, Nat.reduceMod, T_At, YUg, f1, hl, zN5 hh, qFZ hz]
   have g : ∀ (_ : a < 1 ∨ 16 < a ∨ b < 1 ∨ b ≤ vAt xs a), ([] : List Int).length ≤ 1000000 ∧ Bt Tryz.prog h.length [rsl intR (h.length + 1) (qjt xs [])] (h ++ [AB.blk true true [AV.i IntKind.i64 a, AV.i IntKind.i64 b], resB intR true (qjt xs [])]) [rsl intR h.length (zWM xs (a, b))] (h ++ [resB intR true (zWM xs (a, b))]) := fun q => by
    have : zWM xs (a, b) = qjt xs [] := by unfold zWM; rw [if_pos q]
    rw [this]
    exact ⟨by decide, Bt.oneR 1 hh rfl⟩
   refine ⟨fun q => g (.inl q), fun q1 => ⟨fun q => g (.inr (.inl q)), fun q2 => ⟨fun q => g (.inr (.inr (.inl q))), fun q3 => ⟨fun q => g (.inr (.inr (.inr q))), fun q4 => ?_⟩⟩⟩⟩
   have c1 : (List.replicate a.toNat [AV.i .i64 0]).flatten = intR.cells (List.replicate a.toNat 0) := X3a intR a.toNat 0
   have c2 : (0 ≤ a ∧ a ≤ a ∧ 8 * a ≤ 2 ^ 47 ∧ a ≤ (maxLen : Int)) = True := eq_true ⟨by omega, by omega, by omega, by unfold maxLen; omega⟩
   have c3 : IntKind.i64.wrap (a - 1) = a - 1 := ZPn (by unfold In64; omega)
   have c4 : (0 ≤ a - 1 ∧ a - 1 < (a.toNat : Int)) = True := eq_true (by omega)
   have c5 : over (intR.cells (List.replicate a.toNat 0)) (0 + (a - 1).toNat * 1) [AV.i .i64 b] = intR.cells ((List.replicate a.toNat 0).set (a - 1).toNat b) := by
    rw [Nat.zero_add, Nat.mul_one]
    exact JnW _ _ _ (by rw [List.length_replicate]; omega)
   have c6 : (0 + ((a - 1).toNat * 1 + 1) ≤ (intR.cells (List.replicate a.toNat 0)).length) = True := eq_true (by rw [Row.cells_len, List.length_replicate, YdA]; omega)
   have c7 : ((List.replicate a.toNat (0 : Int)).set (a - 1).toNat b).length = a.toNat := by simp
   have c8 : ∀ L : List AB, ownC L 1 = some (intR.cells ((List.replicate a.toNat (0 : Int)).set (a - 1).toNat b)) → getS intR (h ++ L) (.sl (h.length + 1) 0 a.toNat a.toNat none) = some ((List.replicate a.toNat (0 : Int)).set (a - 1).toNat b) := fun L hL => by
    have := YIQ (h := h) (c := a.toNat) (kk := none) hL (by rw [c7]; unfold maxLen; omega)
    rw [c7] at this
    exact this.get
   have c9 : (a.toNat ≤ 1000000) = True := eq_true (by omega)
   simp only [YUa, XuN, if_true, if_false, reduceIte, Nat.reduceAdd, Nat.reduceSub, Nat.reduceLeDiff, Nat.reduceEqDiff, Nat.reduceMul, Nat.reduceLT, Int.reduceLT, Int.reduceLE, Int.reduceEq, c1, c2, c3, c4, c5, c6, c7, c8, c9, YUg, f1, hl]
   have : zWM xs (a, b) = qjt xs ((List.replicate a.toNat 0).set (a - 1).toNat b) := by unfold zWM; rw [if_neg (by simp only; omega)]
   rw [this]
   exact Bt.oneR 2 hh rfl
  ·cases e
 ·cases e
end Go.Proofs.YtcncpbcbedfakaaGreat
end
