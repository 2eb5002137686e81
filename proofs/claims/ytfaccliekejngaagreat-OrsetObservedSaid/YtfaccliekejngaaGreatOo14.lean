/- Part 14 of what the laws' proofs rest on. No condition. -/
import Derived.Test.YtfaccliekejngaaGreatOo13
set_option linter.all false
section
namespace Go.Proofs.YtfaccliekejngaaGreat
theorem qGK {α : Type} {xs ys : List α} {i : Nat} (d : α) (hx : i < xs.length) (hy : i < ys.length) (e : xs.take i = ys.take i) : (xs.take (i + 1) = ys.take (i + 1)) ↔ xs.getD i d = ys.getD i d := by
 rw [List.take_succ_eq_append_getElem hx, List.take_succ_eq_append_getElem hy, e, List.append_right_inj, List.getD_eq_getElem?_getD, List.getD_eq_getElem?_getD, List.getElem?_eq_getElem hx, List.getElem?_eq_getElem hy]
 simp
theorem KpQ {α : Type} {xs ys : List α} {i : Nat} (hi : xs.length ≤ i) : (xs.length = ys.length ∧ xs.take i = ys.take i) ↔ xs = ys := by
 constructor
 ·rintro ⟨h1, h2⟩
  rwa [List.take_of_length_le hi, List.take_of_length_le (by omega)] at h2
 ·rintro rfl
  exact ⟨rfl, rfl⟩
theorem zt2 {α : Type} {xs ys : List α} {i : Nat} (h : ¬ (xs.length = ys.length ∧ xs.take i = ys.take i)) : ¬ xs = ys := by
 rintro rfl
 exact h ⟨rfl, rfl⟩
end Go.Proofs.YtfaccliekejngaaGreat
end
section
namespace Go.Proofs.YtfaccliekejngaaGreat
set_option maxRecDepth 100000
noncomputable def qXY : List AV → List AB → Option (AV × List AB)
 | [a, b], h => (getS intR h a).bind fun xs => (getS intR h b).bind fun ys => some (.b (decide (xs = ys)), h)
 | _, _ => none
theorem qrR : Spec Tryz.prog 69 qXY := by
 intro args h v h' e
 unfold qXY at e
 split at e
 ·rename_i a b
  obtain ⟨xs, ha, e⟩ := YI8 e
  obtain ⟨ys, hb, e⟩ := YI8 e
  cases e
  refine FnAt.c (FnAt.frz0 fun hz => ?_)
  replace ha := ha.frz
  replace hb := hb.frz
  generalize h.map AB.freeze = h at *
  refine FnAt.run (by kernel_rfl) (T := ⟨[], []⟩) ⟨trivial, trivial⟩ Tryz.func69 sw69 fun ho hh => ?_
  simp only [qMC, Bool.and_eq_true] at ho
  have fa := ha.fx ho.1 (sz := 1) rfl
  have fb := hb.fx ho.2.1 (sz := 1) rfl
  unfold w69
  simp only [XH8, QN9, X1r, zVq, simprocAttr, fa, fb]
  refine YMr (S := Nat) (fun i => xs.length - i) (fun i => [a, b] ++ tp 3 ++ [.b (decide (xs.length = ys.length ∧ xs.take i = ys.take i)), .i .i64 i] ++ tp 24) (fun i => xs.length = ys.length → i ≤ xs.length) 0 (fun _ => Nat.zero_le _) (by simp only [X1r, zVq, simprocAttr, List.take_zero]) fun i hi => ?_
  simp only [X1r, zVq, simprocAttr, fa, fb]
  refine ⟨fun h1 => ⟨fun h2 => ?_, fun h2 => ?_⟩, fun h1 => ?_⟩
  ·have h3 : i < ys.length := by omega
   have e1 : IntKind.i64.wrap ((i : Int) + 1) = ((i + 1 : Nat) : Int) := ZL4 (by have := ha.2; unfold maxLen at this; unfold In64; omega)
   simp only [X1r, Z1D, zVq, simprocAttr, CO.tmps, Opd.tmps, optT, Nat.reducePow, Nat.reduceDiv, Nat.reduceMod, fa, fb, h2, h3, JEE, Nat.zero_lt_one, e1]
   refine ⟨i + 1, fun _ => h2, by omega, ?_, Wk.refl _⟩
   have e2 : (xs.length = ys.length ∧ xs.take (i + 1) = ys.take (i + 1)) = (xs.getD i intR.d = ys.getD i intR.d) := propext (by rw [and_iff_right h1.1]; exact qGK _ h2 h3 h1.2)
   simp only [e2, qSo]
  ·exact Bt.eq (by simp only [AV.b.injEq, decide_eq_decide]; exact KpQ (by omega)) (List.append_nil h)
  ·exact Bt.eq (by simp only [AV.b.injEq, decide_eq_decide]; exact iff_of_false h1 (zt2 h1)) (List.append_nil h)
 ·cases e
noncomputable def QYH : List AV → List AB → Option (AV × List AB)
 | [a, b], h => (getS dotR h a).bind fun xs => (getS dotR h b).bind fun ys => some (.b (decide (xs = ys)), h)
 | _, _ => none
theorem Zmf : Spec Tryz.prog 65 QYH := by
 intro args h v h' e
 unfold QYH at e
 split at e
 ·rename_i a b
  obtain ⟨xs, ha, e⟩ := YI8 e
  obtain ⟨ys, hb, e⟩ := YI8 e
  cases e
  refine FnAt.c (FnAt.frz0 fun hz => ?_)
  replace ha := ha.frz
  replace hb := hb.frz
  generalize h.map AB.freeze = h at *
  refine FnAt.run (by kernel_rfl) (T := ⟨[], []⟩) ⟨trivial, trivial⟩ Tryz.func65 sw65 fun ho hh => ?_
  simp only [qMC, Bool.and_eq_true] at ho
  have fa := ha.fx ho.1 (sz := 2) rfl
  have fb := hb.fx ho.2.1 (sz := 2) rfl
  unfold w65
  simp only [XH8, QN9, X1r, zVq, simprocAttr, fa, fb]
  refine YMr (S := Nat) (fun i => xs.length - i) (fun i => [a, b] ++ tp 3 ++ [.b (decide (xs.length = ys.length ∧ xs.take i = ys.take i)), .i .i64 i] ++ tp 24) (fun i => xs.length = ys.length → i ≤ xs.length) 0 (fun _ => Nat.zero_le _) (by simp only [X1r, zVq, simprocAttr, List.take_zero]) fun i hi => ?_
  simp only [X1r, zVq, simprocAttr, fa, fb]
  refine ⟨fun h1 => ⟨fun h2 => ?_, fun h2 => ?_⟩, fun h1 => ?_⟩
  ·have h3 : i < ys.length := by omega
   have e1 : IntKind.i64.wrap ((i : Int) + 1) = ((i + 1 : Nat) : Int) := ZL4 (by have := ha.2; unfold maxLen at this; unfold In64; omega)
   simp only [X1r, Z1D, zVq, simprocAttr, CO.tmps, Opd.tmps, optT, Nat.reducePow, Nat.reduceDiv, Nat.reduceMod, fa, fb, h2, h3, X03, ZPD, X53, Nat.zero_lt_one, e1]
   refine ⟨i + 1, fun _ => h2, by omega, ?_, Wk.refl _⟩
   have e2 : (xs.length = ys.length ∧ xs.take (i + 1) = ys.take (i + 1)) = (xs.getD i dotR.d = ys.getD i dotR.d) := propext (by rw [and_iff_right h1.1]; exact qGK _ h2 h3 h1.2)
   simp only [e2, qSo]
  ·exact Bt.eq (by simp only [AV.b.injEq, decide_eq_decide]; exact KpQ (by omega)) (List.append_nil h)
  ·exact Bt.eq (by simp only [AV.b.injEq, decide_eq_decide]; exact iff_of_false h1 (zt2 h1)) (List.append_nil h)
 ·cases e
noncomputable def qcq : List AV → List AB → Option (AV × List AB)
 | [a, b], h => (getS intR h a).bind fun xs => (getS intR h b).bind fun ys => some (.b (decide (xs = ys)), h)
 | _, _ => none
theorem zVn : Spec Tryz.prog 93 qcq := by
 intro args h v h' e
 unfold qcq at e
 split at e
 ·rename_i a b
  obtain ⟨xs, ha, e⟩ := YI8 e
  obtain ⟨ys, hb, e⟩ := YI8 e
  cases e
  refine FnAt.c (FnAt.frz0 fun hz => ?_)
  replace ha := ha.frz
  replace hb := hb.frz
  generalize h.map AB.freeze = h at *
  refine FnAt.run (by kernel_rfl) (T := ⟨[], []⟩) ⟨trivial, trivial⟩ Tryz.func93 sw93 fun ho hh => ?_
  simp only [qMC, Bool.and_eq_true] at ho
  have fa := ha.fx ho.1 (sz := 1) rfl
  have fb := hb.fx ho.2.1 (sz := 1) rfl
  unfold w93
  simp only [XH8, QN9, X1r, zVq, simprocAttr, fa, fb]
  refine ⟨fun h0 => Bt.eq (by simp only [AV.b.injEq, Bool.false_eq, decide_eq_false_iff_not]; rintro rfl; exact h0 rfl) (List.append_nil h), fun h0 => ?_⟩
  replace h0 : xs.length = ys.length := Decidable.not_not.1 h0
  refine YMr (S := Nat) (fun i => xs.length - i) (fun i => [a, b] ++ tp 10 ++ [.i .i64 xs.length, .i .i64 i] ++ tp 12) (fun i => i ≤ xs.length ∧ xs.take i = ys.take i) 0 ⟨Nat.zero_le _, by simp⟩ (by simp only [X1r, zVq, simprocAttr]) fun i hi => ?_
  simp only [X1r, zVq, simprocAttr, fa, fb]
  refine ⟨fun h2 => ?_, fun h2 => ?_⟩
  ·have h3 : i < ys.length := by omega
   have e1 : IntKind.i64.wrap ((i : Int) + 1) = ((i + 1 : Nat) : Int) := ZL4 (by have := ha.2; unfold maxLen at this; unfold In64; omega)
   simp only [X1r, Z1D, zVq, simprocAttr, CO.tmps, Opd.tmps, optT, Nat.reducePow, Nat.reduceDiv, Nat.reduceMod, fa, fb, h2, h3, JEE, Nat.zero_lt_one, e1]
   refine ⟨fun h4 => Bt.eq (by simp only [AV.b.injEq, Bool.false_eq, decide_eq_false_iff_not]; rintro rfl; exact h4 rfl) (List.append_nil h), fun h4 => ?_⟩
   exact ⟨i + 1, ⟨h2, (qGK _ h2 h3 hi.2).2 (Decidable.not_not.1 h4)⟩, by omega, Wk.refl _⟩
  ·exact Bt.eq (by simp only [AV.b.injEq, Bool.true_eq, decide_eq_true_eq]; exact (KpQ (by omega)).1 ⟨h0, hi.2⟩) (List.append_nil h)
 ·cases e
noncomputable def Y5a : List AV → List AB → Option (AV × List AB)
 | [a, b], h => (getS dotR h a).bind fun xs => (getS dotR h b).bind fun ys => some (.b (decide (xs = ys)), h)
 | _, _ => none
theorem XSC : Spec Tryz.prog 94 Y5a := by
 intro args h v h' e
 unfold Y5a at e
 split at e
 ·rename_i a b
  obtain ⟨xs, ha, e⟩ := YI8 e
  obtain ⟨ys, hb, e⟩ := YI8 e
  cases e
  refine FnAt.c (FnAt.frz0 fun hz => ?_)
  replace ha := ha.frz
  replace hb := hb.frz
  generalize h.map AB.freeze = h at *
  refine FnAt.run (by kernel_rfl) (T := ⟨[], []⟩) ⟨trivial, trivial⟩ Tryz.func94 sw94 fun ho hh => ?_
  simp only [qMC, Bool.and_eq_true] at ho
  have fa := ha.fx ho.1 (sz := 2) rfl
  have fb := hb.fx ho.2.1 (sz := 2) rfl
  unfold w94
  simp only [XH8, QN9, X1r, zVq, simprocAttr, fa, fb]
  refine ⟨fun h0 => Bt.eq (by simp only [AV.b.injEq, Bool.false_eq, decide_eq_false_iff_not]; rintro rfl; exact h0 rfl) (List.append_nil h), fun h0 => ?_⟩
  replace h0 : xs.length = ys.length := Decidable.not_not.1 h0
  refine YMr (S := Nat) (fun i => xs.length - i) (fun i => [a, b] ++ tp 10 ++ [.i .i64 xs.length, .i .i64 i] ++ tp 12) (fun i => i ≤ xs.length ∧ xs.take i = ys.take i) 0 ⟨Nat.zero_le _, by simp⟩ (by simp only [X1r, zVq, simprocAttr]) fun i hi => ?_
  simp only [X1r, zVq, simprocAttr, fa, fb]
  refine ⟨fun h2 => ?_, fun h2 => ?_⟩
  ·have h3 : i < ys.length := by omega
   have e1 : IntKind.i64.wrap ((i : Int) + 1) = ((i + 1 : Nat) : Int) := ZL4 (by have := ha.2; unfold maxLen at this; unfold In64; omega)
   simp only [X1r, Z1D, zVq, simprocAttr, CO.tmps, Opd.tmps, optT, Nat.reducePow, Nat.reduceDiv, Nat.reduceMod, fa, fb, h2, h3, X03, YGj, X53, Nat.zero_lt_one, e1]
   refine ⟨fun h4 => Bt.eq (by simp only [AV.b.injEq, Bool.false_eq, decide_eq_false_iff_not]; rintro rfl; exact h4 rfl) (List.append_nil h), fun h4 => ?_⟩
   exact ⟨i + 1, ⟨h2, (qGK _ h2 h3 hi.2).2 (Decidable.not_not.1 h4)⟩, by omega, Wk.refl _⟩
  ·exact Bt.eq (by simp only [AV.b.injEq, Bool.true_eq, decide_eq_true_eq]; exact (KpQ (by omega)).1 ⟨h0, hi.2⟩) (List.append_nil h)
 ·cases e
end Go.Proofs.YtfaccliekejngaaGreat
end
section
namespace Go.Proofs.YtfaccliekejngaaGreat
set_option maxRecDepth 100000
noncomputable def JhR : List AV → List AB → Option (AV × List AB)
 | [a], h => (getS intR h a).bind fun xs => if xs.length ≤ 1000000 then some (rsl intR h.length xs, h ++ [resB intR true xs]) else none
 | _, _ => none
theorem QLZ : Spec Tryz.prog 51 JhR := by
 intro args h v h' e
 unfold JhR at e
 split at e
 ·rename_i a
  obtain ⟨xs, ha, e⟩ := YI8 e
  split at e
  ·rename_i hl
   cases e
   refine FnAt.c ?_
   refine FnAt.run (by kernel_rfl) (T := ⟨[], []⟩) ⟨trivial, trivial⟩ Tryz.func51 sw51 fun ho hh => ?_
   simp only [qMC, Bool.and_eq_true] at ho
   have fa := ha.fx ho.1 (sz := 1) rfl
   have fs := ha.src (sz := 1) rfl
   unfold w51
   by_cases h0 : xs.length = 0
   ·simp only [XH8, QN9, X1r, zVq, simprocAttr, fa, fs, h0]
    exact Bt.one 0 hh (fun _ => Wk.empty _ _ _ _ _ _) (by simp) (fun h => absurd h0 h)
   ·simp only [XH8, QN9, X1r, zVq, simprocAttr, fa, fs, h0]
    exact ⟨⟨by omega, by unfold maxLen; omega⟩, Bt.one 1 hh (fun h => absurd h h0) (by simp) (fun _ => ⟨rfl, rfl⟩)⟩
  ·cases e
 ·cases e
noncomputable def zVt : List AV → List AB → Option (AV × List AB)
 | [a], h => (getS dotR h a).bind fun xs => if xs.length ≤ 1000000 then some (rsl dotR h.length xs, h ++ [resB dotR true xs]) else none
 | _, _ => none
theorem q0D : Spec Tryz.prog 52 zVt := by
 intro args h v h' e
 unfold zVt at e
 split at e
 ·rename_i a
  obtain ⟨xs, ha, e⟩ := YI8 e
  split at e
  ·rename_i hl
   cases e
   refine FnAt.c ?_
   refine FnAt.run (by kernel_rfl) (T := ⟨[], []⟩) ⟨trivial, trivial⟩ Tryz.func52 sw52 fun ho hh => ?_
   simp only [qMC, Bool.and_eq_true] at ho
   have fa := ha.fx ho.1 (sz := 2) rfl
   have fs := ha.src (sz := 2) rfl
   unfold w52
   by_cases h0 : xs.length = 0
   ·simp only [XH8, QN9, X1r, zVq, simprocAttr, fa, fs, h0]
    exact Bt.one 0 hh (fun _ => Wk.empty _ _ _ _ _ _) (by simp) (fun h => absurd h0 h)
   ·simp only [XH8, QN9, X1r, zVq, simprocAttr, fa, fs, h0]
    exact ⟨⟨by omega, by unfold maxLen; omega⟩, Bt.one 1 hh (fun h => absurd h h0) (by simp) (fun _ => ⟨rfl, rfl⟩)⟩
  ·cases e
 ·cases e
noncomputable def JWl : List AV → List AB → Option (AV × List AB)
 | [a], h => (getS dotR h a).bind fun xs => if xs.length ≤ 1000000 then some (rsl dotR h.length xs, h ++ [resB dotR true xs]) else none
 | _, _ => none
theorem Xld (h : List AB) (xs : List (Int × Int)) (h0 : xs.length = 0) : FnC Tryz.prog 72 [.se] h (rsl dotR h.length xs) (h ++ [resB dotR true xs]) := by
 refine FnAt.c (FnAt.run (by kernel_rfl) (T := ⟨[], []⟩) ⟨trivial, trivial⟩ Tryz.func72 sw72 fun ho hh => ?_)
 have fs : ∀ x : List AB, srcV (h ++ x) 2 .se = some (0, []) := fun _ => rfl
 unfold w72
 simp only [XH8, QN9, X1r, zVq, simprocAttr, fs]
 exact Bt.one 0 hh (fun _ => Wk.empty _ _ _ _ _ _) (by simp) (fun h => absurd h0 h)
theorem qWL (h : List AB) (xs : List (Int × Int)) (h0 : xs.length = 0) : FnC Tryz.prog 72 [.ns] h (rsl dotR h.length xs) (h ++ [resB dotR true xs]) := by
 refine FnAt.c (FnAt.run (by kernel_rfl) (T := ⟨[], []⟩) ⟨trivial, trivial⟩ Tryz.func72 sw72 fun ho hh => ?_)
 unfold w72
 simp only [XH8, QN9, X1r, zVq, simprocAttr]
 exact Bt.one0 h0 (Wk.nil _ _)
theorem qw8 : Spec Tryz.prog 72 JWl := by
 intro args h v h' e
 unfold JWl at e
 split at e
 ·rename_i a
  obtain ⟨xs, ha, e⟩ := YI8 e
  split at e
  ·rename_i hl
   cases e
   by_cases hk : ∃ id off cap, a = .sl id off 0 cap (some 0)
   ·obtain ⟨id, off, cap, rfl⟩ := hk
    have h0 : xs.length = 0 := by have := ha.len; simp only [lenV, Option.some.injEq] at this; omega
    exact FnC.empty1 (qWL h xs h0) (Xld h xs h0)
   have hs := ha.isSl
   have hlen := ha.len
   cases a <;> first | (cases hs; done) | skip
   ·rename_i id off len cap k
    have hq : Y1v (.sl id off len cap k) .ns = some false := by
     rw [zON, if_neg]
     rintro ⟨rfl, rfl⟩
     exact hk ⟨_, _, _, rfl⟩
    refine FnAt.c (FnAt.run (by kernel_rfl) (T := ⟨[], []⟩) ⟨trivial, trivial⟩ Tryz.func72 sw72 fun ho hh => ?_)
    simp only [qMC, Bool.and_eq_true] at ho
    have fa := ha.fx ho.1 (sz := 2) rfl
    have fs := ha.src (sz := 2) rfl
    unfold w72
    by_cases h0 : xs.length = 0
    ·simp only [XH8, QN9, X1r, zVq, simprocAttr, fa, fs, h0, hq]
     exact Bt.one 0 hh (fun _ => Wk.empty _ _ _ _ _ _) (by simp) (fun h => absurd h0 h)
    ·simp only [XH8, QN9, X1r, zVq, simprocAttr, fa, fs, h0, hq]
     exact ⟨⟨by omega, by unfold maxLen; omega⟩, Bt.one 1 hh (fun h => absurd h h0) (by simp) (fun _ => ⟨rfl, rfl⟩)⟩
   ·exact Xld h xs (by simp only [lenV, Option.some.injEq] at hlen; omega)
   ·exact qWL h xs (by simp only [lenV, Option.some.injEq] at hlen; omega)
  ·cases e
 ·cases e
end Go.Proofs.YtfaccliekejngaaGreat
end
section
namespace Go.Proofs.YtfaccliekejngaaGreat
set_option maxRecDepth 100000
abbrev Dots := List (Int × Int)
abbrev YMW := List Int × Dots
noncomputable def getC (h : List AB) : AV → Option YMW
 | .ag [v, d] => (getS intR h v).bind fun xs => (getS dotR h d).map fun ds => (xs, ds)
 | _ => none
noncomputable def Jb1 : List AV → List AB → Option (AV × List AB)
 | [.ag [v, d], .ag [v', d']], h => (getS intR h v).bind fun xs => (getS dotR h d).bind fun ds => (getS intR h v').bind fun xs' => (getS dotR h d').bind fun ds' => some (.b (decide (xs = xs' ∧ ds = ds')), h)
 | _, _ => none
theorem Kx2 : Spec Tryz.prog 23 Jb1 := by
 intro args h v h' e
 unfold Jb1 at e
 split at e
 ·rename_i v d v' d'
  obtain ⟨xs, hv, e⟩ := YI8 e
  obtain ⟨ds, hd, e⟩ := YI8 e
  obtain ⟨xs', hv', e⟩ := YI8 e
  obtain ⟨ds', hd', e⟩ := YI8 e
  cases e
  refine FnAt.c (FnAt.run (by kernel_rfl) (T := ⟨[⟨69, qXY, fun _ => []⟩, ⟨65, QYH, fun _ => []⟩], []⟩) ⟨⟨qrR, Zmf, trivial⟩, trivial⟩ Tryz.func23 sw23 fun ho hh => ?_)
  simp only [qMC, JAX, Bool.and_eq_true] at ho
  have f1 := hv.fx ho.1.1 (sz := 1) rfl
  have f2 := hd.fx ho.1.2.1 (sz := 2) rfl
  have f3 := hv'.fx ho.2.1.1 (sz := 1) rfl
  have f4 := hd'.fx ho.2.1.2.1 (sz := 2) rfl
  unfold w23
  simp only [XH8, QN9, X1r, zVq, simprocAttr, f1, f2, f3, f4, qXY, QYH]
  refine ⟨fun h1 => Bt.dropB _ hh (by simp [h1]), fun h1 => Bt.dropB _ hh (by simp [h1])⟩
 ·cases e
noncomputable def q7G : List AV → List AB → Option (AV × List AB)
 | [.ag [v, d]], h => (getS intR h v).bind fun xs => (getS dotR h d).bind fun ds => if xs.length ≤ 1000000 ∧ ds.length ≤ 1000000 then some (.ag [rsl intR h.length xs, rsl dotR (h.length + 1) ds], h ++ [resB intR true xs, resB dotR true ds]) else none
 | _, _ => none
end Go.Proofs.YtfaccliekejngaaGreat
end
section
namespace Go.Proofs.YtfaccliekejngaaGreat
set_option maxRecDepth 100000
noncomputable def qve : List AV → List AB → Option (AV × List AB)
 | [.ag [s, t]], h => (getS intR h s).bind fun v => (getS dotR h t).bind fun ds => some (.b (decide (20 < v.length ∨ 30 < ds.length)), h)
 | _, _ => none
theorem zcT : Spec Tryz.prog 11 qve := by
 intro args h v h' e
 unfold qve at e
 split at e
 ·rename_i s t
  obtain ⟨vs, hs, e⟩ := YI8 e
  obtain ⟨ds, ht, e⟩ := YI8 e
  cases e
  refine FnAt.c (FnAt.run (by kernel_rfl) (T := ⟨[], []⟩) ⟨trivial, trivial⟩ Tryz.func11 sw11 fun ho hh => ?_)
  simp only [qMC, JAX, Bool.and_eq_true] at ho
  have f1 := hs.fx ho.1.1 (sz := 1) rfl
  have f2 := ht.fx ho.1.2.1 (sz := 2) rfl
  unfold w11
  simp only [XH8, QN9, X1r, zVq, simprocAttr, f1, f2]
  refine ⟨fun q => Bt.dropB _ hh (decide_eq_true (.inl (by omega))).symm, fun q => Bt.dropB _ hh (decide_eq_decide.2 ?_)⟩
  omega
 ·cases e
def KeC : List AV → List AB → Option (AV × List AB)
 | [.i .i64 a, .i .i64 b], h => if (-9223372036854775808 ≤ a ∧ a ≤ 9223372036854775807) ∧ (-9223372036854775808 ≤ b ∧ b ≤ 9223372036854775807) then some (.i .i64 (if b ≤ 0 then 0 else a % b), h) else none
 | _, _ => none
theorem Yai : Spec Tryz.prog 49 KeC := by
 intro args h v h' e
 unfold KeC at e
 split at e
 ·rename_i a b
  split at e
  ·rename_i hc
   obtain ⟨ha, hb⟩ := hc
   cases e
   refine FnAt.c (FnAt.run (by kernel_rfl) (T := ⟨[], []⟩) ⟨trivial, trivial⟩ Tryz.func49 sw49 fun ho hh => ?_)
   unfold w49
   by_cases h0 : b ≤ 0
   ·have h0' := eq_true h0
    simp only [XH8, QN9, X1r, zVq, simprocAttr, h0']
    exact ⟨Bt.eq rfl (List.append_nil h), fun q => q.elim⟩
   ·have h0' := eq_false h0
    have e1 : binV .rem (.i .i64 a) (.i .i64 b) = some (.i .i64 (a.tmod b)) := by
     show (if b = 0 then none else some (AV.i .i64 (a.tmod b))) = _
     rw [if_neg (by omega)]
    have t1 : -b < a.tmod b ∧ a.tmod b < b := ⟨Int.lt_tmod_of_pos a (by omega), Int.tmod_lt_of_pos a (by omega)⟩
    have em : a % b = a.tmod b % b := by
     have h1 := Int.mul_tdiv_add_tmod a b
     conv => lhs; rw [← h1]
     exact Int.mul_add_emod_self_left b _ _
    rw [if_neg h0]
    by_cases hn : a.tmod b < 0
    ·have e2 : IntKind.i64.wrap (a.tmod b + b) = a.tmod b + b := ZL4 (by unfold In64; omega)
     have e3 : a % b = a.tmod b + b := by rw [em, ← Int.add_emod_right, Int.emod_eq_of_lt (by omega) (by omega)]
     have hn' := eq_true hn
     simp only [XH8, QN9, X1r, zVq, simprocAttr, h0', e1, e2, hn']
     first
      | exact ⟨fun q => q.elim, Bt.eq (by rw [e3]) (List.append_nil h), fun q => q.elim⟩
      | exact ⟨fun q => q.elim, fun _ => Bt.eq (by rw [e3]) (List.append_nil h), fun q => absurd hn q⟩
    ·have e3 : a % b = a.tmod b := by rw [em, Int.emod_eq_of_lt (by omega) (by omega)]
     have hn' := eq_false hn
     simp only [XH8, QN9, X1r, zVq, simprocAttr, h0', e1, hn']
     exact ⟨fun q => q.elim, fun q => q.elim, Bt.eq (by rw [e3]) (List.append_nil h)⟩
  ·cases e
 ·cases e
end Go.Proofs.YtfaccliekejngaaGreat
end
section
namespace Go.Proofs.YtfaccliekejngaaGreat
set_option maxRecDepth 100000
def vAt (xs : List Int) (r : Int) : Int := if r < 1 then 0 else if (xs.length : Int) < r then 0 else max (xs.getD (r - 1).toNat 0) 0
noncomputable def T_At : List AV → List AB → Option (AV × List AB)
 | [s, .i .i64 r], h => (getS intR h s).bind fun xs => some (.i .i64 (vAt xs r), h)
 | _, _ => none
theorem QYv : Spec Tryz.prog 96 T_At := by
 intro args h v h' e
 unfold T_At at e
 split at e
 ·rename_i s r
  obtain ⟨xs, hs, e⟩ := YI8 e
  cases e
  refine FnAt.c ?_
  refine FnAt.run (by kernel_rfl) (T := ⟨[], []⟩) ⟨trivial, trivial⟩ Tryz.func96 sw96 fun ha hh => ?_
  simp only [qMC, Bool.and_eq_true] at ha
  have f := hs.fx ha.1 (sz := 1) rfl
  unfold w96
  simp only [XH8, QN9, X1r, zVq, simprocAttr, f]
  refine ⟨fun h1 => Bt.eq (by simp [vAt, h1]) (by simp), fun h1 => ⟨fun h2 => Bt.eq (by simp [vAt, h1, h2]) (by simp), fun h2 => ?_⟩⟩
  have e1 : IntKind.i64.wrap (r - 1) = r - 1 := ZL4 (by have := hs.2; unfold maxLen at this; unfold In64; omega)
  have h3 : (r - 1).toNat < xs.length := by omega
  have h4 : (0 ≤ r - 1 ∧ r - 1 < (xs.length : Int)) = True := eq_true (by omega)
  simp only [X1r, zVq, simprocAttr, f, e1, h3, h4, JEE, Nat.zero_lt_one]
  exact Bt.eq (by simp [vAt, h1, h2, intR]) (by simp)
 ·cases e
end Go.Proofs.YtfaccliekejngaaGreat
end
section
namespace Go.Proofs.YtfaccliekejngaaGreat
set_option maxRecDepth 100000
def z58 : List AV → List AB → Option (AV × List AB)
 | [.i .i64 _], h => some (.b false, h)
 | _, _ => none
theorem qRW : Spec Tryz.prog 169 z58 := by
 intro args h v h' e
 unfold z58 at e
 split at e
 ·cases e
  refine FnAt.c (FnAt.run (by kernel_rfl) (T := ⟨[], []⟩) ⟨trivial, trivial⟩ Tryz.func169 Y3Z fun ho hh => ?_)
  unfold w169
  simp only [XH8, QN9, X1r, zVq, simprocAttr]
  exact Bt.eq rfl (List.append_nil h)
 ·cases e
def cmpI (a b : Int) : Int := if a < b then -1 else if b < a then 1 else 0
def Xsv : List AV → List AB → Option (AV × List AB)
 | [.i .i64 a, .i .i64 b], h => some (.i .i64 (cmpI a b), h)
 | _, _ => none
theorem K2T : Spec Tryz.prog 143 Xsv := by
 intro args h v h' e
 unfold Xsv at e
 split at e
 ·rename_i a b
  cases e
  refine FnAt.c (FnAt.run (by kernel_rfl) (T := ⟨[⟨169, z58, fun _ => []⟩], []⟩) ⟨⟨qRW, trivial⟩, trivial⟩ Tryz.func143 Xq5 fun ho hh => ?_)
  unfold w143
  simp only [XH8, QN9, X1r, zVq, simprocAttr, z58]
  refine ⟨fun h1 => Bt.eq (by simp [cmpI, h1]) (List.append_nil h), fun h1 => ⟨fun h2 => Bt.eq (by simp [cmpI, h1, h2]) (List.append_nil h), fun h2 => Bt.eq (by simp [cmpI, h1, h2]) (List.append_nil h)⟩⟩
 ·cases e
def orI : List Int → Int
 | [] => 0
 | a :: l => if a = 0 then orI l else a
theorem qgg {l : List Int} {i : Nat} (hi : i < l.length) : orI (l.drop i) = if l.getD i intR.d = 0 then orI (l.drop (i + 1)) else l.getD i intR.d := by
 rw [List.drop_eq_getElem_cons hi, List.getD_eq_getElem?_getD, List.getElem?_eq_getElem hi]
 rfl
noncomputable def T_Or : List AV → List AB → Option (AV × List AB)
 | [s], h => (getS intR h s).bind fun l => some (.i .i64 (orI l), h)
 | _, _ => none
theorem YOj : Spec Tryz.prog 142 T_Or := by
 intro args h v h' e
 unfold T_Or at e
 split at e
 ·rename_i s
  obtain ⟨l, hs, e⟩ := YI8 e
  cases e
  refine FnAt.c (FnAt.run (by kernel_rfl) (T := ⟨[], []⟩) ⟨trivial, trivial⟩ Tryz.func142 zeV fun ho hh => ?_)
  simp only [qMC, Bool.and_eq_true] at ho
  have f1 := hs.fx ho.1 (sz := 1) rfl
  unfold w142
  simp only [XH8, QN9, X1r, zVq, simprocAttr, f1]
  refine YMr (S := Nat) (fun i => l.length - i) (fun i => tp 3 ++ [.i .i64 0] ++ tp 2 ++ [s, .i .i64 l.length, .i .i64 i] ++ tp 9) (fun i => i ≤ l.length ∧ orI l = orI (l.drop i)) 0 ⟨Nat.zero_le _, rfl⟩ (by simp only [X1r, zVq, simprocAttr]) fun i hi => ?_
  simp only [X1r, zVq, simprocAttr, f1]
  refine ⟨fun h2 => ?_, fun h2 => ?_⟩
  ·have e1 : IntKind.i64.wrap ((i : Int) + 1) = ((i + 1 : Nat) : Int) := ZL4 (by have := hs.2; unfold maxLen at this; unfold In64; omega)
   have e2 := qgg h2
   simp only [X1r, zVq, simprocAttr, f1, h2, JEE, Nat.zero_lt_one, e1]
   refine ⟨fun h3 => Bt.eq (by rw [hi.2, e2, if_neg h3]) (List.append_nil h), fun h3 => ⟨i + 1, ⟨h2, ?_⟩, by omega, Wk.refl _⟩⟩
   rw [hi.2, e2, if_pos (Decidable.not_not.1 h3)]
  ·exact Bt.eq (by rw [hi.2, List.drop_eq_nil_of_le (by omega)]; rfl) (List.append_nil h)
 ·cases e
def cmpD (a b : Int × Int) : Int := if cmpI a.1 b.1 = 0 then cmpI a.2 b.2 else cmpI a.1 b.1
def XpL : List AV → List AB → Option (AV × List AB)
 | [.ag [.i .i64 a, .i .i64 b], .ag [.i .i64 c, .i .i64 d]], h => some (.i .i64 (cmpD (a, b) (c, d)), h)
 | _, _ => none
theorem qNy : Spec Tryz.prog 119 XpL := by
 intro args h v h' e
 unfold XpL at e
 split at e
 ·rename_i a b c d
  cases e
  refine FnAt.c (FnAt.frz0 fun hz => ?_)
  generalize h.map AB.freeze = h at *
  refine FnAt.run (by kernel_rfl) (T := ⟨[⟨143, Xsv, fun _ => []⟩, ⟨142, T_Or, fun _ => []⟩], []⟩) ⟨⟨K2T, YOj, trivial⟩, trivial⟩ Tryz.func119 XIS fun ho hh => ?_
  unfold w119
  simp only [XH8, QN9, X1r, Z1D, zVq, simprocAttr, CO.tmps, Opd.tmps, optT, Nat.reducePow, Nat.reduceDiv, Nat.reduceMod, Xsv, T_Or, QNE hh, QZp hz]
  exact Bt.dropI _ hh (by simp only [orI, cmpD]; by_cases h1 : cmpI a c = 0 <;> by_cases h2 : cmpI b d = 0 <;> simp [h1, h2])
 ·cases e
def KG5 (d : Int × Int) : Prop := 1 ≤ d.1 ∧ d.1 ≤ 16 ∧ 1 ≤ d.2 ∧ d.2 ≤ 1048576
instance (d : Int × Int) : Decidable (KG5 d) := by unfold KG5; infer_instance
def YqL : List AV → List AB → Option (AV × List AB)
 | [.ag [.i .i64 a, .i .i64 b]], h => some (.b (decide (KG5 (a, b))), h)
 | _, _ => none
theorem qWG : Spec Tryz.prog 133 YqL := by
 intro args h v h' e
 unfold YqL at e
 split at e
 ·rename_i a b
  cases e
  refine FnAt.c (FnAt.run (by kernel_rfl) (T := ⟨[], []⟩) ⟨trivial, trivial⟩ Tryz.func133 Y0C fun ho hh => ?_)
  unfold w133
  simp only [XH8, QN9, X1r, zVq, simprocAttr]
  refine ⟨fun h1 => ⟨fun h2 => ⟨fun h3 => ?_, fun h3 => ?_⟩, fun h2 => ?_⟩, fun h1 => ?_⟩ <;> exact Bt.dropB _ hh (by simp [KG5, *])
 ·cases e
def zRN : List AV → List AB → Option (AV × List AB)
 | [.i .i64 n], h => some (.b (decide (n < 0 ∨ 1048576 < n)), h)
 | _, _ => none
theorem z7C : Spec Tryz.prog 131 zRN := by
 intro args h v h' e
 unfold zRN at e
 split at e
 ·rename_i n
  cases e
  refine FnAt.c (FnAt.run (by kernel_rfl) (T := ⟨[], []⟩) ⟨trivial, trivial⟩ Tryz.func131 KFP fun ho hh => ?_)
  unfold w131
  simp only [XH8, QN9, X1r, zVq, simprocAttr]
  refine ⟨fun h1 => ?_, fun h1 => ?_⟩ <;> exact Bt.eq (by simp [h1]) (List.append_nil h)
 ·cases e
def Xcu : List AV → List AB → Option (AV × List AB)
 | [.ag [.i .i64 a, .i .i64 b]], h => some (.b (decide (¬ KG5 (a, b))), h)
 | _, _ => none
theorem zr9 : Spec Tryz.prog 132 Xcu := by
 intro args h v h' e
 unfold Xcu at e
 split at e
 ·rename_i a b
  cases e
  refine FnAt.c (FnAt.run (by kernel_rfl) (T := ⟨[⟨133, YqL, fun _ => []⟩], []⟩) ⟨⟨qWG, trivial⟩, trivial⟩ Tryz.func132 JK2 fun ho hh => ?_)
  unfold w132
  simp only [XH8, QN9, X1r, zVq, simprocAttr, YqL]
  exact Bt.dropB _ hh rfl
 ·cases e
end Go.Proofs.YtfaccliekejngaaGreat
end
section
namespace Go.Proofs.YtfaccliekejngaaGreat
set_option maxRecDepth 100000
def XBh {α : Type} (p : α → Prop) [DecidablePred p] : List α → Nat → Int
 | [], _ => -1
 | a :: l, n => if p a then n else XBh p l (n + 1)
def idx {α : Type} (p : α → Prop) [DecidablePred p] (l : List α) : Int := XBh p l 0
theorem qVK {α : Type} (p : α → Prop) [DecidablePred p] (d : α) {l : List α} (i : Nat) (hi : i < l.length) : XBh p (l.drop i) i = if p (l.getD i d) then (i : Int) else XBh p (l.drop (i + 1)) (i + 1) := by
 rw [List.drop_eq_getElem_cons hi, List.getD_eq_getElem?_getD, List.getElem?_eq_getElem hi]
 rfl
theorem X9k {α : Type} (p : α → Prop) [DecidablePred p] : ∀ (l : List α) (n : Nat), 0 ≤ XBh p l n ↔ ∃ x ∈ l, p x
 | [], n => by simp [XBh]
 | a :: l, n => by
  have := X9k p l (n + 1)
  unfold XBh
  by_cases h : p a
  ·simp [h]
  ·rw [if_neg h, this]
   simp [h]
theorem zpY {α : Type} (p : α → Prop) [DecidablePred p] (l : List α) : 0 ≤ idx p l ↔ ∃ x ∈ l, p x := X9k p l 0
theorem KF6 {T : Env} (hT : T.Ok Tryz.prog) {f : AV} {p : Int → Prop} [DecidablePred p] (hf : ∀ x H, Yg9 T f [.i .i64 x] H = some (.b (decide (p x)), H)) {h : List AB} {s : AV} {l : List Int} (hs : Rd intR h s l) : FnC Tryz.prog 158 [s, f] h (.i .i64 (idx p l)) h := by
 refine FnAt.c (FnAt.run (by kernel_rfl) hT Tryz.func158 Y4Z fun ho hh => ?_)
 simp only [qMC, Bool.and_eq_true] at ho
 have f1 := hs.fx ho.1 (sz := 1) rfl
 unfold w158
 simp only [XH8, QN9, X1r, zVq, simprocAttr, f1]
 refine YMr (S := Nat) (fun i => l.length - i) (fun i => [s, f] ++ tp 5 ++ [.i .i64 l.length, .i .i64 i] ++ tp 10) (fun i => i ≤ l.length ∧ idx p l = XBh p (l.drop i) i) 0 ⟨Nat.zero_le _, rfl⟩ (by simp only [X1r, zVq, simprocAttr]) fun i hi => ?_
 simp only [X1r, zVq, simprocAttr, f1]
 refine ⟨fun h2 => ?_, fun h2 => ?_⟩
 ·have e1 : IntKind.i64.wrap ((i : Int) + 1) = ((i + 1 : Nat) : Int) := ZL4 (by have := hs.2; unfold maxLen at this; unfold In64; omega)
  have e2 := qVK p intR.d i h2
  simp only [X1r, zVq, simprocAttr, f1, h2, JEE, Nat.zero_lt_one, e1, hf]
  refine ⟨fun h3 => Bt.eq (by rw [hi.2, e2, if_pos h3]) (List.append_nil h), fun h3 => ⟨i + 1, ⟨h2, ?_⟩, by omega, Wk.refl _⟩⟩
  rw [hi.2, e2, if_neg h3]
 ·exact Bt.eq (by rw [hi.2, List.drop_eq_nil_of_le (by omega)]; rfl) (List.append_nil h)
open Classical in
noncomputable def Zpt (f : AV) (p : Int → Prop) [DecidablePred p] : List AV → List AB → Option (AV × List AB)
 | [s, f'], h => (getS intR h s).bind fun l => if f' = f then some (.i .i64 (idx p l), h) else none
 | _, _ => none
theorem KX6 {T : Env} (hT : T.Ok Tryz.prog) {f : AV} {p : Int → Prop} [DecidablePred p] (hf : ∀ x H, Yg9 T f [.i .i64 x] H = some (.b (decide (p x)), H)) : Spec Tryz.prog 158 (Zpt f p) := by
 intro args h v h' e
 unfold Zpt at e
 split at e
 ·rename_i s f'
  obtain ⟨l, hs, e2⟩ := YI8 e
  by_cases hff : f' = f
  ·rw [if_pos hff] at e2
   cases e2
   rw [hff]
   exact KF6 hT hf hs
  ·rw [if_neg hff] at e2
   cases e2
 ·cases e
theorem QTv {T : Env} (hT : T.Ok Tryz.prog) {f : AV} {p : Int → Prop} [DecidablePred p] (hf : ∀ x H, Yg9 T f [.i .i64 x] H = some (.b (decide (p x)), H)) {h : List AB} {s : AV} {l : List Int} (hs : Rd intR h s l) : FnC Tryz.prog 130 [s, f] h (.b (decide (∃ x ∈ l, p x))) h := by
 refine FnAt.c (FnAt.run (by kernel_rfl) (T := ⟨[⟨158, Zpt f p, fun _ => []⟩], []⟩) ⟨⟨KX6 hT hf, trivial⟩, trivial⟩ Tryz.func130 KUk fun ho hh => ?_)
 simp only [qMC, Bool.and_eq_true] at ho
 have f1 := hs.fx ho.1 (sz := 1) rfl
 unfold w130
 simp only [XH8, QN9, X1r, zVq, simprocAttr, f1, Zpt]
 exact Bt.eq (by simp only [AV.b.injEq, decide_eq_decide]; exact zpY p l) (List.append_nil h)
theorem Jhr {T : Env} (hT : T.Ok Tryz.prog) {f : AV} {p : (Int × Int) → Prop} [DecidablePred p] (hf : ∀ x H, Yg9 T f [.ag (dotR.f x)] H = some (.b (decide (p x)), H)) {h : List AB} {s : AV} {l : List (Int × Int)} (hs : Rd dotR h s l) : FnC Tryz.prog 136 [s, f] h (.i .i64 (idx p l)) h := by
 refine FnAt.c (FnAt.run (by kernel_rfl) hT Tryz.func136 XTR fun ho hh => ?_)
 simp only [qMC, Bool.and_eq_true] at ho
 have f1 := hs.fx ho.1 (sz := 2) rfl
 unfold w136
 simp only [XH8, QN9, X1r, zVq, simprocAttr, f1]
 refine YMr (S := Nat) (fun i => l.length - i) (fun i => [s, f] ++ tp 5 ++ [.i .i64 l.length, .i .i64 i] ++ tp 10) (fun i => i ≤ l.length ∧ idx p l = XBh p (l.drop i) i) 0 ⟨Nat.zero_le _, rfl⟩ (by simp only [X1r, zVq, simprocAttr]) fun i hi => ?_
 simp only [X1r, zVq, simprocAttr, f1]
 refine ⟨fun h2 => ?_, fun h2 => ?_⟩
 ·have e1 : IntKind.i64.wrap ((i : Int) + 1) = ((i + 1 : Nat) : Int) := ZL4 (by have := hs.2; unfold maxLen at this; unfold In64; omega)
  have e2 := qVK p dotR.d i h2
  simp only [X1r, zVq, simprocAttr, f1, h2, Nat.zero_lt_one, e1, hf]
  refine ⟨fun h3 => Bt.eq (by rw [hi.2, e2, if_pos h3]) (List.append_nil h), fun h3 => ⟨i + 1, ⟨h2, ?_⟩, by omega, Wk.refl _⟩⟩
  rw [hi.2, e2, if_neg h3]
 ·exact Bt.eq (by rw [hi.2, List.drop_eq_nil_of_le (by omega)]; rfl) (List.append_nil h)
open Classical in
noncomputable def YFZ (f : AV) (p : (Int × Int) → Prop) [DecidablePred p] : List AV → List AB → Option (AV × List AB)
 | [s, f'], h => (getS dotR h s).bind fun l => if f' = f then some (.i .i64 (idx p l), h) else none
 | _, _ => none
theorem q4B {T : Env} (hT : T.Ok Tryz.prog) {f : AV} {p : (Int × Int) → Prop} [DecidablePred p] (hf : ∀ x H, Yg9 T f [.ag (dotR.f x)] H = some (.b (decide (p x)), H)) : Spec Tryz.prog 136 (YFZ f p) := by
 intro args h v h' e
 unfold YFZ at e
 split at e
 ·rename_i s f'
  obtain ⟨l, hs, e2⟩ := YI8 e
  by_cases hff : f' = f
  ·rw [if_pos hff] at e2
   cases e2
   rw [hff]
   exact Jhr hT hf hs
  ·rw [if_neg hff] at e2
   cases e2
 ·cases e
theorem Xvr {T : Env} (hT : T.Ok Tryz.prog) {f : AV} {p : (Int × Int) → Prop} [DecidablePred p] (hf : ∀ x H, Yg9 T f [.ag (dotR.f x)] H = some (.b (decide (p x)), H)) {h : List AB} {s : AV} {l : List (Int × Int)} (hs : Rd dotR h s l) : FnC Tryz.prog 98 [s, f] h (.b (decide (∃ x ∈ l, p x))) h := by
 refine FnAt.c (FnAt.run (by kernel_rfl) (T := ⟨[⟨136, YFZ f p, fun _ => []⟩], []⟩) ⟨⟨q4B hT hf, trivial⟩, trivial⟩ Tryz.func98 sw98 fun ho hh => ?_)
 simp only [qMC, Bool.and_eq_true] at ho
 have f1 := hs.fx ho.1 (sz := 2) rfl
 unfold w98
 simp only [XH8, QN9, X1r, zVq, simprocAttr, f1, YFZ]
 exact Bt.eq (by simp only [AV.b.injEq, decide_eq_decide]; exact zpY p l) (List.append_nil h)
def J6E (v : List Int) (l : Dots) : Prop := v.length ≤ 16 ∧ (∀ n ∈ v, 0 ≤ n ∧ n ≤ 1048576) ∧ ∀ d ∈ l, KG5 d
instance (v : List Int) (l : Dots) : Decidable (J6E v l) := by unfold J6E; infer_instance
noncomputable def QAl : List AV → List AB → Option (AV × List AB)
 | [s, .f (.func 131) [] []], h => (getS intR h s).bind fun l => some (.b (decide (∃ n ∈ l, n < 0 ∨ 1048576 < n)), h)
 | _, _ => none
theorem q7a : Spec Tryz.prog 130 QAl := by
 intro args h v h' e
 unfold QAl at e
 split at e
 ·obtain ⟨l, hs, e⟩ := YI8 e
  cases e
  exact QTv (T := ⟨[⟨131, zRN, fun _ => []⟩], []⟩) ⟨⟨z7C, trivial⟩, trivial⟩ (fun x H => by simp only [X1r, zVq, simprocAttr, zRN]) hs
 ·cases e
noncomputable def YVk : List AV → List AB → Option (AV × List AB)
 | [s, .f (.func 132) [] []], h => (getS dotR h s).bind fun l => some (.b (decide (∃ d ∈ l, ¬ KG5 d)), h)
 | _, _ => none
theorem JzZ : Spec Tryz.prog 98 YVk := by
 intro args h v h' e
 unfold YVk at e
 split at e
 ·obtain ⟨l, hs, e⟩ := YI8 e
  cases e
  exact Xvr (T := ⟨[⟨132, Xcu, fun _ => []⟩], []⟩) ⟨⟨zr9, trivial⟩, trivial⟩ (fun x H => by simp only [X1r, zVq, simprocAttr, Xcu, KdD]) hs
 ·cases e
noncomputable def Qhe : List AV → List AB → Option (AV × List AB)
 | [s, t], h => (getS intR h s).bind fun v => (getS dotR h t).bind fun l => some (.b (decide (J6E v l)), h)
 | _, _ => none
theorem Qq7 : Spec Tryz.prog 92 Qhe := by
 intro args h v h' e
 unfold Qhe at e
 split at e
 ·rename_i s t
  obtain ⟨vs, hs, e⟩ := YI8 e
  obtain ⟨l, ht, e⟩ := YI8 e
  cases e
  refine FnAt.c (FnAt.run (by kernel_rfl) (T := ⟨[⟨130, QAl, fun _ => []⟩, ⟨98, YVk, fun _ => []⟩], []⟩) ⟨⟨q7a, JzZ, trivial⟩, trivial⟩ Tryz.func92 sw92 fun ho hh => ?_)
  simp only [qMC, Bool.and_eq_true] at ho
  have f1 := hs.fx ho.1 (sz := 1) rfl
  have f2 := ht.fx ho.2.1 (sz := 2) rfl
  unfold w92
  simp only [XH8, QN9, X1r, zVq, simprocAttr, f1, f2, QAl, YVk]
  have key : (¬ ∃ n ∈ vs, n < 0 ∨ 1048576 < n) ↔ ∀ n ∈ vs, 0 ≤ n ∧ n ≤ 1048576 := ⟨fun h n hn => by
   have : ¬ (n < 0 ∨ 1048576 < n) := fun q => h ⟨n, hn, q⟩
   omega, fun h ⟨n, hn, q⟩ => by have := h n hn; omega⟩
  refine ⟨fun h1 => ⟨fun h2 => Bt.eq ?_ (List.append_nil h), fun h2 => Bt.eq ?_ (List.append_nil h)⟩, fun h1 => Bt.eq ?_ (List.append_nil h)⟩
  ·refine congrArg AV.b (decide_eq_decide.2 ?_)
   exact ⟨fun h3 => ⟨by omega, key.1 h2, fun d hd => Decidable.byContradiction fun q => h3 ⟨d, hd, q⟩⟩, fun ⟨_, _, h3⟩ ⟨d, hd, q⟩ => q (h3 d hd)⟩
  ·simp only [AV.b.injEq, Bool.false_eq, decide_eq_false_iff_not]
   exact fun h => h2 (key.2 h.2.1)
  ·simp only [AV.b.injEq, Bool.false_eq, decide_eq_false_iff_not]
   exact fun h => h1 (by have := h.1; omega)
 ·cases e
end Go.Proofs.YtfaccliekejngaaGreat
end
section
namespace Go.Proofs.YtfaccliekejngaaGreat
set_option maxRecDepth 100000
def Z7v : List AV → List AB → Option (AV × List AB)
 | [.i .i64 a, .i .i64 b], h => some (.i .i64 (max a b), h)
 | _, _ => none
theorem XSV : Spec Tryz.prog 160 Z7v := by
 intro args h v h' e
 unfold Z7v at e
 split at e
 ·cases e
  refine FnAt.c (FnAt.run (by kernel_rfl) (T := ⟨[], []⟩) ⟨trivial, trivial⟩ Tryz.func160 XVp fun ho hh => ?_)
  unfold w160
  simp only [XH8, QN9, X1r, zVq, simprocAttr]
  exact Bt.eq rfl (List.append_nil h)
 ·cases e
def Yu3 : List AV → List AB → Option (AV × List AB)
 | [acc, .i .i64 a, .i .i64 b, .p i 0], h => match XAh h i with
  | some [.f (.func 160) [] []] => appV (h ++ [.blk true true [.i .i64 (max a b)]]) true 1 8 acc (.sl (h.length + 0) 0 1 1 none)
  | _ => none
 | _, _ => none
theorem Ykr : Spec Tryz.prog 186 Yu3 := by
 intro args h v h' e
 unfold Yu3 at e
 split at e
 ·rename_i acc a b i
  split at e
  ·rename_i hb
   refine FnAt.c (FnAt.run (by kernel_rfl) (T := ⟨[⟨160, Z7v, fun _ => []⟩], []⟩) ⟨⟨XSV, trivial⟩, trivial⟩ Tryz.func186 qbf fun ho hh => ?_)
   have f1 := qee hb
   simp only [X1r, zVq, simprocAttr] at e
   unfold w186
   simp only [XH8, QN9, X1r, zVq, simprocAttr, Z7v, f1, e]
   exact Bt.eq rfl rfl
  ·cases e
 ·cases e
def fA : CC := (CC.seq (CC.reg 2 [{ dst := some 7, guard := none, op := CO.mv (Opd.t 10) }]) (CC.reg 3 [{ dst := some 8, guard := none, op := CO.mv (Opd.t 11) }]))
def fB : CC := (CC.block 1 (CC.reg 4 [{ dst := some 12, guard := none, op := CO.ld none (Opd.t 5) }, { dst := some 13, guard := none, op := CO.ld none (Opd.t 4) }, { dst := some 14, guard := none, op := CO.mv (Opd.t 7) }, { dst := some 15, guard := none, op := CO.mv (Opd.t 8) }, { dst := some 16, guard := none, op := CO.call (Opd.t 12) [Opd.t 13, Opd.t 14, Opd.t 15] }, { dst := none, guard := none, op := CO.st none (Opd.t 4) (Opd.t 16) }]))
def K9z (p i1 i2 i0 : Nat) : List AV := [.f (.func 194) [] [.p i1 0, .p i2 0], .ns, .f (.func 186) [] [.p i0 0], .tu [], .p (p + 0) 0, .p (p + 1) 0, .ns, .tu [], .tu [], .f (.func 194) [] [.p i1 0, .p i2 0], .tu [], .tu [], .tu [], .tu [], .tu [], .tu [], .tu [], .tu []]
def qAe (p i1 i2 i0 : Nat) (m : Bool) (acc : AV) (B : AB) : List AB := [.blk false true [acc], .blk false m [.f (.func 186) [] [.p i0 0]], .lp .ready .n (K9z p i1 i2 i0) [10, 11] fA fB, B]
theorem Xxj (h : List AB) (i1 i2 i0 : Nat) (m : Bool) (l : List Int) (a b : Int) (hb : XAh h i0 = some [.f (.func 160) [] []]) (hl : l.length ≤ 1000000) :
  RdAt' Tryz.prog (h.length + 2) [.i .i64 a, .i .i64 b] (h ++ qAe h.length i1 i2 i0 m (apS intR (h.length + 3) l) (resB intR true l)) (.b true)
   (h ++ (qAe h.length i1 i2 i0 m (.sl (h.length + 5) 0 (l.length + 1) (l.length + 1) (some 1)) .dead ++ [.blk true true [.i .i64 (max a b)], .blk true true (intR.cells l ++ [.i .i64 (max a b)])])) := by
 have f1 := qee hb
 have e1 := fun L hL => J7h (h := h) (r := intR) (sz := 1) rfl L 3 l 8 1 [.i .i64 (max a b)] hL (by decide) (by omega) (by unfold maxLen; omega)
 refine RdAt'.run (by kernel_rfl) (T := ⟨[⟨186, Yu3, fun _ => []⟩], []⟩) ⟨⟨Ykr, trivial⟩, trivial⟩ (by rw [Yn6]; rfl) rfl ?_
 simp only [K9z, qTQ, fA, qAe, X1r, zVq, simprocAttr]
 refine ⟨_, _, _, _, _, by rw [Yn6]; rfl, ?_⟩
 simp only [fB, X1r, zVq, simprocAttr, Yu3, f1, e1]
 exact ⟨_, _, _, _, _, _, by rw [Yn6]; rfl, rfl, by unfold zLe; dsimp only; rw [zpT]; rfl⟩
def jn (xs ys : List Int) (i : Nat) : List Int := (List.range i).map fun k : Nat => max (vAt xs ((k + 1 : Nat) : Int)) (vAt ys ((k + 1 : Nat) : Int))
theorem zDy (xs ys : List Int) (i : Nat) : (jn xs ys i).length = i := by simp [jn]
theorem JJD (xs ys : List Int) (i : Nat) : jn xs ys (i + 1) = jn xs ys i ++ [max (vAt xs ((i + 1 : Nat) : Int)) (vAt ys ((i + 1 : Nat) : Int))] := by
 simp [jn, List.range_succ]
def Q6v (h : List AB) (i1 i2 i0 : Nat) (a b : Int) (m : Bool) (l : List Int) : List AB := h ++ (qAe h.length i1 i2 i0 m (.sl (h.length + 5) 0 (l.length + 1) (l.length + 1) (some 1)) .dead ++ [.blk true true [.i .i64 (max a b)], .blk true true (intR.cells l ++ [.i .i64 (max a b)])])
def Xc1 (h : List AB) (i1 i2 i0 : Nat) (a b : Int) (hh r : List AB) : Prop := ∃ m l, l.length ≤ 1000000 ∧ hh = h ++ qAe h.length i1 i2 i0 m (apS intR (h.length + 3) l) (resB intR true l) ∧ r = Q6v h i1 i2 i0 a b m l
open Classical in
noncomputable def Jta (h : List AB) (i1 i2 i0 : Nat) : List AV → List AB → Option (AV × List AB)
 | [.i .i64 a, .i .i64 b], hh => if c : ∃ r, Xc1 h i1 i2 i0 a b hh r then some (.b true, c.choose) else none
 | _, _ => none
theorem z0K (h : List AB) (i1 i2 i0 : Nat) (a b : Int) (m : Bool) (l : List Int) (hl : l.length ≤ 1000000) : Jta h i1 i2 i0 [.i .i64 a, .i .i64 b] (h ++ qAe h.length i1 i2 i0 m (apS intR (h.length + 3) l) (resB intR true l)) = some (.b true, Q6v h i1 i2 i0 a b m l) := by
 have hc : ∃ r, Xc1 h i1 i2 i0 a b (h ++ qAe h.length i1 i2 i0 m (apS intR (h.length + 3) l) (resB intR true l)) r := ⟨_, m, l, hl, rfl, rfl⟩
 obtain ⟨m', l', _, e, e5⟩ := hc.choose_spec
 replace e := List.append_cancel_left e
 simp only [qAe, List.cons.injEq, AB.blk.injEq, and_true, true_and] at e
 obtain ⟨e1, e2, e3⟩ := e
 have e4 := Yqn e1 e3
 subst e2 e4
 simp only [Jta]
 rw [dif_pos hc, e5]
theorem Jr0 (h : List AB) (i1 i2 i0 : Nat) (hb : XAh h i0 = some [.f (.func 160) [] []]) : ZFf Tryz.prog (h.length + 2) (Jta h i1 i2 i0) := by
 intro args hh v h' e
 unfold Jta at e
 split at e
 ·rename_i a b
  split at e
  ·rename_i hc
   cases e
   obtain ⟨m, l, h1, h2, h3⟩ := hc.choose_spec
   rw [h3, h2]
   exact Xxj h i1 i2 i0 m l a b hb h1
  ·cases e
 ·cases e
theorem Jim (h : List AB) (hz : h.map AB.freeze = h) (hh : HOk h) (i1 i2 i0 : Nat) (sv sw : AV) (xs ys : List Int) (hb : XAh h i0 = some [.f (.func 160) [] []]) (h1 : bxS h i1 = some sv) (h2 : bxS h i2 = some sw) (hx : Rd intR h sv xs) (hy : Rd intR h sw ys) (hl : xs.length ≤ 1000000 ∧ ys.length ≤ 1000000) :
  FnAt Tryz.prog 194 [.y (h.length + 2), .p i1 0, .p i2 0] (h ++ [.blk false true [.ns], .blk false true [.f (.func 186) [] [.p i0 0]], .lp .ready .n (K9z h.length i1 i2 i0) [10, 11] fA fB]) (.tu [])
   (h ++ qAe h.length i1 i2 i0 true (apS intR (h.length + 3) (jn xs ys (max xs.length ys.length))) (resB intR true (jn xs ys (max xs.length ys.length)))) := by
 refine FnAt.run (by kernel_rfl) (T := ⟨[⟨96, T_At, fun _ => []⟩], [⟨h.length + 2, Jta h i1 i2 i0, fun _ => [h.length + 0, h.length + 2, h.length + 3]⟩]⟩) ⟨⟨QYv, trivial⟩, ⟨Jr0 h i1 i2 i0 hb, trivial⟩⟩ Tryz.func194 KyH fun _ _ => ?_
 have f1 := qee (XpD h1)
 have f2 := qee (XpD h2)
 have f0 := qee hb
 have f3 := hx.fx (Q3l h1 hh) (sz := 1) rfl
 have f4 := hy.fx (Q3l h2 hh) (sz := 1) rfl
 unfold w194
 simp only [XH8, QN9, X1r, zVq, simprocAttr, f1, f2, f3, f4]
 refine YHj (S := Nat) (fun i => max xs.length ys.length - i) (fun i => [.y (h.length + 2), .p i1 0, .p i2 0] ++ tp 6 ++ [.i .i64 (max (xs.length : Int) ys.length), .i .i64 i] ++ tp 14) (fun i => h ++ qAe h.length i1 i2 i0 true (apS intR (h.length + 3) (jn xs ys i)) (resB intR true (jn xs ys i))) (fun i => i ≤ max xs.length ys.length) 0 (Nat.zero_le _) ?_ fun i hi => ?_
 ·have e : h ++ qAe h.length i1 i2 i0 true (apS intR (h.length + 3) (jn xs ys 0)) (resB intR true (jn xs ys 0)) = h ++ [.blk false true [.ns], .blk false true [.f (.func 186) [] [.p i0 0]], .lp .ready .n (K9z h.length i1 i2 i0) [10, 11] fA fB] ++ List.replicate 1 .dead := by
   rw [List.append_assoc]
   rfl
  rw [e]
  refine Bt.trans (Bt.wk ?_) (Bt.pad _ _ 1)
  simp only [X1r, zVq, simprocAttr]
 ·simp only [qAe, K9z, X1r, zVq, simprocAttr, f1, f2, f3, f4]
  refine ⟨fun g1 => ?_, fun g1 => ?_⟩
  ·have e1 : IntKind.i64.wrap ((i : Int) + 1) = ((i + 1 : Nat) : Int) := ZL4 (by unfold In64; omega)
   have e2 := fun a b m => z0K h i1 i2 i0 a b m (jn xs ys i) (by rw [zDy]; omega)
   simp only [qAe, K9z, Q6v, z1G, Z97] at e2
   simp only [X1r, Z1D, zVq, simprocAttr, CO.tmps, Opd.tmps, optT, Nat.reducePow, Nat.reduceDiv, Nat.reduceMod, f0, f1, f2, f3, f4, T_At, e1, e2, QNE hh, QZp hz]
   refine ⟨i + 1, by omega, by dsimp only; omega, ?_⟩
   have s1 : ∀ sel, selN h.length sel i1 = i1 := fun sel => Xdk (JwL (XpD h1))
   have s2 : ∀ sel, selN h.length sel i2 = i2 := fun sel => Xdk (JwL (XpD h2))
   have s0 : ∀ sel, selN h.length sel i0 = i0 := fun sel => Xdk (JwL hb)
   have q1 : decide (i1 < h.length + 4) = true := decide_eq_true (by have := JwL (XpD h1); omega)
   have q2 : decide (i2 < h.length + 4) = true := decide_eq_true (by have := JwL (XpD h2); omega)
   have q0 : decide (i0 < h.length + 4) = true := decide_eq_true (by have := JwL hb; omega)
   refine Bt.selL 3 [0, 1, 2, 5] hh (by decide) (by decide) (by decide) (by decide) ?_ ?_
   ·simp only [JJD, XlZ, zbl, zDy]
    simp only [q9C, FrSel, BlkSel, AV.ren, renL, AV.ok, okL, Option.some.injEq, exists_eq_left', List.length_cons, List.length_nil, Nat.reduceAdd, Nat.reduceLT, reduceCtorEq, implies_true, exists_eq', s0, s1, s2, q0, q1, q2]
   ·simp only [q9C, FrSel, BlkSel, AV.ren, renL, AV.ok, okL, Option.some.injEq, exists_eq_left', List.length_cons, List.length_nil, Nat.reduceAdd, Nat.reduceLT, reduceCtorEq, implies_true, exists_eq', s0, s1, s2, q0, q1, q2]
  ·have : i = max xs.length ys.length := by omega
   subst this
   exact Bt.refl _ _ _
def qIk (xs ys : List Int) : List Int := jn xs ys (max xs.length ys.length)
noncomputable def KDf : List AV → List AB → Option (AV × List AB)
 | [.f (.func 194) [] [.p i1 0, .p i2 0], .ns, .f (.func 186) [] [.p i0 0]], h => match XAh h i0 with
  | some [.f (.func 160) [] []] => (bxS h i1).bind fun sv => (bxS h i2).bind fun sw => (getS intR h sv).bind fun xs => (getS intR h sw).bind fun ys =>
    if xs.length ≤ 1000000 ∧ ys.length ≤ 1000000 then some (rsl intR h.length (qIk xs ys), h ++ [resB intR true (qIk xs ys)]) else none
  | _ => none
 | _, _ => none
theorem X25 : Spec Tryz.prog 184 KDf := by
 intro args h v h' e
 unfold KDf at e
 split at e
 ·rename_i i1 i2 i0
  split at e
  ·rename_i hb
   obtain ⟨sv, h1, e⟩ := Option.bind_eq_some_iff.1 e
   obtain ⟨sw, h2, e⟩ := Option.bind_eq_some_iff.1 e
   obtain ⟨xs, hx, e⟩ := YI8 e
   obtain ⟨ys, hy, e⟩ := YI8 e
   split at e
   ·rename_i hl
    cases e
    refine FnAt.c (FnAt.frz fun hz => ?_)
    rw [show h.length = (h.map AB.freeze).length from (List.length_map _).symm]
    replace hx := hx.frz
    replace hy := hy.frz
    rw [← XR9] at hb
    rw [← zXA] at h1 h2
    generalize h.map AB.freeze = h at *
    refine FnAt.run (by kernel_rfl) (T := ⟨[], []⟩) ⟨trivial, trivial⟩ Tryz.func184 Ykg fun ho hh => ?_
    unfold w184
    simp only [XH8, QN9, X1r, zVq, simprocAttr]
    refine W_rf rfl (by simp only [X1r, zVq, simprocAttr]) rfl (by simp only [X1r, zVq, simprocAttr]; rfl) (Jim h hz hh i1 i2 i0 sv sw xs ys hb h1 h2 hx hy hl) (by rw [Yn6]; rfl) (by decide) ?_
    simp only [qAe, K9z, X1r, zVq, simprocAttr]
    exact Bt.oneA 3 hh rfl
   ·cases e
  ·cases e
 ·cases e
def KF3 : List AV → List AB → Option (AV × List AB)
 | [a, b], h => if a.isSl = true ∧ b.isSl = true then some (.f (.func 194) [] [.p (h.length + 0) 0, .p (h.length + 1) 0], h ++ [.blk false true [a], .blk false true [b]]) else none
 | _, _ => none
theorem Xny : Spec Tryz.prog 185 KF3 := by
 intro args h v h' e
 unfold KF3 at e
 split at e
 ·rename_i a b
  split at e
  ·rename_i hs
   cases e
   refine FnAt.c (FnAt.run (by kernel_rfl) (T := ⟨[], []⟩) ⟨trivial, trivial⟩ Tryz.func185 Qiy fun ho hh => ?_)
   unfold w185
   simp only [XH8, QN9, X1r, zVq, simprocAttr, Qwl hs.1, Qwl hs.2, YCL hs.1, YCL hs.2]
   exact Bt.eq rfl rfl
  ·cases e
 ·cases e
noncomputable def YLL : List AV → List AB → Option (AV × List AB)
 | [a, b], h => (getS intR h a).bind fun xs => (getS intR h b).bind fun ys => if xs.length ≤ 1000000 ∧ ys.length ≤ 1000000 then some (rsl intR h.length (qIk xs ys), h ++ [resB intR true (qIk xs ys)]) else none
 | _, _ => none
noncomputable def QgU : List AV → List AB → Option (AV × List AB)
 | [a, b, .f (.func 160) [] []], h => YLL [a, b] h
 | _, _ => none
theorem Qro : Spec Tryz.prog 159 QgU := by
 intro args h v h' e
 unfold QgU at e
 split at e
 ·rename_i a b
  unfold YLL at e
  obtain ⟨xs, hx, e⟩ := YI8 e
  obtain ⟨ys, hy, e⟩ := YI8 e
  split at e
  ·rename_i hl
   cases e
   refine FnAt.c (FnAt.run (by kernel_rfl) (T := ⟨[⟨185, KF3, fun _ => []⟩, ⟨184, KDf, fun _ => []⟩], []⟩) ⟨⟨Xny, X25, trivial⟩, trivial⟩ Tryz.func159 JJI fun ho hh => ?_)
   simp only [qMC, Bool.and_eq_true] at ho
   have f1 := hx.fx ho.1 (sz := 1) rfl
   have f2 := hy.fx ho.2.1 (sz := 1) rfl
   unfold w159
   simp only [XH8, QN9, X1r, zVq, simprocAttr, KF3, KDf, f1, f2, hx.isSl, hy.isSl, hl]
   exact Bt.oneR 3 hh rfl
  ·cases e
 ·cases e
theorem Qer : Spec Tryz.prog 139 YLL := by
 intro args h v h' e
 unfold YLL at e
 split at e
 ·rename_i a b
  obtain ⟨xs, hx, e⟩ := YI8 e
  obtain ⟨ys, hy, e⟩ := YI8 e
  split at e
  ·rename_i hl
   cases e
   refine FnAt.c (FnAt.run (by kernel_rfl) (T := ⟨[⟨159, QgU, fun _ => []⟩], []⟩) ⟨⟨Qro, trivial⟩, trivial⟩ Tryz.func139 XB5 fun ho hh => ?_)
   simp only [qMC, Bool.and_eq_true] at ho
   have f1 := hx.fx ho.1 (sz := 1) rfl
   have f2 := hy.fx ho.2.1 (sz := 1) rfl
   unfold w139
   simp only [XH8, QN9, X1r, zVq, simprocAttr, QgU, YLL, f1, f2, hl]
   exact Bt.oneR 0 hh rfl
  ·cases e
 ·cases e
end Go.Proofs.YtfaccliekejngaaGreat
end
section
namespace Go.Proofs.YtfaccliekejngaaGreat
set_option maxRecDepth 100000
def Zom (xs : List Int) (d : Int × Int) : Prop := 1 ≤ d.1 ∧ 1 ≤ d.2 ∧ d.2 ≤ vAt xs d.1
instance (xs : List Int) (d : Int × Int) : Decidable (Zom xs d) := by unfold Zom; infer_instance
noncomputable def zX9 : List AV → List AB → Option (AV × List AB)
 | [s, .ag [.i .i64 a, .i .i64 b]], h => (getS intR h s).bind fun xs => some (.b (decide (Zom xs (a, b))), h)
 | _, _ => none
theorem qJX : Spec Tryz.prog 135 zX9 := by
 intro args h v h' e
 unfold zX9 at e
 split at e
 ·rename_i s a b
  obtain ⟨xs, hx, e⟩ := YI8 e
  cases e
  refine FnAt.c (FnAt.frz0 fun hz => ?_)
  replace hx := hx.frz
  generalize h.map AB.freeze = h at *
  refine FnAt.run (by kernel_rfl) (T := ⟨[⟨96, T_At, fun _ => []⟩], []⟩) ⟨⟨QYv, trivial⟩, trivial⟩ Tryz.func135 KbS fun ho hh => ?_
  simp only [qMC, Bool.and_eq_true] at ho
  have f1 := hx.fx ho.1 (sz := 1) rfl
  unfold w135
  simp only [XH8, QN9, X1r, Z1D, zVq, if_true, if_false, reduceIte, Nat.reduceAdd, Nat.reduceSub, Nat.reduceLeDiff, Nat.reduceEqDiff, Nat.reduceMul, Nat.reduceLT, Int.reduceLT, Int.reduceLE, Int.reduceEq, CO.tmps, Opd.tmps, optT, Nat.reducePow, Nat.reduceDiv, Nat.reduceMod, T_At, f1, QNE hh, QZp hz]
  refine ⟨fun h1 => ⟨fun h2 => ?_, fun h2 => ?_⟩, fun h1 => ?_⟩ <;> exact Bt.dropB _ hh (by simp [Zom, *])
 ·cases e
def YpI (xs : List Int) (d : Int × Int) : List Int :=
 if d.1 < 1 ∨ 16 < d.1 ∨ d.2 < 1 ∨ d.2 ≤ vAt xs d.1 then qIk xs [] else qIk xs ((List.replicate d.1.toNat 0).set (d.1 - 1).toNat d.2)
noncomputable def zbq : List AV → List AB → Option (AV × List AB)
 | [s, .ag [.i .i64 a, .i .i64 b]], h => (getS intR h s).bind fun xs => if xs.length ≤ 1000000 then some (rsl intR h.length (YpI xs (a, b)), h ++ [resB intR true (YpI xs (a, b))]) else none
 | _, _ => none
theorem XZT : Spec Tryz.prog 140 zbq := by
 intro args h v h' e
 unfold zbq at e
 split at e
 ·rename_i s a b
  obtain ⟨xs, hx, e⟩ := YI8 e
  split at e
  ·rename_i hl
   cases e
   refine FnAt.c (FnAt.frz fun hz => ?_)
   rw [show h.length = (h.map AB.freeze).length from (List.length_map _).symm]
   replace hx := hx.frz
   generalize h.map AB.freeze = h at *
   refine FnAt.run (by kernel_rfl) (T := ⟨[⟨96, T_At, fun _ => []⟩, ⟨139, YLL, fun _ => []⟩], []⟩) ⟨⟨QYv, Qer, trivial⟩, trivial⟩ Tryz.func140 zB4 fun ho hh => ?_
   simp only [qMC, Bool.and_eq_true] at ho
   have f1 := hx.fx ho.1 (sz := 1) rfl
   unfold w140
   simp only [XH8, QN9, X1r, Z1D, zVq, if_true, if_false, reduceIte, Nat.reduceAdd, Nat.reduceSub, Nat.reduceLeDiff, Nat.reduceEqDiff, Nat.reduceMul, Nat.reduceLT, Int.reduceLT, Int.reduceLE, Int.reduceEq, CO.tmps, Opd.tmps, optT, Nat.reducePow, Nat.reduceDiv, Nat.reduceMod, T_At, YLL, f1, hl, QNE hh, QZp hz]
   have g : ∀ (_ : a < 1 ∨ 16 < a ∨ b < 1 ∨ b ≤ vAt xs a), ([] : List Int).length ≤ 1000000 ∧ Bt Tryz.prog h.length [rsl intR (h.length + 1) (qIk xs [])] (h ++ [AB.blk true true [AV.i IntKind.i64 a, AV.i IntKind.i64 b], resB intR true (qIk xs [])]) [rsl intR h.length (YpI xs (a, b))] (h ++ [resB intR true (YpI xs (a, b))]) := fun q => by
    have : YpI xs (a, b) = qIk xs [] := by unfold YpI; rw [if_pos q]
    rw [this]
    exact ⟨by decide, Bt.oneR 1 hh rfl⟩
   refine ⟨fun q => g (.inl q), fun q1 => ⟨fun q => g (.inr (.inl q)), fun q2 => ⟨fun q => g (.inr (.inr (.inl q))), fun q3 => ⟨fun q => g (.inr (.inr (.inr q))), fun q4 => ?_⟩⟩⟩⟩
   have c1 : (List.replicate a.toNat [AV.i .i64 0]).flatten = intR.cells (List.replicate a.toNat 0) := QMg intR a.toNat 0
   have c2 : (0 ≤ a ∧ a ≤ a ∧ 8 * a ≤ 2 ^ 47 ∧ a ≤ (maxLen : Int)) = True := eq_true ⟨by omega, by omega, by omega, by unfold maxLen; omega⟩
   have c3 : IntKind.i64.wrap (a - 1) = a - 1 := ZL4 (by unfold In64; omega)
   have c4 : (0 ≤ a - 1 ∧ a - 1 < (a.toNat : Int)) = True := eq_true (by omega)
   have c5 : over (intR.cells (List.replicate a.toNat 0)) (0 + (a - 1).toNat * 1) [AV.i .i64 b] = intR.cells ((List.replicate a.toNat 0).set (a - 1).toNat b) := by
    rw [Nat.zero_add, Nat.mul_one]
    exact YK8 _ _ _ (by rw [List.length_replicate]; omega)
   have c6 : (0 + ((a - 1).toNat * 1 + 1) ≤ (intR.cells (List.replicate a.toNat 0)).length) = True := eq_true (by rw [Row.cells_len, List.length_replicate, QPQ]; omega)
   have c7 : ((List.replicate a.toNat (0 : Int)).set (a - 1).toNat b).length = a.toNat := by simp
   have c8 : ∀ L : List AB, ownC L 1 = some (intR.cells ((List.replicate a.toNat (0 : Int)).set (a - 1).toNat b)) → getS intR (h ++ L) (.sl (h.length + 1) 0 a.toNat a.toNat none) = some ((List.replicate a.toNat (0 : Int)).set (a - 1).toNat b) := fun L hL => by
    have := Xc0 (h := h) (c := a.toNat) (kk := none) hL (by rw [c7]; unfold maxLen; omega)
    rw [c7] at this
    exact this.get
   have c9 : (a.toNat ≤ 1000000) = True := eq_true (by omega)
   simp only [X1r, zVq, if_true, if_false, reduceIte, Nat.reduceAdd, Nat.reduceSub, Nat.reduceLeDiff, Nat.reduceEqDiff, Nat.reduceMul, Nat.reduceLT, Int.reduceLT, Int.reduceLE, Int.reduceEq, c1, c2, c3, c4, c5, c6, c7, c8, c9, YLL, f1, hl]
   have : YpI xs (a, b) = qIk xs ((List.replicate a.toNat 0).set (a - 1).toNat b) := by unfold YpI; rw [if_neg (by simp only; omega)]
   rw [this]
   exact Bt.oneR 2 hh rfl
  ·cases e
 ·cases e
end Go.Proofs.YtfaccliekejngaaGreat
end
