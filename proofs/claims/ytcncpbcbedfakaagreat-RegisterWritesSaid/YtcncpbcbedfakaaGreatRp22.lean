/- Part 22 of what the laws' proofs rest on. No condition. -/
import Derived.Test.YtcncpbcbedfakaaGreatRp21
set_option linter.all false
section
namespace Go.Proofs.YtcncpbcbedfakaaGreat
set_option maxRecDepth 100000
set_option maxHeartbeats 4000000
theorem Rd.ldp {α : Type} {r : Row α} {h : List AB} {s : AV} {l : List α} (e : Rd r h s l) {sz : Nat} (hz : r.sz = sz) (n j m : Nat) (hn : n < l.length) (hm : j + m ≤ sz) : ldV h (some m) (elP sz s n j) = some (.ag (((r.f (l.getD n r.d)).drop j).take m)) := by
 subst hz
 obtain ⟨id, off, cap, k, xs, rfl, h1, h2, h3⟩ := e.blk n hn
 simp only [elP, ldV, h1, Option.bind_some]
 have hlt : n * r.sz + r.sz ≤ l.length * r.sz := by
  have := Nat.mul_le_mul_right r.sz (show n + 1 ≤ l.length from hn)
  rw [Nat.add_mul] at this
  omega
 rw [if_pos (by omega)]
 congr 2
 refine List.ext_getElem? fun i => ?_
 rw [List.getElem?_take, List.getElem?_take]
 split
 ·rename_i hi
  have key : (r.f (l.getD n r.d))[j + i]? = xs[off + (n * r.sz + (j + i))]? := by
   rw [← r.cells_get l n (j + i) hn (by omega), ← h3, List.getElem?_take, if_pos (by omega), List.getElem?_drop]
  rw [List.getElem?_drop, List.getElem?_drop, key]
  congr 1
  omega
 ·rfl
theorem QfD {h : List AB} {s : AV} {l : List Hd} (e : Rd Qv2 h s l) : (∀ x n, n < l.length → ldV (h ++ x) (some 2) (elP 34 s n 0) = some (.ag [.i .i64 (l.getD n Qv2.d).1.1, .i .i64 (l.getD n Qv2.d).1.2])) ∧ (∀ x n, n < l.length → ldV (h ++ x) (some 32) (elP 34 s n 2) = some (.ag (idR.f (l.getD n Qv2.d).2))) :=
 ⟨fun x n hn => by
  have := (e.app x).ldp J7X n 0 2 hn (by decide)
  rw [YRz, X5J] at this
  exact this, fun x n hn => by
  have := (e.app x).ldp J7X n 2 32 hn (by decide)
  rw [Zpc] at this
  exact this⟩
theorem Kk2 : Spec Tryz.prog 73 zGl := by
 intro args h v h' e
 unfold zGl at e
 split at e
 ·rename_i a b c d
  cases e
  refine FnAt.c (FnAt.run (by kernel_rfl) (T := ⟨[], []⟩) ⟨trivial, trivial⟩ Tryz.func73 sw73 fun ho hh => ?_)
  unfold w73
  simp only [X7f, KtR, YUa, YOR, XuN, simprocAttr, CO.tmps, Opd.tmps, optT, Nat.reducePow, Nat.reduceDiv, Nat.reduceMod]
  refine ⟨fun h1 => ?_, fun h1 => ⟨fun h2 => ?_, fun h2 => ?_⟩⟩ <;> exact Bt.dropB _ hh (by simp [X1k, *])
 ·cases e
theorem K0x : Spec Tryz.prog 62 YcP := by
 intro args h v h' e
 unfold YcP at e
 split at e
 ·rename_i a b
  cases e
  refine FnAt.c (FnAt.run (by kernel_rfl) (T := ⟨[], []⟩) ⟨trivial, trivial⟩ Tryz.func62 sw62 fun ho hh => ?_)
  unfold w62
  simp only [X7f, KtR, YUa, YOR, XuN, simprocAttr, CO.tmps, Opd.tmps, optT, Nat.reducePow, Nat.reduceDiv, Nat.reduceMod]
  refine ⟨fun h1 => ⟨fun h2 => ⟨fun h3 => ?_, fun h3 => ?_⟩, fun h2 => ?_⟩, fun h1 => ?_⟩ <;> exact Bt.dropB _ hh (by simp [qu1, *])
 ·cases e
def qsy (v : List Int) (ds : Dots) (l : List Hd) (i : Nat) : Prop := ∀ k, k < i → (0 < k → X1k (l.getD (k - 1) Qv2.d).1 (l.getD k Qv2.d).1) ∧ (Zmz v ds = 0 ∧ YC0 v ds (l.getD k Qv2.d).1)
noncomputable instance (v : List Int) (ds : Dots) (l : List Hd) (i : Nat) : Decidable (qsy v ds l i) := Classical.propDecidable _
noncomputable def KwI (l : List Hd) (v : List Int) (ds : Dots) : Int := if Zmz v ds ≠ 0 then Zmz v ds else if qsy v ds l l.length then 0 else 2
noncomputable def Q1i : List AV → List AB → Option (AV × List AB)
 | [.ag [l, s, t]], h => (getS Qv2 h l).bind fun hs => (getS intR h s).bind fun v => (getS dotR h t).bind fun ds => some (.i .i64 (KwI hs v ds), h)
 | _, _ => none
theorem ZYN : Spec Tryz.prog 28 Q1i := by
 intro args h v h' e
 unfold Q1i at e
 split at e
 ·rename_i l s t
  obtain ⟨hs, hl, e⟩ := Ksw e
  obtain ⟨xs, hv, e⟩ := Ksw e
  obtain ⟨ds, hd, e⟩ := Ksw e
  cases e
  refine FnAt.c (FnAt.frz0 fun hz => ?_)
  replace hl := hl.frz
  replace hv := hv.frz
  replace hd := hd.frz
  generalize h.map AB.freeze = h at *
  refine FnAt.run (by kernel_rfl) (T := ⟨[⟨61, Ype, fun _ => []⟩, ⟨73, zGl, fun _ => []⟩, ⟨52, JH2, fun _ => []⟩], []⟩) ⟨⟨zLB, Kk2, Zsq, trivial⟩, trivial⟩ Tryz.func28 sw28 fun ho hh => ?_
  simp only [Xto, J9P, Bool.and_eq_true] at ho
  have f1 := hl.fx ho.1.1 (sz := 34) rfl
  have f2 := hv.fx ho.1.2.1 (sz := 1) rfl
  have f3 := hd.fx ho.1.2.2.1 (sz := 2) rfl
  have f4 := QfD hl
  unfold w28
  by_cases c : Zmz xs ds = 0
  case neg =>
   have c' := eq_false c
   simp only [X7f, KtR, YUa, YOR, XuN, simprocAttr, CO.tmps, Opd.tmps, optT, Nat.reducePow, Nat.reduceDiv, Nat.reduceMod, f1, f2, f3, Ype, c', not_false_eq_true, decide_true]
   exact Bt.dropI _ hh (by unfold KwI; rw [if_pos c])
  have hk : KwI hs xs ds = if qsy xs ds hs hs.length then 0 else 2 := by unfold KwI; rw [if_neg (not_not_intro c)]
  simp only [X7f, KtR, YUa, YOR, XuN, simprocAttr, CO.tmps, Opd.tmps, optT, Nat.reducePow, Nat.reduceDiv, Nat.reduceMod, f1, f2, f3, Ype, c]
  refine KUy (S := Nat) (fun i => hs.length - i) (fun i => tp 1 ++ [.p (h.length + 0) 0] ++ tp 2 ++ [.i .i64 i] ++ tp 44) (fun i => i ≤ hs.length ∧ qsy xs ds hs i) 0 ⟨Nat.zero_le _, fun k hk => absurd hk (Nat.not_lt_zero _)⟩ (by simp only [YUa, XuN, simprocAttr]) fun i hi => ?_
  by_cases g1 : i < hs.length
  ·have g1' := eq_true g1
   have e1 : IntKind.i64.wrap ((i : Int) + 1) = ((i + 1 : Nat) : Int) := ZPn (by have := hl.2; unfold maxLen at this; unfold In64; omega)
   have hstep : qsy xs ds hs (i + 1) ↔ (0 < i → X1k (hs.getD (i - 1) Qv2.d).1 (hs.getD i Qv2.d).1) ∧ YC0 xs ds (hs.getD i Qv2.d).1 := by
    constructor
    ·intro q
     have := q i (Nat.lt_succ_self i)
     exact ⟨this.1, this.2.2⟩
    ·rintro ⟨q1, q2⟩ k hk
     rcases Nat.lt_succ_iff_lt_or_eq.1 hk with z | rfl
     ·exact hi.2 k z
     ·exact ⟨q1, c, q2⟩
   have hbad : ¬ qsy xs ds hs (i + 1) → KwI hs xs ds = 2 := fun q => by
    rw [hk, if_neg]
    exact fun z => q fun k hk' => z k (by omega)
   by_cases g0 : i = 0
   ·have gz : ((0 : Int) < (i : Int)) = False := eq_false (by omega)
    simp only [YUa, YOR, XuN, simprocAttr, CO.tmps, Opd.tmps, optT, Nat.reducePow, Nat.reduceDiv, Nat.reduceMod, f1, f2, f3, f4, g1', gz, zGl, JH2, c, zN5 hh, X9l hz, Zf1 hz, QwP hz]
    refine ⟨fun q => Bt.dropI _ hh (hbad fun z => q (hstep.1 z).2).symm, fun q => ?_⟩
    rw [e1]
    exact ⟨i + 1, ⟨g1, hstep.2 ⟨fun z => absurd z (by omega), Decidable.not_not.1 q⟩⟩, by omega, Wk.refl _⟩
   ·have gz : ((0 : Int) < (i : Int)) = True := eq_true (by omega)
    have e2 : IntKind.i64.wrap ((i : Int) - 1) = ((i - 1 : Nat) : Int) := by
     have : (i : Int) - 1 = ((i - 1 : Nat) : Int) := by omega
     rw [this]
     exact ZPn (by have := hl.2; unfold maxLen at this; unfold In64; omega)
    have g2' : (i - 1 < hs.length) = True := eq_true (by omega)
    simp only [YUa, YOR, XuN, simprocAttr, CO.tmps, Opd.tmps, optT, Nat.reducePow, Nat.reduceDiv, Nat.reduceMod, f1, f2, f3, f4, g1', g2', e2, gz, zGl, JH2, c, zN5 hh, X9l hz, Zf1 hz, QwP hz]
    refine ⟨fun q => Bt.dropI _ hh (hbad fun z => q ((hstep.1 z).1 (by omega))).symm, fun p => ⟨fun q => Bt.dropI _ hh (hbad fun z => q (hstep.1 z).2).symm, fun q => ?_⟩⟩
    rw [e1]
    exact ⟨i + 1, ⟨g1, hstep.2 ⟨fun _ => Decidable.not_not.1 p, Decidable.not_not.1 q⟩⟩, by omega, Wk.refl _⟩
  ·obtain rfl : i = hs.length := by omega
   have g1' := eq_false g1
   simp only [YUa, YOR, XuN, simprocAttr, CO.tmps, Opd.tmps, optT, Nat.reducePow, Nat.reduceDiv, Nat.reduceMod, f1, f2, f3, f4, g1']
   exact Bt.dropI _ hh (by rw [hk, if_pos hi.2])
 ·cases e
end Go.Proofs.YtcncpbcbedfakaaGreat
end
section
namespace Go.Proofs.YtcncpbcbedfakaaGreat
set_option maxRecDepth 100000
set_option maxHeartbeats 4000000
theorem zso (x : Hd) : (Qv2.f x).length = 34 := Qv2.len x
theorem JUv (x : Dg) : (idR.f x).length = 32 := idR.len x
theorem Zcp (x : Hd) : (Qv2.f x).take 34 = Qv2.f x := List.take_of_length_le (by rw [zso]; exact Nat.le_refl _)
theorem Q40 (x : Dg) : (idR.f x).take 32 = idR.f x := List.take_of_length_le (by rw [JUv]; exact Nat.le_refl _)
theorem qdw : ∀ (zs l : List AV), l.length = zs.length → over zs 0 l = l := by
 intro zs l h
 simp only [over, List.take_zero, List.nil_append, Nat.zero_add]
 rw [List.drop_eq_nil_of_le (by omega), List.append_nil]
noncomputable def outL (v : List Int) (ds : Dots) (l : List Hd) : List Hd := l.filter fun x => decide (¬ (Zmz v ds = 0 ∧ YC0 v ds x.1))
theorem YiX (v : List Int) (ds : Dots) {l : List Hd} {i : Nat} (h : i < l.length) : outL v ds (l.take (i + 1)) = outL v ds (l.take i) ++ (if ¬ (Zmz v ds = 0 ∧ YC0 v ds (l.getD i Qv2.d).1) then [l.getD i Qv2.d] else []) := by
 unfold outL
 rw [List.take_succ_eq_append_getElem h, List.filter_append, List.getD_eq_getElem?_getD, List.getElem?_eq_getElem h]
 simp only [Option.getD_some, List.filter_cons, List.filter_nil, decide_eq_true_eq]
theorem qh6 (v : List Int) (ds : Dots) (l : List Hd) (i : Nat) : (outL v ds (l.take i)).length ≤ i := by
 unfold outL
 exact Nat.le_trans (List.length_filter_le _ _) (by rw [List.length_take]; omega)
noncomputable def zJ7 : List AV → List AB → Option (AV × List AB)
 | [l, .ag [s, t]], h => (getS Qv2 h l).bind fun hs => (getS intR h s).bind fun v => (getS dotR h t).bind fun ds => if hs.length ≤ 1000000 then some (rsl Qv2 h.length (outL v ds hs), h ++ [resB Qv2 true (outL v ds hs)]) else none
 | _, _ => none
theorem J97 : Spec Tryz.prog 64 zJ7 := by
 intro args h v h' e
 unfold zJ7 at e
 split at e
 ·rename_i l s t
  obtain ⟨hs, hl, e⟩ := Ksw e
  obtain ⟨xs, hv, e⟩ := Ksw e
  obtain ⟨ds, hd, e⟩ := Ksw e
  split at e
  ·rename_i hL
   cases e
   refine FnAt.c (FnAt.frz fun hz => ?_)
   rw [show h.length = (h.map AB.freeze).length from (List.length_map _).symm]
   replace hl := hl.frz
   replace hv := hv.frz
   replace hd := hd.frz
   generalize h.map AB.freeze = h at *
   refine FnAt.run (by kernel_rfl) (T := ⟨[⟨52, JH2, fun _ => []⟩], []⟩) ⟨⟨Zsq, trivial⟩, trivial⟩ Tryz.func64 sw64 fun ho hh => ?_
   simp only [Xto, J9P, Bool.and_eq_true] at ho
   have f1 := hl.fx ho.1 (sz := 34) rfl
   have f2 := hv.fx ho.2.1.1 (sz := 1) rfl
   have f3 := hd.fx ho.2.1.2.1 (sz := 2) rfl
   have f4 := QfD hl
   have fo : ∀ c, l.ok (fun i => decide (i < h.length + c)) = true ∧ s.ok (fun i => decide (i < h.length + c)) = true ∧ t.ok (fun i => decide (i < h.length + c)) = true := fun c => by
    have mm : ∀ v : AV, v.ok (fun i => decide (i < h.length)) = true → v.ok (fun i => decide (i < h.length + c)) = true := fun v => AV.ok_mono (fun i q => by simp only [decide_eq_true_eq] at q ⊢; omega) v
    exact ⟨mm _ ho.1, mm _ ho.2.1.1, mm _ ho.2.1.2.1⟩
   have fr : ∀ sel, Wk (l.ren (selN h.length sel)) l ∧ Wk (s.ren (selN h.length sel)) s ∧ Wk (t.ren (selN h.length sel)) t := fun sel => ⟨Wk.ren (fun i hi => q8q hi) ho.1, Wk.ren (fun i hi => q8q hi) ho.2.1.1, Wk.ren (fun i hi => q8q hi) ho.2.1.2.1⟩
   unfold w64
   simp only [X7f, KtR, YUa, YOR, XuN, simprocAttr, CO.tmps, Opd.tmps, optT, Nat.reducePow, Nat.reduceDiv, Nat.reduceMod, f1, f2, f3]
   refine QZo (S := Nat) (fun i => hs.length - i) (fun i => [l] ++ tp 2 ++ [.p (h.length + 0) 0] ++ tp 1 ++ [apS Qv2 (h.length + 1) (outL xs ds (hs.take i)), .i .i64 i] ++ tp 22) (fun i => h ++ [.blk false true [s, t], resB Qv2 true (outL xs ds (hs.take i))]) (fun i => i ≤ hs.length) 0 (Nat.zero_le _) ?_ fun i hi => ?_
   ·show Bt _ _ _ _ _ (h ++ ([.blk false true [s, t]] ++ List.replicate 1 .dead))
    rw [← List.append_assoc]
    refine Bt.trans (Bt.wk ?_) (Bt.pad _ _ 1)
    rw [show apS Qv2 (h.length + 1) (outL xs ds (hs.take 0)) = .ns from rfl]
    simp only [YUa, XuN, simprocAttr]
   ·have ln := qh6 xs ds hs i
    by_cases g1 : i < hs.length
    ·have g1' := eq_true g1
     have e1 : IntKind.i64.wrap ((i : Int) + 1) = ((i + 1 : Nat) : Int) := ZPn (by unfold In64; omega)
     have hst := YiX xs ds g1
     by_cases hp : Zmz xs ds = 0 ∧ YC0 xs ds (hs.getD i Qv2.d).1
     ·have hp' : (Zmz xs ds = 0 ∧ YC0 xs ds ((hs.getD i Qv2.d).1.1, (hs.getD i Qv2.d).1.2)) = True := eq_true hp
      rw [if_neg (not_not_intro hp), List.append_nil] at hst
      simp only [YUa, YOR, XuN, simprocAttr, CO.tmps, Opd.tmps, optT, Nat.reducePow, Nat.reduceDiv, Nat.reduceMod, f1, f2, f3, f4, g1', hp', JH2, e1, zN5 hh, X9l hz, Zf1 hz, QwP hz]
      refine ⟨i + 1, g1, by dsimp only; omega, ?_⟩
      dsimp only
      rw [hst]
      exact Bt.wk (by simp only [YUa, XuN, simprocAttr])
     ·have hp' : (Zmz xs ds = 0 ∧ YC0 xs ds ((hs.getD i Qv2.d).1.1, (hs.getD i Qv2.d).1.2)) = False := eq_false hp
      rw [if_pos hp] at hst
      by_cases hB : outL xs ds (hs.take i) = []
      ·rw [hB, List.nil_append] at hst
       have z3 : (1 * 48 ≤ 140737488355328 ∧ 1 ≤ maxLen) = True := eq_true ⟨by decide, by unfold maxLen; omega⟩
       simp only [hB, qY6, YUa, YOR, XuN, simprocAttr, CO.tmps, Opd.tmps, optT, Nat.reducePow, Nat.reduceDiv, Nat.reduceMod, f1, f2, f3, f4, g1', hp', JH2, e1, z3, zqp, zso, Zcp, qdw, List.length_cons, List.length_nil, zN5 hh, X9l hz, Zf1 hz, QwP hz]
       refine ⟨i + 1, g1, by dsimp only; omega, ?_⟩
       dsimp only
       rw [hst]
       simp only [QT8, zHP]
       exact Bt.sel [0, 3] hh (by decide) (by simp only [qpr, FrSel, BlkSel, AV.ren, renL, AV.ok, okL, Option.some.injEq, exists_eq_left', List.length_cons, List.length_nil, Nat.reduceAdd, Nat.reduceLT, reduceCtorEq, implies_true, exists_eq', fo, fr]) (by simp only [qpr, FrSel, BlkSel, AV.ren, renL, AV.ok, okL, Option.some.injEq, exists_eq_left', List.length_cons, List.length_nil, Nat.reduceAdd, Nat.reduceLT, reduceCtorEq, implies_true, exists_eq', fo, fr, J7X])
      ·have hlB : (outL xs ds (hs.take i)).length ≠ 0 := fun q => hB (List.eq_nil_of_length_eq_zero q)
       have gr : ∀ id, apS Qv2 id (outL xs ds (hs.take i)) = rsl Qv2 id (outL xs ds (hs.take i)) := fun id => ZtQ _ hlB
       have fa := fun L k ys hb => z4x (h := h) (p := h.length) rfl (r := Qv2) (sz := 34) rfl L k (outL xs ds (hs.take i)) 48 1 ys hlB hb (by decide) (by omega) (by unfold maxLen; omega)
       simp only [gr, YUa, YOR, XuN, simprocAttr, CO.tmps, Opd.tmps, optT, Nat.reducePow, Nat.reduceDiv, Nat.reduceMod, f1, f2, f3, f4, g1', hp', JH2, e1, fa, zqp, zso, Zcp, qdw, List.length_cons, List.length_nil, zN5 hh, X9l hz, Zf1 hz, QwP hz]
       refine ⟨i + 1, g1, by dsimp only; omega, ?_⟩
       dsimp only
       rw [hst]
       simp only [zfM, XJF]
       exact Bt.sel [0, 3] hh (by decide) (by simp only [qpr, FrSel, BlkSel, AV.ren, renL, AV.ok, okL, Option.some.injEq, exists_eq_left', List.length_cons, List.length_nil, Nat.reduceAdd, Nat.reduceLT, reduceCtorEq, implies_true, exists_eq', fo, fr]) (by simp only [qpr, FrSel, BlkSel, AV.ren, renL, AV.ok, okL, Option.some.injEq, exists_eq_left', List.length_cons, List.length_nil, Nat.reduceAdd, Nat.reduceLT, reduceCtorEq, implies_true, exists_eq', fo, fr, J7X])
    ·obtain rfl : i = hs.length := by omega
     have g1' := eq_false g1
     rw [List.take_length]
     simp only [YUa, YOR, XuN, simprocAttr, CO.tmps, Opd.tmps, optT, Nat.reducePow, Nat.reduceDiv, Nat.reduceMod, f1, f2, f3, g1']
     refine Bt.trans (Bt.wk1 (qEA _ _)) ?_
     exact Bt.sel [1] hh (by decide) (by simp only [qpr, FrSel, BlkSel, AV.ren, renL, AV.ok, okL, Option.some.injEq, exists_eq_left', List.length_cons, List.length_nil, Nat.reduceAdd, Nat.reduceLT, reduceCtorEq, implies_true, exists_eq']) (by simp only [qpr, FrSel, BlkSel, AV.ren, renL, AV.ok, okL, Option.some.injEq, exists_eq_left', List.length_cons, List.length_nil, Nat.reduceAdd, Nat.reduceLT, reduceCtorEq, implies_true, exists_eq'])
  ·cases e
 ·cases e
end Go.Proofs.YtcncpbcbedfakaaGreat
end
section
namespace Go.Proofs.YtcncpbcbedfakaaGreat
set_option maxRecDepth 100000
set_option maxHeartbeats 4000000
theorem eqcG (a b c d : Int) : Kon [.i, .i] [.i .i64 a, .i .i64 b] [.i .i64 c, .i .i64 d] = some (decide (a = c ∧ b = d)) := by
 have := eqc2 (a, b) (c, d)
 simp only at this
 rw [this]
 congr 1
 exact decide_eq_decide.2 (by rw [Prod.mk.injEq])
noncomputable instance (l : List Hd) (x : Hd) (i : Nat) : Decidable (∃ y ∈ l.take i, J9e x y) := Classical.propDecidable _
noncomputable def Xvg (l : List Hd) (x : Hd) (i : Nat) : List Hd := if ∃ y ∈ l.take i, J9e x y then layG J9e (l.take i) x else l.take i
theorem Z5i {l : List Hd} {x : Hd} (h : ¬ ∃ y ∈ l, J9e x y) : layG J9e l x = l ++ [x] := by
 induction l with
 | nil => rfl
 | cons a l ih =>
  unfold layG
  rw [if_neg fun q => h ⟨a, .head _, q⟩, ih fun ⟨y, hy, q⟩ => h ⟨y, .tail _ hy, q⟩]
  rfl
theorem KU6 {l : List Hd} {x y : Hd} (h : ∃ z ∈ l, J9e x z) : layG J9e (l ++ [y]) x = layG J9e l x ++ [y] := by
 induction l with
 | nil => obtain ⟨z, hz, _⟩ := h; cases hz
 | cons a l ih =>
  show layG J9e (a :: (l ++ [y])) x = _
  unfold layG
  by_cases q : J9e x a
  ·rw [if_pos q, if_pos q]; rfl
  ·rw [if_neg q, if_neg q, ih]
   ·rfl
   ·obtain ⟨z, hz, hz2⟩ := h
    rcases List.mem_cons.1 hz with rfl | hz
    ·exact absurd hz2 q
    ·exact ⟨z, hz, hz2⟩
open Classical in
theorem zND {l : List Hd} {x : Hd} {i : Nat} (hi : i < l.length) :
  ((∃ y ∈ l.take (i + 1), J9e x y) ↔ (∃ y ∈ l.take i, J9e x y) ∨ J9e x (l.getD i Qv2.d)) ∧
  Xvg l x (i + 1) = Xvg l x i ++ (if (∃ y ∈ l.take i, J9e x y) ∨ ¬ J9e x (l.getD i Qv2.d) then [l.getD i Qv2.d] else [x, l.getD i Qv2.d]) := by
 have et : l.take (i + 1) = l.take i ++ [l.getD i Qv2.d] := by rw [List.take_succ_eq_append_getElem hi, List.getD_eq_getElem?_getD, List.getElem?_eq_getElem hi]; rfl
 have h1 : (∃ y ∈ l.take (i + 1), J9e x y) ↔ (∃ y ∈ l.take i, J9e x y) ∨ J9e x (l.getD i Qv2.d) := by
  rw [et]
  constructor
  ·rintro ⟨y, hy, q⟩
   rcases List.mem_append.1 hy with z | z
   ·exact .inl ⟨y, z, q⟩
   ·rw [List.mem_singleton.1 z] at q
    exact .inr q
  ·rintro (⟨y, hy, q⟩ | q)
   ·exact ⟨y, List.mem_append.2 (.inl hy), q⟩
   ·exact ⟨_, List.mem_append.2 (.inr (.head _)), q⟩
 refine ⟨h1, ?_⟩
 unfold Xvg
 by_cases p : ∃ y ∈ l.take i, J9e x y
 ·rw [if_pos (h1.2 (.inl p)), if_pos p, if_pos (.inl p), et, KU6 p]
 ·by_cases q : J9e x (l.getD i Qv2.d)
  ·rw [if_pos (h1.2 (.inr q)), if_neg p, if_neg (fun z => z.elim p (fun z => z q)), et]
   clear h1 et
   generalize l.take i = m at *
   generalize l.getD i Qv2.d = y at *
   induction m with
   | nil => show layG J9e [y] x = [x, y]; unfold layG; rw [if_pos q]
   | cons a m ih =>
    show layG J9e (a :: (m ++ [y])) x = _
    unfold layG
    rw [if_neg fun z => p ⟨a, .head _, z⟩, ih fun ⟨z, hz, hz2⟩ => p ⟨z, .tail _ hz, hz2⟩]
    rfl
  ·rw [if_neg (fun z => (h1.1 z).elim p q), if_neg p, if_pos (.inr q), et]
theorem Q4T (l : List Hd) (x : Hd) : layG J9e l x = if ∃ y ∈ l.take l.length, J9e x y then Xvg l x l.length else Xvg l x l.length ++ [x] := by
 unfold Xvg
 split
 ·rw [List.take_length]
 ·rename_i h
  rw [List.take_length] at h ⊢
  exact Z5i h
end Go.Proofs.YtcncpbcbedfakaaGreat
end
section
namespace Go.Proofs.YtcncpbcbedfakaaGreat
set_option maxRecDepth 100000
set_option maxHeartbeats 4000000
open Classical in
noncomputable def getH (a : AV) : Option Hd := if e : ∃ y, a = .ag (Qv2.f y) then some e.choose else none
theorem XMh (y : Hd) : getH (.ag (Qv2.f y)) = some y := by
 have e : ∃ z, AV.ag (Qv2.f y) = .ag (Qv2.f z) := ⟨y, rfl⟩
 unfold getH
 rw [dif_pos e]
 have h := e.choose_spec
 rw [AV.ag.injEq] at h
 rw [← Qv2.inj _ _ h]
theorem zZj {β : Type} {a : AV} {f : Hd → Option β} {b : β} (e : (getH a).bind f = some b) : ∃ y, a = .ag (Qv2.f y) ∧ f y = some b := by
 unfold getH at e
 split at e
 ·rename_i h
  exact ⟨h.choose, h.choose_spec, e⟩
 ·cases e
section
variable {α : Type} {r : Row α}
theorem KRV (id : Nat) (l : List α) (x y : α) : apS r id (l ++ [x, y]) = .sl id 0 (l.length + 2) (l.length + 2) (some r.sz) := by
 unfold apS
 rw [if_neg (by simp), List.length_append]
 rfl
theorem Kts (m : Bool) (l : List α) (x y : α) : resB r m (l ++ [x, y]) = .blk true m (r.cells l ++ (r.f x ++ r.f y)) := by
 unfold resB
 rw [if_neg (by simp)]
 simp [Row.cells]
theorem qlj (id : Nat) (x y : α) : apS r id [x, y] = .sl id 0 2 2 (some r.sz) := _root_.id rfl
theorem XX3 (m : Bool) (x y : α) : resB r m [x, y] = .blk true m (r.f x ++ r.f y) := by
 unfold resB
 rw [if_neg (by simp)]
 simp [Row.cells]
theorem K3e (id : Nat) (l : List α) (x : α) : rsl r id (l ++ [x]) = .sl id 0 (l.length + 1) (l.length + 1) (some r.sz) := by
 unfold rsl
 rw [if_neg (by simp), List.length_append]
 rfl
theorem ZMs (id : Nat) (x : α) : rsl r id [x] = .sl id 0 1 1 (some r.sz) := _root_.id rfl
end
open Classical in
noncomputable def J07 (l : List Hd) (x : Hd) (i : Nat) : Bool := decide (∃ z ∈ l.take i, J9e x z)
theorem QyP {l : List Hd} {x : Hd} {i : Nat} (h : ∃ z ∈ l.take i, J9e x z) : J07 l x i = true := decide_eq_true h
theorem Qtl {l : List Hd} {x : Hd} {i : Nat} (h : ¬ ∃ z ∈ l.take i, J9e x z) : J07 l x i = false := decide_eq_false h
noncomputable def ZWx : List AV → List AB → Option (AV × List AB)
 | [l, x], h => (getS Qv2 h l).bind fun hs => (getH x).bind fun y => if hs.length ≤ 1000000 then some (rsl Qv2 h.length (layG J9e hs y), h ++ [resB Qv2 true (layG J9e hs y)]) else none
 | _, _ => none
theorem ZtO : Spec Tryz.prog 53 ZWx := by
 intro args h v h' e
 unfold ZWx at e
 split at e
 ·rename_i l x
  obtain ⟨hs, hl, e⟩ := Ksw e
  obtain ⟨y, hx, e2⟩ := zZj e
  clear e
  subst hx
  split at e2
  ·rename_i hL
   cases e2
   refine FnAt.c (FnAt.frz fun hz => ?_)
   rw [show h.length = (h.map AB.freeze).length from (List.length_map _).symm]
   replace hl := hl.frz
   generalize h.map AB.freeze = h at *
   refine FnAt.run (by kernel_rfl) (T := ⟨[⟨73, zGl, fun _ => []⟩], []⟩) ⟨⟨Kk2, trivial⟩, trivial⟩ Tryz.func53 sw53 fun ho hh => ?_
   simp only [Xto, J9P, Bool.and_eq_true] at ho
   have f1 := hl.fx ho.1 (sz := 34) rfl
   have f4 := QfD hl
   have fo : ∀ c, l.ok (fun i => decide (i < h.length + c)) = true := fun c => AV.ok_mono (fun i q => by simp only [decide_eq_true_eq] at q ⊢; omega) l ho.1
   have fr : ∀ sel, Wk (l.ren (selN h.length sel)) l := fun sel => Wk.ren (fun i hi => q8q hi) ho.1
   have f5 : ∀ (x : List AB), ldV (h ++ (.blk true true (Qv2.f y) :: x)) (some 2) (.p (h.length + 0) 0) = some (.ag [.i .i64 y.1.1, .i .i64 y.1.2]) := fun x => by
    rw [XJE, ZpB]
    simp only [Option.bind_some, zso, Nat.zero_add]
    rw [if_pos (by decide), YRz, X5J]
   unfold w53
   simp only [X7f, KtR, YUa, YOR, XuN, simprocAttr, CO.tmps, Opd.tmps, optT, Nat.reducePow, Nat.reduceDiv, Nat.reduceMod, f1, zqp, zso]
   refine QZo (S := Nat) (fun i => hs.length - i) (fun i => [l] ++ tp 2 ++ [.p (h.length + 0) 0] ++ tp 1 ++ [apS Qv2 (h.length + 1) (Xvg hs y i), .b (J07 hs y i), .i .i64 i] ++ tp 36) (fun i => h ++ [.blk true true (Qv2.f y), resB Qv2 true (Xvg hs y i)]) (fun i => i ≤ hs.length) 0 (Nat.zero_le _) ?_ fun i hi => ?_
   ·have z0 : Xvg hs y 0 = [] := by unfold Xvg; rw [if_neg (by simp)]; rfl
    have z1 : J07 hs y 0 = false := Qtl (by simp)
    show Bt _ _ _ _ _ (h ++ [.blk true true (Qv2.f y), resB Qv2 true (Xvg hs y 0)])
    rw [z0, z1]
    show Bt _ _ _ _ _ (h ++ ([.blk true true (Qv2.f y)] ++ List.replicate 1 .dead))
    rw [← List.append_assoc]
    refine Bt.trans (Bt.wk ?_) (Bt.pad _ _ 1)
    simp only [qY6, YUa, XuN, simprocAttr]
   ·have ln : (Xvg hs y i).length ≤ i + 1 := by
     unfold Xvg
     split
     ·rw [zKT, List.length_take]; omega
     ·rw [List.length_take]; omega
    by_cases g1 : i < hs.length
    ·have g1' := eq_true g1
     have e1 : IntKind.i64.wrap ((i : Int) + 1) = ((i + 1 : Nat) : Int) := ZPn (by unfold In64; omega)
     obtain ⟨hs1, hs2⟩ := zND (x := y) g1
     by_cases p : ∃ z ∈ hs.take i, J9e y z
     ·have p' := QyP p
      have pt := QyP (hs1.2 (.inl p))
      rw [if_pos (.inl p)] at hs2
      have hlB : (Xvg hs y i).length ≠ 0 := by
       unfold Xvg
       rw [if_pos p, zKT]
       omega
      have gr : ∀ id, apS Qv2 id (Xvg hs y i) = rsl Qv2 id (Xvg hs y i) := fun id => ZtQ _ hlB
      have fa := fun L k ys hb => z4x (h := h) (p := h.length) rfl (r := Qv2) (sz := 34) rfl L k (Xvg hs y i) 48 1 ys hlB hb (by decide) (by omega) (by unfold maxLen; omega)
      simp only [gr, p', YUa, YOR, XuN, simprocAttr, CO.tmps, Opd.tmps, optT, Nat.reducePow, Nat.reduceDiv, Nat.reduceMod, f1, f4, f5, g1', zGl, e1, fa, zqp, zso, Zcp, qdw, List.length_cons, List.length_nil, zN5 hh, X9l hz, Zf1 hz, QwP hz]
      refine ⟨i + 1, g1, by dsimp only; omega, ?_⟩
      dsimp only
      rw [hs2, pt]
      simp only [zfM, XJF]
      exact Bt.sel [0, 3] hh (by decide) (by simp only [qpr, FrSel, BlkSel, AV.ren, renL, AV.ok, okL, Option.some.injEq, exists_eq_left', List.length_cons, List.length_nil, Nat.reduceAdd, Nat.reduceLT, reduceCtorEq, implies_true, exists_eq', fo, fr]) (by simp only [qpr, FrSel, BlkSel, AV.ren, renL, AV.ok, okL, Option.some.injEq, exists_eq_left', List.length_cons, List.length_nil, Nat.reduceAdd, Nat.reduceLT, reduceCtorEq, implies_true, exists_eq', fo, fr, J7X])
     ·have p' := Qtl p
      have z3 : (1 * 48 ≤ 140737488355328 ∧ 1 ≤ maxLen) = True := eq_true ⟨by decide, by unfold maxLen; omega⟩
      by_cases q : J9e y (hs.getD i Qv2.d)
      ·have q' : X1k (y.1.1, y.1.2) ((hs.getD i Qv2.d).1.1, (hs.getD i Qv2.d).1.2) = True := eq_true q
       have pt := QyP (hs1.2 (.inr q))
       rw [if_neg (fun z => z.elim p (fun z => z q))] at hs2
       by_cases hB : Xvg hs y i = []
       ·rw [hB, List.nil_append] at hs2
        have fa2 := fun L k ys hb hx => Ywh (h := h) L k 1 34 48 1 ys hb hx (by decide) (by decide) (by decide) (by unfold maxLen; omega)
        simp only [hB, p', q', qY6, YUa, YOR, XuN, simprocAttr, CO.tmps, Opd.tmps, optT, Nat.reducePow, Nat.reduceDiv, Nat.reduceMod, z3, fa2, qLV, zn9, Zfd, ZBB, f1, f4, f5, g1', zGl, e1, zqp, zso, Zcp, qdw, List.length_cons, List.length_nil, zN5 hh, X9l hz, Zf1 hz, QwP hz]
        refine ⟨i + 1, g1, by dsimp only; omega, ?_⟩
        dsimp only
        rw [hs2, pt]
        simp only [qlj, XX3, List.append_assoc]
        exact Bt.sel [0, 5] hh (by decide) (by simp only [qpr, FrSel, BlkSel, AV.ren, renL, AV.ok, okL, Option.some.injEq, exists_eq_left', List.length_cons, List.length_nil, Nat.reduceAdd, Nat.reduceLT, reduceCtorEq, implies_true, exists_eq', fo, fr]) (by simp only [qpr, FrSel, BlkSel, AV.ren, renL, AV.ok, okL, Option.some.injEq, exists_eq_left', List.length_cons, List.length_nil, Nat.reduceAdd, Nat.reduceLT, reduceCtorEq, implies_true, exists_eq', fo, fr, J7X])
       ·have hlB : (Xvg hs y i).length ≠ 0 := fun z => hB (List.eq_nil_of_length_eq_zero z)
        have gr : ∀ id, apS Qv2 id (Xvg hs y i) = rsl Qv2 id (Xvg hs y i) := fun id => ZtQ _ hlB
        have fa := fun L k ys hb => z4x (h := h) (p := h.length) rfl (r := Qv2) (sz := 34) rfl L k (Xvg hs y i) 48 1 ys hlB hb (by decide) (by omega) (by unfold maxLen; omega)
        have fa2 := fun L k ys hb hx => Ywh (h := h) L k ((Xvg hs y i).length + 1) 34 48 1 ys hb hx (by decide) (by decide) (by omega) (by unfold maxLen; omega)
        have k8 : (Qv2.cells (Xvg hs y i)).length = (Xvg hs y i).length * 34 := Qv2.cells_len _
        have k9 : ((Xvg hs y i).length * 34 + 34 = ((Xvg hs y i).length + 1) * 34) = True := eq_true (by omega)
        simp only [gr, p', q', YUa, YOR, XuN, simprocAttr, CO.tmps, Opd.tmps, optT, Nat.reducePow, Nat.reduceDiv, Nat.reduceMod, fa, fa2, k8, k9, List.length_append, qLV, zn9, Zfd, ZBB, f1, f4, f5, g1', zGl, e1, zqp, zso, Zcp, qdw, List.length_cons, List.length_nil, zN5 hh, X9l hz, Zf1 hz, QwP hz]
        refine ⟨i + 1, g1, by dsimp only; omega, ?_⟩
        dsimp only
        rw [hs2, pt]
        simp only [KRV, Kts, List.append_assoc]
        exact Bt.sel [0, 5] hh (by decide) (by simp only [qpr, FrSel, BlkSel, AV.ren, renL, AV.ok, okL, Option.some.injEq, exists_eq_left', List.length_cons, List.length_nil, Nat.reduceAdd, Nat.reduceLT, reduceCtorEq, implies_true, exists_eq', fo, fr]) (by simp only [qpr, FrSel, BlkSel, AV.ren, renL, AV.ok, okL, Option.some.injEq, exists_eq_left', List.length_cons, List.length_nil, Nat.reduceAdd, Nat.reduceLT, reduceCtorEq, implies_true, exists_eq', fo, fr, J7X])
      ·have q' : X1k (y.1.1, y.1.2) ((hs.getD i Qv2.d).1.1, (hs.getD i Qv2.d).1.2) = False := eq_false q
       have pt := Qtl (fun z => (hs1.1 z).elim p q)
       rw [if_pos (.inr q)] at hs2
       by_cases hB : Xvg hs y i = []
       ·rw [hB, List.nil_append] at hs2
        simp only [hB, p', q', qY6, YUa, YOR, XuN, simprocAttr, CO.tmps, Opd.tmps, optT, Nat.reducePow, Nat.reduceDiv, Nat.reduceMod, z3, f1, f4, f5, g1', zGl, e1, zqp, zso, Zcp, qdw, List.length_cons, List.length_nil, zN5 hh, X9l hz, Zf1 hz, QwP hz]
        refine ⟨i + 1, g1, by dsimp only; omega, ?_⟩
        dsimp only
        rw [hs2, pt]
        simp only [QT8, zHP]
        exact Bt.sel [0, 3] hh (by decide) (by simp only [qpr, FrSel, BlkSel, AV.ren, renL, AV.ok, okL, Option.some.injEq, exists_eq_left', List.length_cons, List.length_nil, Nat.reduceAdd, Nat.reduceLT, reduceCtorEq, implies_true, exists_eq', fo, fr]) (by simp only [qpr, FrSel, BlkSel, AV.ren, renL, AV.ok, okL, Option.some.injEq, exists_eq_left', List.length_cons, List.length_nil, Nat.reduceAdd, Nat.reduceLT, reduceCtorEq, implies_true, exists_eq', fo, fr, J7X])
       ·have hlB : (Xvg hs y i).length ≠ 0 := fun z => hB (List.eq_nil_of_length_eq_zero z)
        have gr : ∀ id, apS Qv2 id (Xvg hs y i) = rsl Qv2 id (Xvg hs y i) := fun id => ZtQ _ hlB
        have fa := fun L k ys hb => z4x (h := h) (p := h.length) rfl (r := Qv2) (sz := 34) rfl L k (Xvg hs y i) 48 1 ys hlB hb (by decide) (by omega) (by unfold maxLen; omega)
        simp only [gr, p', q', YUa, YOR, XuN, simprocAttr, CO.tmps, Opd.tmps, optT, Nat.reducePow, Nat.reduceDiv, Nat.reduceMod, fa, f1, f4, f5, g1', zGl, e1, zqp, zso, Zcp, qdw, List.length_cons, List.length_nil, zN5 hh, X9l hz, Zf1 hz, QwP hz]
        refine ⟨i + 1, g1, by dsimp only; omega, ?_⟩
        dsimp only
        rw [hs2, pt]
        simp only [zfM, XJF]
        exact Bt.sel [0, 3] hh (by decide) (by simp only [qpr, FrSel, BlkSel, AV.ren, renL, AV.ok, okL, Option.some.injEq, exists_eq_left', List.length_cons, List.length_nil, Nat.reduceAdd, Nat.reduceLT, reduceCtorEq, implies_true, exists_eq', fo, fr]) (by simp only [qpr, FrSel, BlkSel, AV.ren, renL, AV.ok, okL, Option.some.injEq, exists_eq_left', List.length_cons, List.length_nil, Nat.reduceAdd, Nat.reduceLT, reduceCtorEq, implies_true, exists_eq', fo, fr, J7X])
    ·obtain rfl : i = hs.length := by omega
     have g1' := eq_false g1
     have he := Q4T hs y
     by_cases p : ∃ z ∈ hs.take hs.length, J9e y z
     ·have p' := QyP p
      rw [if_pos p] at he
      rw [he]
      simp only [p', YUa, YOR, XuN, simprocAttr, CO.tmps, Opd.tmps, optT, Nat.reducePow, Nat.reduceDiv, Nat.reduceMod, f1, g1']
      refine Bt.trans (Bt.wk1 (qEA _ _)) ?_
      exact Bt.sel [1] hh (by decide) (by simp only [qpr, FrSel, BlkSel, AV.ren, renL, AV.ok, okL, Option.some.injEq, exists_eq_left', List.length_cons, List.length_nil, Nat.reduceAdd, Nat.reduceLT, reduceCtorEq, implies_true, exists_eq']) (by simp only [qpr, FrSel, BlkSel, AV.ren, renL, AV.ok, okL, Option.some.injEq, exists_eq_left', List.length_cons, List.length_nil, Nat.reduceAdd, Nat.reduceLT, reduceCtorEq, implies_true, exists_eq'])
     ·have p' := Qtl p
      rw [if_neg p] at he
      rw [he]
      have z3 : (1 * 48 ≤ 140737488355328 ∧ 1 ≤ maxLen) = True := eq_true ⟨by decide, by unfold maxLen; omega⟩
      by_cases hB : Xvg hs y hs.length = []
      ·simp only [hB, p', qY6, YUa, YOR, XuN, simprocAttr, CO.tmps, Opd.tmps, optT, Nat.reducePow, Nat.reduceDiv, Nat.reduceMod, f1, g1', z3, zqp, zso, Zcp, qdw, List.length_cons, List.length_nil]
       rw [ZMs, zHP]
       exact Bt.sel [3] hh (by decide) (by simp only [qpr, FrSel, BlkSel, AV.ren, renL, AV.ok, okL, Option.some.injEq, exists_eq_left', List.length_cons, List.length_nil, Nat.reduceAdd, Nat.reduceLT, reduceCtorEq, implies_true, exists_eq']) (by simp only [qpr, FrSel, BlkSel, AV.ren, renL, AV.ok, okL, Option.some.injEq, exists_eq_left', List.length_cons, List.length_nil, Nat.reduceAdd, Nat.reduceLT, reduceCtorEq, implies_true, exists_eq', J7X])
      ·have hlB : (Xvg hs y hs.length).length ≠ 0 := fun z => hB (List.eq_nil_of_length_eq_zero z)
       have gr : ∀ id, apS Qv2 id (Xvg hs y hs.length) = rsl Qv2 id (Xvg hs y hs.length) := fun id => ZtQ _ hlB
       have fa := fun L k ys hb => z4x (h := h) (p := h.length) rfl (r := Qv2) (sz := 34) rfl L k (Xvg hs y hs.length) 48 1 ys hlB hb (by decide) (by omega) (by unfold maxLen; omega)
       simp only [gr, p', YUa, YOR, XuN, simprocAttr, CO.tmps, Opd.tmps, optT, Nat.reducePow, Nat.reduceDiv, Nat.reduceMod, f1, g1', fa, zqp, zso, Zcp, qdw, List.length_cons, List.length_nil]
       rw [K3e, XJF]
       exact Bt.sel [3] hh (by decide) (by simp only [qpr, FrSel, BlkSel, AV.ren, renL, AV.ok, okL, Option.some.injEq, exists_eq_left', List.length_cons, List.length_nil, Nat.reduceAdd, Nat.reduceLT, reduceCtorEq, implies_true, exists_eq']) (by simp only [qpr, FrSel, BlkSel, AV.ren, renL, AV.ok, okL, Option.some.injEq, exists_eq_left', List.length_cons, List.length_nil, Nat.reduceAdd, Nat.reduceLT, reduceCtorEq, implies_true, exists_eq', J7X])
  ·cases e2
 ·cases e
end Go.Proofs.YtcncpbcbedfakaaGreat
end
section
namespace Go.Proofs.YtcncpbcbedfakaaGreat
set_option maxRecDepth 100000
set_option maxHeartbeats 4000000
theorem ZgX {l : List Hd} {v : List Int} {ds : Dots} (h : KwI l v ds = 0) : Zmz v ds = 0 ∧ qsy v ds l l.length := by
 unfold KwI at h
 split at h
 ·rename_i c; exact absurd h c
 ·rename_i c
  split at h
  ·rename_i q; exact ⟨Decidable.not_not.1 c, q⟩
  ·cases h
noncomputable def qHa : List AV → List AB → Option (AV × List AB)
 | [.ag [l, s, t], .ag [s', t']], h => (getS Qv2 h l).bind fun hs => (getS intR h s).bind fun v => (getS dotR h t).bind fun ds => (getS intR h s').bind fun v' => (getS dotR h t').bind fun ds' =>
   if hs.length ≤ 1000000 then
    if KwI hs v ds ≠ 0 then some (.tu [.ag [.ns, .ns, .ns], .i .i64 (KwI hs v ds)], h)
    else if Zmz v' ds' ≠ 0 then some (.tu [.ag [.ns, .ns, .ns], .i .i64 (Zmz v' ds')], h)
    else if (fmO (K3Q v v' 16) (ds ++ ds')).2.length ≤ 4096 then some (.tu [.ag [rsl Qv2 h.length (outL v' ds' hs), .sl (h.length + 1) 0 (topI (fmR (K3Q v v' 16) (layR (ds ++ ds'))).1 16) 16 none, rsl dotR (h.length + 2) (fmR (K3Q v v' 16) (layR (ds ++ ds'))).2], .i .i64 0], h ++ [resB Qv2 true (outL v' ds' hs), .blk true true (intR.cells (fmR (K3Q v v' 16) (layR (ds ++ ds'))).1), resB dotR true (fmR (K3Q v v' 16) (layR (ds ++ ds'))).2])
    else some (.tu [.ag [.ns, .ns, .ns], .i .i64 10], h)
   else none
 | _, _ => none
theorem Xa7 {h : List AB} (hz : h.map AB.freeze = h) {l s t s' t' : AV} {hs : List Hd} {xs xs' : List Int} {ds ds' : Dots} (hl : Rd Qv2 h l hs) (hv : Rd intR h s xs) (hd : Rd dotR h t ds) (hv' : Rd intR h s' xs') (hd' : Rd dotR h t' ds') (hL : hs.length ≤ 1000000) (v : AV) (h' : List AB) (e : qHa [.ag [l, s, t], .ag [s', t']] h = some (v, h')) :
  FnAt Tryz.prog 21 [.ag [l, s, t], .ag [s', t']] h v h' := by
 simp only [qHa, hl.get, hv.get, hd.get, hv'.get, hd'.get, Option.bind_some] at e
 rw [if_pos hL] at e
 refine FnAt.run (by kernel_rfl) (T := ⟨[⟨28, Q1i, fun _ => []⟩, ⟨61, Ype, fun _ => []⟩, ⟨54, ZWR, fun _ => []⟩, ⟨64, zJ7, fun _ => []⟩], []⟩) ⟨⟨ZYN, zLB, JMp, J97, trivial⟩, trivial⟩ Tryz.func21 sw21 fun ho hh => ?_
 simp only [Xto, J9P, Bool.and_eq_true] at ho
 have f1 := hl.fx ho.1.1 (sz := 34) rfl
 have f2 := hv.fx ho.1.2.1 (sz := 1) rfl
 have f3 := hd.fx ho.1.2.2.1 (sz := 2) rfl
 have f4 := hv'.fx ho.2.1.1 (sz := 1) rfl
 have f5 := hd'.fx ho.2.1.2.1 (sz := 2) rfl
 unfold w21
 by_cases c0 : KwI hs xs ds = 0
 case neg =>
  rw [if_pos c0] at e
  cases e
  have c0' := eq_false c0
  simp only [X7f, KtR, YUa, YOR, XuN, simprocAttr, CO.tmps, Opd.tmps, optT, Nat.reducePow, Nat.reduceDiv, Nat.reduceMod, f1, f2, f3, f4, f5, Q1i, Ype, c0', not_false_eq_true, decide_true, zN5 hh, X9l hz, Zf1 hz, QwP hz]
  exact Bt.drop _ hh rfl (by simp only [zEu, Xto, XSf, J9P, JoB, ok_i, Bool.and_true])
 rw [if_neg (not_not_intro c0)] at e
 by_cases c1 : Zmz xs' ds' = 0
 case neg =>
  rw [if_pos c1] at e
  cases e
  have c1' := eq_false c1
  simp only [X7f, KtR, YUa, YOR, XuN, simprocAttr, CO.tmps, Opd.tmps, optT, Nat.reducePow, Nat.reduceDiv, Nat.reduceMod, f1, f2, f3, f4, f5, Q1i, Ype, c0, c1', not_false_eq_true, decide_true, zN5 hh, X9l hz, Zf1 hz, QwP hz]
  exact Bt.drop _ hh rfl (by simp only [zEu, Xto, XSf, J9P, JoB, ok_i, Bool.and_true])
 rw [if_neg (not_not_intro c1)] at e
 have c2 := (ZgX c0).1
 have hL' := eq_true hL
 by_cases g : (fmO (K3Q xs xs' 16) (ds ++ ds')).2.length ≤ 4096
 ·rw [if_pos g] at e
  cases e
  have g' := eq_true g
  simp only [X7f, KtR, YUa, YOR, XuN, simprocAttr, CO.tmps, Opd.tmps, optT, Nat.reducePow, Nat.reduceDiv, Nat.reduceMod, f1, f2, f3, f4, f5, Q1i, Ype, ZWR, zJ7, c0, c1, c2, g', hL', ne_eq, not_false_eq_true, decide_true, zN5 hh, X9l hz, Zf1 hz, QwP hz]
  exact Bt.sel [6, 3, 4] hh (by decide) (by simp only [qpr, FrSel, BlkSel, AV.ren, renL, AV.ok, okL, Option.some.injEq, exists_eq_left', List.length_cons, List.length_nil, Nat.reduceAdd, Nat.reduceLT, reduceCtorEq, implies_true, exists_eq']) (by simp only [qpr, FrSel, BlkSel, AV.ren, renL, AV.ok, okL, Option.some.injEq, exists_eq_left', List.length_cons, List.length_nil, Nat.reduceAdd, Nat.reduceLT, reduceCtorEq, implies_true, exists_eq'])
 ·rw [if_neg g] at e
  cases e
  have g' := eq_false g
  simp only [X7f, KtR, YUa, YOR, XuN, simprocAttr, CO.tmps, Opd.tmps, optT, Nat.reducePow, Nat.reduceDiv, Nat.reduceMod, f1, f2, f3, f4, f5, Q1i, Ype, ZWR, zJ7, c0, c1, c2, g', hL', ne_eq, not_false_eq_true, decide_true, zN5 hh, X9l hz, Zf1 hz, QwP hz]
  exact Bt.drop _ hh rfl (by simp only [zEu, Xto, XSf, J9P, JoB, ok_i, Bool.and_true])
theorem YlH : Spec Tryz.prog 21 qHa := by
 intro args h v h' e
 unfold qHa at e
 split at e
 ·rename_i l s t s' t'
  obtain ⟨hs, hl, e⟩ := Ksw e
  obtain ⟨xs, hv, e⟩ := Ksw e
  obtain ⟨ds, hd, e⟩ := Ksw e
  obtain ⟨xs', hv', e⟩ := Ksw e
  obtain ⟨ds', hd', e⟩ := Ksw e
  split at e
  ·rename_i hL
   split at e
   ·rename_i c
    cases e
    refine FnAt.c (FnAt.frz0 fun hz => Xa7 hz hl.frz hv.frz hd.frz hv'.frz hd'.frz hL _ _ ?_)
    simp only [qHa, hl.frz.get, hv.frz.get, hd.frz.get, hv'.frz.get, hd'.frz.get, Option.bind_some]
    rw [if_pos hL, if_pos c]
   ·rename_i c
    split at e
    ·rename_i c1
     cases e
     refine FnAt.c (FnAt.frz0 fun hz => Xa7 hz hl.frz hv.frz hd.frz hv'.frz hd'.frz hL _ _ ?_)
     simp only [qHa, hl.frz.get, hv.frz.get, hd.frz.get, hv'.frz.get, hd'.frz.get, Option.bind_some]
     rw [if_pos hL, if_neg c, if_pos c1]
    ·rename_i c1
     split at e
     ·rename_i g
      cases e
      refine FnAt.c (FnAt.frz fun hz => Xa7 hz hl.frz hv.frz hd.frz hv'.frz hd'.frz hL _ _ ?_)
      simp only [qHa, hl.frz.get, hv.frz.get, hd.frz.get, hv'.frz.get, hd'.frz.get, Option.bind_some, List.length_map]
      rw [if_pos hL, if_neg c, if_neg c1, if_pos g]
     ·rename_i g
      cases e
      refine FnAt.c (FnAt.frz0 fun hz => Xa7 hz hl.frz hv.frz hd.frz hv'.frz hd'.frz hL _ _ ?_)
      simp only [qHa, hl.frz.get, hv.frz.get, hd.frz.get, hv'.frz.get, hd'.frz.get, Option.bind_some]
      rw [if_pos hL, if_neg c, if_neg c1, if_neg g]
  ·cases e
 ·cases e
end Go.Proofs.YtcncpbcbedfakaaGreat
end
section
namespace Go.Proofs.YtcncpbcbedfakaaGreat
set_option maxRecDepth 100000
set_option maxHeartbeats 4000000
noncomputable def Jix : List AV → List AB → Option (AV × List AB)
 | [a], h => (getS intR h a).bind fun xs => if xs.length ≤ 1000000 then some (rsl intR h.length xs, h ++ [resB intR true xs]) else none
 | _, _ => none
theorem Zbm (h : List AB) (xs : List Int) (h0 : xs.length = 0) : FnC Tryz.prog 105 [.se] h (rsl intR h.length xs) (h ++ [resB intR true xs]) := by
 refine FnAt.c (FnAt.run (by kernel_rfl) (T := ⟨[], []⟩) ⟨trivial, trivial⟩ Tryz.func105 zmN fun ho hh => ?_)
 have fs : ∀ x : List AB, srcV (h ++ x) 1 .se = some (0, []) := fun _ => rfl
 unfold w105
 simp only [X7f, KtR, YUa, XuN, simprocAttr, fs]
 exact Bt.one 0 hh (fun _ => Wk.empty _ _ _ _ _ _) (by simp) (fun h => absurd h0 h)
theorem JSb (h : List AB) (xs : List Int) (h0 : xs.length = 0) : FnC Tryz.prog 105 [.ns] h (rsl intR h.length xs) (h ++ [resB intR true xs]) := by
 refine FnAt.c (FnAt.run (by kernel_rfl) (T := ⟨[], []⟩) ⟨trivial, trivial⟩ Tryz.func105 zmN fun ho hh => ?_)
 unfold w105
 simp only [X7f, KtR, YUa, XuN, simprocAttr]
 exact Bt.one0 h0 (Wk.nil _ _)
theorem YZE : Spec Tryz.prog 105 Jix := by
 intro args h v h' e
 unfold Jix at e
 split at e
 ·rename_i a
  obtain ⟨xs, ha, e⟩ := Ksw e
  split at e
  ·rename_i hl
   cases e
   by_cases hk : ∃ id off cap, a = .sl id off 0 cap (some 0)
   ·obtain ⟨id, off, cap, rfl⟩ := hk
    have h0 : xs.length = 0 := by have := ha.len; simp only [lenV, Option.some.injEq] at this; omega
    exact FnC.empty1 (JSb h xs h0) (Zbm h xs h0)
   have hs := ha.isSl
   have hlen := ha.len
   cases a <;> first | (cases hs; done) | skip
   ·rename_i id off len cap k
    have hq : YxC (.sl id off len cap k) .ns = some false := by
     rw [qcH, if_neg]
     rintro ⟨rfl, rfl⟩
     exact hk ⟨_, _, _, rfl⟩
    refine FnAt.c (FnAt.run (by kernel_rfl) (T := ⟨[], []⟩) ⟨trivial, trivial⟩ Tryz.func105 zmN fun ho hh => ?_)
    simp only [Xto, Bool.and_eq_true] at ho
    have fa := ha.fx ho.1 (sz := 1) rfl
    have fs := ha.src (sz := 1) rfl
    unfold w105
    by_cases h0 : xs.length = 0
    ·simp only [X7f, KtR, YUa, XuN, simprocAttr, fa, fs, h0, hq]
     exact Bt.one 0 hh (fun _ => Wk.empty _ _ _ _ _ _) (by simp) (fun h => absurd h0 h)
    ·simp only [X7f, KtR, YUa, XuN, simprocAttr, fa, fs, h0, hq]
     exact ⟨⟨by omega, by unfold maxLen; omega⟩, Bt.one 1 hh (fun h => absurd h h0) (by simp) (fun _ => ⟨rfl, rfl⟩)⟩
   ·exact Zbm h xs (by simp only [lenV, Option.some.injEq] at hlen; omega)
   ·exact JSb h xs (by simp only [lenV, Option.some.injEq] at hlen; omega)
  ·cases e
 ·cases e
noncomputable def KNN : List AV → List AB → Option (AV × List AB)
 | [a], h => (getS Qv2 h a).bind fun xs => if xs.length ≤ 1000000 then some (rsl Qv2 h.length xs, h ++ [resB Qv2 true xs]) else none
 | _, _ => none
theorem zYk (h : List AB) (xs : List Hd) (h0 : xs.length = 0) : FnC Tryz.prog 110 [.se] h (rsl Qv2 h.length xs) (h ++ [resB Qv2 true xs]) := by
 refine FnAt.c (FnAt.run (by kernel_rfl) (T := ⟨[], []⟩) ⟨trivial, trivial⟩ Tryz.func110 Y3n fun ho hh => ?_)
 have fs : ∀ x : List AB, srcV (h ++ x) 34 .se = some (0, []) := fun _ => rfl
 unfold w110
 simp only [X7f, KtR, YUa, XuN, simprocAttr, fs]
 exact Bt.one 0 hh (fun _ => Wk.empty _ _ _ _ _ _) (by simp) (fun h => absurd h0 h)
theorem zea (h : List AB) (xs : List Hd) (h0 : xs.length = 0) : FnC Tryz.prog 110 [.ns] h (rsl Qv2 h.length xs) (h ++ [resB Qv2 true xs]) := by
 refine FnAt.c (FnAt.run (by kernel_rfl) (T := ⟨[], []⟩) ⟨trivial, trivial⟩ Tryz.func110 Y3n fun ho hh => ?_)
 unfold w110
 simp only [X7f, KtR, YUa, XuN, simprocAttr]
 exact Bt.one0 h0 (Wk.nil _ _)
theorem zvK : Spec Tryz.prog 110 KNN := by
 intro args h v h' e
 unfold KNN at e
 split at e
 ·rename_i a
  obtain ⟨xs, ha, e⟩ := Ksw e
  split at e
  ·rename_i hl
   cases e
   by_cases hk : ∃ id off cap, a = .sl id off 0 cap (some 0)
   ·obtain ⟨id, off, cap, rfl⟩ := hk
    have h0 : xs.length = 0 := by have := ha.len; simp only [lenV, Option.some.injEq] at this; omega
    exact FnC.empty1 (zea h xs h0) (zYk h xs h0)
   have hs := ha.isSl
   have hlen := ha.len
   cases a <;> first | (cases hs; done) | skip
   ·rename_i id off len cap k
    have hq : YxC (.sl id off len cap k) .ns = some false := by
     rw [qcH, if_neg]
     rintro ⟨rfl, rfl⟩
     exact hk ⟨_, _, _, rfl⟩
    refine FnAt.c (FnAt.run (by kernel_rfl) (T := ⟨[], []⟩) ⟨trivial, trivial⟩ Tryz.func110 Y3n fun ho hh => ?_)
    simp only [Xto, Bool.and_eq_true] at ho
    have fa := ha.fx ho.1 (sz := 34) rfl
    have fs := ha.src (sz := 34) rfl
    unfold w110
    by_cases h0 : xs.length = 0
    ·simp only [X7f, KtR, YUa, XuN, simprocAttr, fa, fs, h0, hq, Yom]
     exact Bt.one 0 hh (fun _ => Wk.empty _ _ _ _ _ _) (by simp) (fun h => absurd h0 h)
    ·simp only [X7f, KtR, YUa, XuN, simprocAttr, fa, fs, h0, hq, Yom]
     exact ⟨⟨by omega, by unfold maxLen; omega⟩, Bt.one 1 hh (fun h => absurd h h0) (by simp) (fun _ => ⟨rfl, rfl⟩)⟩
   ·exact zYk h xs (by simp only [lenV, Option.some.injEq] at hlen; omega)
   ·exact zea h xs (by simp only [lenV, Option.some.injEq] at hlen; omega)
  ·cases e
 ·cases e
theorem zjb : Spec Tryz.prog 65 KAb := by
 intro args h v h' e
 unfold KAb at e
 split at e
 ·rename_i v d
  obtain ⟨xs, hv, e⟩ := Ksw e
  obtain ⟨ds, hd, e⟩ := Ksw e
  split at e
  ·rename_i hl
   cases e
   refine FnAt.c (FnAt.frz fun hz => ?_)
   rw [show h.length = (h.map AB.freeze).length from (List.length_map _).symm]
   replace hv := hv.frz
   replace hd := hd.frz
   generalize h.map AB.freeze = h at *
   refine FnAt.run (by kernel_rfl) (T := ⟨[⟨105, Jix, fun _ => []⟩, ⟨97, Q8o, fun _ => []⟩], []⟩) ⟨⟨YZE, XKy, trivial⟩, trivial⟩ Tryz.func65 sw65 fun ho hh => ?_
   simp only [Xto, J9P, Bool.and_eq_true] at ho
   have f1 := hv.fx ho.1.1 (sz := 1) rfl
   have f2 := hd.fx ho.1.2.1 (sz := 2) rfl
   unfold w65
   simp only [X7f, KtR, YUa, YOR, XuN, simprocAttr, CO.tmps, Opd.tmps, optT, Nat.reducePow, Nat.reduceDiv, Nat.reduceMod, f1, f2, Jix, Q8o, hl.1, hl.2, zN5 hh, X9l hz, Zf1 hz, QwP hz]
   exact Bt.sel [2, 3] hh (by decide) (by simp only [qpr, FrSel, BlkSel, AV.ren, renL, AV.ok, okL, Option.some.injEq, exists_eq_left', List.length_cons, List.length_nil, Nat.reduceAdd, Nat.reduceLT, reduceCtorEq, implies_true, exists_eq']) (by simp only [qpr, FrSel, BlkSel, AV.ren, renL, AV.ok, okL, Option.some.injEq, exists_eq_left', List.length_cons, List.length_nil, Nat.reduceAdd, Nat.reduceLT, reduceCtorEq, implies_true, exists_eq'])
  ·cases e
 ·cases e
end Go.Proofs.YtcncpbcbedfakaaGreat
end
