/- Part 17 of what the laws' proofs rest on. No condition. -/
import Derived.Test.YtcncpbcbedfakaaGreatRo16
set_option linter.all false
section
namespace Go.Proofs.YtcncpbcbedfakaaGreat
set_option maxRecDepth 100000
def Qd2 : List AV → List AB → Option (AV × List AB)
 | [.i .i64 a, .i .i64 b], h => some (.i .i64 (max a b), h)
 | _, _ => none
theorem YEA : Spec Tryz.prog 147 Qd2 := by
 intro args h v h' e
 unfold Qd2 at e
 split at e
 ·cases e
  refine FnAt.c (FnAt.run (by kernel_rfl) (T := ⟨[], []⟩) ⟨trivial, trivial⟩ Tryz.func147 qmB fun ho hh => ?_)
  unfold w147
  simp only [QhW, YqD, z18, Xq8, if_true, if_false, reduceIte, Nat.reduceAdd, Nat.reduceSub, Nat.reduceLeDiff, Nat.reduceEqDiff, Nat.reduceMul, Nat.reduceLT, Int.reduceLT, Int.reduceLE, Int.reduceEq]
  exact Bt.eq rfl (List.append_nil h)
 ·cases e
def Zdj : List AV → List AB → Option (AV × List AB)
 | [acc, .i .i64 a, .i .i64 b, .p i 0], h => match ZMj h i with
  | some [.f (.func 147) [] []] => appV (h ++ [.blk true true [.i .i64 (max a b)]]) true 1 8 acc (.sl (h.length + 0) 0 1 1 none)
  | _ => none
 | _, _ => none
theorem zD2 : Spec Tryz.prog 168 Zdj := by
 intro args h v h' e
 unfold Zdj at e
 split at e
 ·rename_i acc a b i
  split at e
  ·rename_i hb
   refine FnAt.c (FnAt.run (by kernel_rfl) (T := ⟨[⟨147, Qd2, fun _ => []⟩], []⟩) ⟨⟨YEA, trivial⟩, trivial⟩ Tryz.func168 Yl3 fun ho hh => ?_)
   have f1 := qbo hb
   simp only [z18, Xq8, if_true, if_false, reduceIte, Nat.reduceAdd, Nat.reduceSub, Nat.reduceLeDiff, Nat.reduceEqDiff, Nat.reduceMul, Nat.reduceLT, Int.reduceLT, Int.reduceLE, Int.reduceEq] at e
   unfold w168
   simp only [QhW, YqD, z18, Xq8, if_true, if_false, reduceIte, Nat.reduceAdd, Nat.reduceSub, Nat.reduceLeDiff, Nat.reduceEqDiff, Nat.reduceMul, Nat.reduceLT, Int.reduceLT, Int.reduceLE, Int.reduceEq, Qd2, f1, e]
   exact Bt.eq rfl rfl
  ·cases e
 ·cases e
def fA : CC := (CC.seq (CC.reg 2 [{ dst := some 7, guard := none, op := CO.mv (Opd.t 10) }]) (CC.reg 3 [{ dst := some 8, guard := none, op := CO.mv (Opd.t 11) }]))
def fB : CC := (CC.block 1 (CC.reg 4 [{ dst := some 12, guard := none, op := CO.ld none (Opd.t 5) }, { dst := some 13, guard := none, op := CO.ld none (Opd.t 4) }, { dst := some 14, guard := none, op := CO.mv (Opd.t 7) }, { dst := some 15, guard := none, op := CO.mv (Opd.t 8) }, { dst := some 16, guard := none, op := CO.call (Opd.t 12) [Opd.t 13, Opd.t 14, Opd.t 15] }, { dst := none, guard := none, op := CO.st none (Opd.t 4) (Opd.t 16) }]))
def Zik (p i1 i2 i0 : Nat) : List AV := [.f (.func 174) [] [.p i1 0, .p i2 0], .ns, .f (.func 168) [] [.p i0 0], .tu [], .p (p + 0) 0, .p (p + 1) 0, .ns, .tu [], .tu [], .f (.func 174) [] [.p i1 0, .p i2 0], .tu [], .tu [], .tu [], .tu [], .tu [], .tu [], .tu [], .tu []]
def Z9n (p i1 i2 i0 : Nat) (m : Bool) (acc : AV) (B : AB) : List AB := [.blk false true [acc], .blk false m [.f (.func 168) [] [.p i0 0]], .lp .ready .n (Zik p i1 i2 i0) [10, 11] fA fB, B]
theorem Q6A (h : List AB) (i1 i2 i0 : Nat) (m : Bool) (l : List Int) (a b : Int) (hb : ZMj h i0 = some [.f (.func 147) [] []]) (hl : l.length ≤ 1000000) :
  RdAt' Tryz.prog (h.length + 2) [.i .i64 a, .i .i64 b] (h ++ Z9n h.length i1 i2 i0 m (apS intR (h.length + 3) l) (resB intR true l)) (.b true)
   (h ++ (Z9n h.length i1 i2 i0 m (.sl (h.length + 5) 0 (l.length + 1) (l.length + 1) (some 1)) .dead ++ [.blk true true [.i .i64 (max a b)], .blk true true (intR.cells l ++ [.i .i64 (max a b)])])) := by
 have f1 := qbo hb
 have e1 := fun L hL => YEH (h := h) (r := intR) (sz := 1) rfl L 3 l 8 1 [.i .i64 (max a b)] hL (by decide) (by omega) (by unfold maxLen; omega)
 refine RdAt'.run (by kernel_rfl) (T := ⟨[⟨168, Zdj, fun _ => []⟩], []⟩) ⟨⟨zD2, trivial⟩, trivial⟩ (by rw [qu4]; rfl) rfl ?_
 simp only [Zik, ZuT, fA, Z9n, z18, Xq8, if_true, if_false, reduceIte, Nat.reduceAdd, Nat.reduceSub, Nat.reduceLeDiff, Nat.reduceEqDiff, Nat.reduceMul, Nat.reduceLT, Int.reduceLT, Int.reduceLE, Int.reduceEq]
 refine ⟨_, _, _, _, _, by rw [qu4]; rfl, ?_⟩
 simp only [fB, z18, Xq8, if_true, if_false, reduceIte, Nat.reduceAdd, Nat.reduceSub, Nat.reduceLeDiff, Nat.reduceEqDiff, Nat.reduceMul, Nat.reduceLT, Int.reduceLT, Int.reduceLE, Int.reduceEq, Zdj, f1, e1]
 exact ⟨_, _, _, _, _, _, by rw [qu4]; rfl, rfl, by unfold qZG; dsimp only; rw [Yig]; rfl⟩
def jn (xs ys : List Int) (i : Nat) : List Int := (List.range i).map fun k : Nat => max (vAt xs ((k + 1 : Nat) : Int)) (vAt ys ((k + 1 : Nat) : Int))
theorem YBu (xs ys : List Int) (i : Nat) : (jn xs ys i).length = i := by simp [jn]
theorem zU8 (xs ys : List Int) (i : Nat) : jn xs ys (i + 1) = jn xs ys i ++ [max (vAt xs ((i + 1 : Nat) : Int)) (vAt ys ((i + 1 : Nat) : Int))] := by
 simp [jn, List.range_succ]
def QPA (h : List AB) (i1 i2 i0 : Nat) (a b : Int) (m : Bool) (l : List Int) : List AB := h ++ (Z9n h.length i1 i2 i0 m (.sl (h.length + 5) 0 (l.length + 1) (l.length + 1) (some 1)) .dead ++ [.blk true true [.i .i64 (max a b)], .blk true true (intR.cells l ++ [.i .i64 (max a b)])])
def Kyf (h : List AB) (i1 i2 i0 : Nat) (a b : Int) (hh r : List AB) : Prop := ∃ m l, l.length ≤ 1000000 ∧ hh = h ++ Z9n h.length i1 i2 i0 m (apS intR (h.length + 3) l) (resB intR true l) ∧ r = QPA h i1 i2 i0 a b m l
open Classical in
noncomputable def Kv3 (h : List AB) (i1 i2 i0 : Nat) : List AV → List AB → Option (AV × List AB)
 | [.i .i64 a, .i .i64 b], hh => if c : ∃ r, Kyf h i1 i2 i0 a b hh r then some (.b true, c.choose) else none
 | _, _ => none
theorem Y42 (h : List AB) (i1 i2 i0 : Nat) (a b : Int) (m : Bool) (l : List Int) (hl : l.length ≤ 1000000) : Kv3 h i1 i2 i0 [.i .i64 a, .i .i64 b] (h ++ Z9n h.length i1 i2 i0 m (apS intR (h.length + 3) l) (resB intR true l)) = some (.b true, QPA h i1 i2 i0 a b m l) := by
 have hc : ∃ r, Kyf h i1 i2 i0 a b (h ++ Z9n h.length i1 i2 i0 m (apS intR (h.length + 3) l) (resB intR true l)) r := ⟨_, m, l, hl, rfl, rfl⟩
 obtain ⟨m', l', _, e, e5⟩ := hc.choose_spec
 replace e := List.append_cancel_left e
 simp only [Z9n, List.cons.injEq, AB.blk.injEq, and_true, true_and] at e
 obtain ⟨e1, e2, e3⟩ := e
 have e4 := Q7C e1 e3
 subst e2 e4
 simp only [Kv3]
 rw [dif_pos hc, e5]
theorem Jua (h : List AB) (i1 i2 i0 : Nat) (hb : ZMj h i0 = some [.f (.func 147) [] []]) : qBT Tryz.prog (h.length + 2) (Kv3 h i1 i2 i0) := by
 intro args hh v h' e
 unfold Kv3 at e
 split at e
 ·rename_i a b
  split at e
  ·rename_i hc
   cases e
   obtain ⟨m, l, h1, h2, h3⟩ := hc.choose_spec
   rw [h3, h2]
   exact Q6A h i1 i2 i0 m l a b hb h1
  ·cases e
 ·cases e
theorem YF1 (h : List AB) (hz : h.map AB.freeze = h) (hh : HOk h) (i1 i2 i0 : Nat) (sv sw : AV) (xs ys : List Int) (hb : ZMj h i0 = some [.f (.func 147) [] []]) (h1 : bxS h i1 = some sv) (h2 : bxS h i2 = some sw) (hx : Rd intR h sv xs) (hy : Rd intR h sw ys) (hl : xs.length ≤ 1000000 ∧ ys.length ≤ 1000000) :
  FnAt Tryz.prog 174 [.y (h.length + 2), .p i1 0, .p i2 0] (h ++ [.blk false true [.ns], .blk false true [.f (.func 168) [] [.p i0 0]], .lp .ready .n (Zik h.length i1 i2 i0) [10, 11] fA fB]) (.tu [])
   (h ++ Z9n h.length i1 i2 i0 true (apS intR (h.length + 3) (jn xs ys (max xs.length ys.length))) (resB intR true (jn xs ys (max xs.length ys.length)))) := by
 refine FnAt.run (by kernel_rfl) (T := ⟨[⟨77, T_At, fun _ => []⟩], [⟨h.length + 2, Kv3 h i1 i2 i0, fun _ => [h.length + 0, h.length + 2, h.length + 3]⟩]⟩) ⟨⟨QFU, trivial⟩, ⟨Jua h i1 i2 i0 hb, trivial⟩⟩ Tryz.func174 KO7 fun _ _ => ?_
 have f1 := qbo (Xei h1)
 have f2 := qbo (Xei h2)
 have f0 := qbo hb
 have f3 := hx.fx (YeM h1 hh) (sz := 1) rfl
 have f4 := hy.fx (YeM h2 hh) (sz := 1) rfl
 unfold w174
 simp only [QhW, YqD, z18, Xq8, if_true, if_false, reduceIte, Nat.reduceAdd, Nat.reduceSub, Nat.reduceLeDiff, Nat.reduceEqDiff, Nat.reduceMul, Nat.reduceLT, Int.reduceLT, Int.reduceLE, Int.reduceEq, f1, f2, f3, f4]
 refine q2X (S := Nat) (fun i => max xs.length ys.length - i) (fun i => [.y (h.length + 2), .p i1 0, .p i2 0] ++ tp 6 ++ [.i .i64 (max (xs.length : Int) ys.length), .i .i64 i] ++ tp 14) (fun i => h ++ Z9n h.length i1 i2 i0 true (apS intR (h.length + 3) (jn xs ys i)) (resB intR true (jn xs ys i))) (fun i => i ≤ max xs.length ys.length) 0 (Nat.zero_le _) ?_ fun i hi => ?_
 ·have e : h ++ Z9n h.length i1 i2 i0 true (apS intR (h.length + 3) (jn xs ys 0)) (resB intR true (jn xs ys 0)) = h ++ [.blk false true [.ns], .blk false true [.f (.func 168) [] [.p i0 0]], .lp .ready .n (Zik h.length i1 i2 i0) [10, 11] fA fB] ++ List.replicate 1 .dead := by
   rw [List.append_assoc]
   rfl
  rw [e]
  refine Bt.trans (Bt.wk ?_) (Bt.pad _ _ 1)
  simp only [z18, Xq8, if_true, if_false, reduceIte, Nat.reduceAdd, Nat.reduceSub, Nat.reduceLeDiff, Nat.reduceEqDiff, Nat.reduceMul, Nat.reduceLT, Int.reduceLT, Int.reduceLE, Int.reduceEq]
 ·simp only [Z9n, Zik, z18, Xq8, if_true, if_false, reduceIte, Nat.reduceAdd, Nat.reduceSub, Nat.reduceLeDiff, Nat.reduceEqDiff, Nat.reduceMul, Nat.reduceLT, Int.reduceLT, Int.reduceLE, Int.reduceEq, f1, f2, f3, f4]
  refine ⟨fun g1 => ?_, fun g1 => ?_⟩
  ·have e1 : IntKind.i64.wrap ((i : Int) + 1) = ((i + 1 : Nat) : Int) := ZWo (by unfold In64; omega)
   have e2 := fun a b m => Y42 h i1 i2 i0 a b m (jn xs ys i) (by rw [YBu]; omega)
   simp only [Z9n, Zik, QPA, zfn, Z1j] at e2
   simp only [z18, qdf, Xq8, if_true, if_false, reduceIte, Nat.reduceAdd, Nat.reduceSub, Nat.reduceLeDiff, Nat.reduceEqDiff, Nat.reduceMul, Nat.reduceLT, Int.reduceLT, Int.reduceLE, Int.reduceEq, CO.tmps, Opd.tmps, optT, Nat.reducePow, Nat.reduceDiv, Nat.reduceMod, f0, f1, f2, f3, f4, T_At, e1, e2, XUt hh, qDR hz]
   refine ⟨i + 1, by omega, by dsimp only; omega, ?_⟩
   have s1 : ∀ sel, selN h.length sel i1 = i1 := fun sel => ZiG (Kvw (Xei h1))
   have s2 : ∀ sel, selN h.length sel i2 = i2 := fun sel => ZiG (Kvw (Xei h2))
   have s0 : ∀ sel, selN h.length sel i0 = i0 := fun sel => ZiG (Kvw hb)
   have q1 : decide (i1 < h.length + 4) = true := decide_eq_true (by have := Kvw (Xei h1); omega)
   have q2 : decide (i2 < h.length + 4) = true := decide_eq_true (by have := Kvw (Xei h2); omega)
   have q0 : decide (i0 < h.length + 4) = true := decide_eq_true (by have := Kvw hb; omega)
   refine Bt.selL 3 [0, 1, 2, 5] hh (by decide) (by decide) (by decide) (by decide) ?_ ?_
   ·simp only [zU8, ZTM, YEn, YBu]
    simp only [KlE, FrSel, BlkSel, AV.ren, renL, AV.ok, okL, Option.some.injEq, exists_eq_left', List.length_cons, List.length_nil, Nat.reduceAdd, Nat.reduceLT, reduceCtorEq, implies_true, exists_eq', s0, s1, s2, q0, q1, q2]
   ·simp only [KlE, FrSel, BlkSel, AV.ren, renL, AV.ok, okL, Option.some.injEq, exists_eq_left', List.length_cons, List.length_nil, Nat.reduceAdd, Nat.reduceLT, reduceCtorEq, implies_true, exists_eq', s0, s1, s2, q0, q1, q2]
  ·have : i = max xs.length ys.length := by omega
   subst this
   exact Bt.refl _ _ _
def XU4 (xs ys : List Int) : List Int := jn xs ys (max xs.length ys.length)
noncomputable def XnQ : List AV → List AB → Option (AV × List AB)
 | [.f (.func 174) [] [.p i1 0, .p i2 0], .ns, .f (.func 168) [] [.p i0 0]], h => match ZMj h i0 with
  | some [.f (.func 147) [] []] => (bxS h i1).bind fun sv => (bxS h i2).bind fun sw => (getS intR h sv).bind fun xs => (getS intR h sw).bind fun ys =>
    if xs.length ≤ 1000000 ∧ ys.length ≤ 1000000 then some (rsl intR h.length (XU4 xs ys), h ++ [resB intR true (XU4 xs ys)]) else none
  | _ => none
 | _, _ => none
theorem z8X : Spec Tryz.prog 166 XnQ := by
 intro args h v h' e
 unfold XnQ at e
 split at e
 ·rename_i i1 i2 i0
  split at e
  ·rename_i hb
   obtain ⟨sv, h1, e⟩ := Option.bind_eq_some_iff.1 e
   obtain ⟨sw, h2, e⟩ := Option.bind_eq_some_iff.1 e
   obtain ⟨xs, hx, e⟩ := zZA e
   obtain ⟨ys, hy, e⟩ := zZA e
   split at e
   ·rename_i hl
    cases e
    refine FnAt.c (FnAt.frz fun hz => ?_)
    rw [show h.length = (h.map AB.freeze).length from (List.length_map _).symm]
    replace hx := hx.frz
    replace hy := hy.frz
    rw [← ZQt] at hb
    rw [← Y60] at h1 h2
    generalize h.map AB.freeze = h at *
    refine FnAt.run (by kernel_rfl) (T := ⟨[], []⟩) ⟨trivial, trivial⟩ Tryz.func166 Y5O fun ho hh => ?_
    unfold w166
    simp only [QhW, YqD, z18, Xq8, if_true, if_false, reduceIte, Nat.reduceAdd, Nat.reduceSub, Nat.reduceLeDiff, Nat.reduceEqDiff, Nat.reduceMul, Nat.reduceLT, Int.reduceLT, Int.reduceLE, Int.reduceEq]
    refine W_rf rfl (by simp only [z18, Xq8, if_true, if_false, reduceIte, Nat.reduceAdd, Nat.reduceSub, Nat.reduceLeDiff, Nat.reduceEqDiff, Nat.reduceMul, Nat.reduceLT, Int.reduceLT, Int.reduceLE, Int.reduceEq]) rfl (by simp only [z18, Xq8, if_true, if_false, reduceIte, Nat.reduceAdd, Nat.reduceSub, Nat.reduceLeDiff, Nat.reduceEqDiff, Nat.reduceMul, Nat.reduceLT, Int.reduceLT, Int.reduceLE, Int.reduceEq]; rfl) (YF1 h hz hh i1 i2 i0 sv sw xs ys hb h1 h2 hx hy hl) (by rw [qu4]; rfl) (by decide) ?_
    simp only [Z9n, Zik, z18, Xq8, if_true, if_false, reduceIte, Nat.reduceAdd, Nat.reduceSub, Nat.reduceLeDiff, Nat.reduceEqDiff, Nat.reduceMul, Nat.reduceLT, Int.reduceLT, Int.reduceLE, Int.reduceEq]
    exact Bt.oneA 3 hh rfl
   ·cases e
  ·cases e
 ·cases e
def QFq : List AV → List AB → Option (AV × List AB)
 | [a, b], h => if a.isSl = true ∧ b.isSl = true then some (.f (.func 174) [] [.p (h.length + 0) 0, .p (h.length + 1) 0], h ++ [.blk false true [a], .blk false true [b]]) else none
 | _, _ => none
theorem qPq : Spec Tryz.prog 167 QFq := by
 intro args h v h' e
 unfold QFq at e
 split at e
 ·rename_i a b
  split at e
  ·rename_i hs
   cases e
   refine FnAt.c (FnAt.run (by kernel_rfl) (T := ⟨[], []⟩) ⟨trivial, trivial⟩ Tryz.func167 ZDi fun ho hh => ?_)
   unfold w167
   simp only [QhW, YqD, z18, Xq8, if_true, if_false, reduceIte, Nat.reduceAdd, Nat.reduceSub, Nat.reduceLeDiff, Nat.reduceEqDiff, Nat.reduceMul, Nat.reduceLT, Int.reduceLT, Int.reduceLE, Int.reduceEq, Xm8 hs.1, Xm8 hs.2, Zl9 hs.1, Zl9 hs.2]
   exact Bt.eq rfl rfl
  ·cases e
 ·cases e
noncomputable def JFq : List AV → List AB → Option (AV × List AB)
 | [a, b], h => (getS intR h a).bind fun xs => (getS intR h b).bind fun ys => if xs.length ≤ 1000000 ∧ ys.length ≤ 1000000 then some (rsl intR h.length (XU4 xs ys), h ++ [resB intR true (XU4 xs ys)]) else none
 | _, _ => none
noncomputable def zFA : List AV → List AB → Option (AV × List AB)
 | [a, b, .f (.func 147) [] []], h => JFq [a, b] h
 | _, _ => none
theorem zs4 : Spec Tryz.prog 146 zFA := by
 intro args h v h' e
 unfold zFA at e
 split at e
 ·rename_i a b
  unfold JFq at e
  obtain ⟨xs, hx, e⟩ := zZA e
  obtain ⟨ys, hy, e⟩ := zZA e
  split at e
  ·rename_i hl
   cases e
   refine FnAt.c (FnAt.run (by kernel_rfl) (T := ⟨[⟨167, QFq, fun _ => []⟩, ⟨166, XnQ, fun _ => []⟩], []⟩) ⟨⟨qPq, z8X, trivial⟩, trivial⟩ Tryz.func146 XhP fun ho hh => ?_)
   simp only [XDC, Bool.and_eq_true] at ho
   have f1 := hx.fx ho.1 (sz := 1) rfl
   have f2 := hy.fx ho.2.1 (sz := 1) rfl
   unfold w146
   simp only [QhW, YqD, z18, Xq8, if_true, if_false, reduceIte, Nat.reduceAdd, Nat.reduceSub, Nat.reduceLeDiff, Nat.reduceEqDiff, Nat.reduceMul, Nat.reduceLT, Int.reduceLT, Int.reduceLE, Int.reduceEq, QFq, XnQ, f1, f2, hx.isSl, hy.isSl, hl]
   exact Bt.oneR 3 hh rfl
  ·cases e
 ·cases e
theorem K2z : Spec Tryz.prog 117 JFq := by
 intro args h v h' e
 unfold JFq at e
 split at e
 ·rename_i a b
  obtain ⟨xs, hx, e⟩ := zZA e
  obtain ⟨ys, hy, e⟩ := zZA e
  split at e
  ·rename_i hl
   cases e
   refine FnAt.c (FnAt.run (by kernel_rfl) (T := ⟨[⟨146, zFA, fun _ => []⟩], []⟩) ⟨⟨zs4, trivial⟩, trivial⟩ Tryz.func117 zsu fun ho hh => ?_)
   simp only [XDC, Bool.and_eq_true] at ho
   have f1 := hx.fx ho.1 (sz := 1) rfl
   have f2 := hy.fx ho.2.1 (sz := 1) rfl
   unfold w117
   simp only [QhW, YqD, z18, Xq8, if_true, if_false, reduceIte, Nat.reduceAdd, Nat.reduceSub, Nat.reduceLeDiff, Nat.reduceEqDiff, Nat.reduceMul, Nat.reduceLT, Int.reduceLT, Int.reduceLE, Int.reduceEq, zFA, JFq, f1, f2, hl]
   exact Bt.oneR 0 hh rfl
  ·cases e
 ·cases e
end Go.Proofs.YtcncpbcbedfakaaGreat
end
section
namespace Go.Proofs.YtcncpbcbedfakaaGreat
set_option maxRecDepth 100000
def qbb (xs : List Int) (d : Int × Int) : Prop := 1 ≤ d.1 ∧ 1 ≤ d.2 ∧ d.2 ≤ vAt xs d.1
instance (xs : List Int) (d : Int × Int) : Decidable (qbb xs d) := by unfold qbb; infer_instance
noncomputable def Qm3 : List AV → List AB → Option (AV × List AB)
 | [s, .ag [.i .i64 a, .i .i64 b]], h => (getS intR h s).bind fun xs => some (.b (decide (qbb xs (a, b))), h)
 | _, _ => none
theorem QEU : Spec Tryz.prog 113 Qm3 := by
 intro args h v h' e
 unfold Qm3 at e
 split at e
 ·rename_i s a b
  obtain ⟨xs, hx, e⟩ := zZA e
  cases e
  refine FnAt.c (FnAt.frz0 fun hz => ?_)
  replace hx := hx.frz
  generalize h.map AB.freeze = h at *
  refine FnAt.run (by kernel_rfl) (T := ⟨[⟨77, T_At, fun _ => []⟩], []⟩) ⟨⟨QFU, trivial⟩, trivial⟩ Tryz.func113 QAZ fun ho hh => ?_
  simp only [XDC, Bool.and_eq_true] at ho
  have f1 := hx.fx ho.1 (sz := 1) rfl
  unfold w113
  simp only [QhW, YqD, z18, qdf, Xq8, if_true, if_false, reduceIte, Nat.reduceAdd, Nat.reduceSub, Nat.reduceLeDiff, Nat.reduceEqDiff, Nat.reduceMul, Nat.reduceLT, Int.reduceLT, Int.reduceLE, Int.reduceEq, CO.tmps, Opd.tmps, optT, Nat.reducePow, Nat.reduceDiv, Nat.reduceMod, T_At, f1, XUt hh, qDR hz]
  refine ⟨fun h1 => ⟨fun h2 => ?_, fun h2 => ?_⟩, fun h1 => ?_⟩ <;> exact Bt.dropB _ hh (by simp [qbb, *])
 ·cases e
def QFM (xs : List Int) (d : Int × Int) : List Int :=
 if d.1 < 1 ∨ 16 < d.1 ∨ d.2 < 1 ∨ d.2 ≤ vAt xs d.1 then XU4 xs [] else XU4 xs ((List.replicate d.1.toNat 0).set (d.1 - 1).toNat d.2)
noncomputable def YjC : List AV → List AB → Option (AV × List AB)
 | [s, .ag [.i .i64 a, .i .i64 b]], h => (getS intR h s).bind fun xs => if xs.length ≤ 1000000 then some (rsl intR h.length (QFM xs (a, b)), h ++ [resB intR true (QFM xs (a, b))]) else none
 | _, _ => none
theorem qsG : Spec Tryz.prog 118 YjC := by
 intro args h v h' e
 unfold YjC at e
 split at e
 ·rename_i s a b
  obtain ⟨xs, hx, e⟩ := zZA e
  split at e
  ·rename_i hl
   cases e
   refine FnAt.c (FnAt.frz fun hz => ?_)
   rw [show h.length = (h.map AB.freeze).length from (List.length_map _).symm]
   replace hx := hx.frz
   generalize h.map AB.freeze = h at *
   refine FnAt.run (by kernel_rfl) (T := ⟨[⟨77, T_At, fun _ => []⟩, ⟨117, JFq, fun _ => []⟩], []⟩) ⟨⟨QFU, K2z, trivial⟩, trivial⟩ Tryz.func118 YZV fun ho hh => ?_
   simp only [XDC, Bool.and_eq_true] at ho
   have f1 := hx.fx ho.1 (sz := 1) rfl
   unfold w118
   simp only [QhW, YqD, z18, qdf, Xq8, if_true, if_false, reduceIte, Nat.reduceAdd, Nat.reduceSub, Nat.reduceLeDiff, Nat.reduceEqDiff, Nat.reduceMul, Nat.reduceLT, Int.reduceLT, Int.reduceLE, Int.reduceEq, CO.tmps, Opd.tmps, optT, Nat.reducePow, Nat.reduceDiv, Nat.reduceMod, T_At, JFq, f1, hl, XUt hh, qDR hz]
   have g : ∀ (_ : a < 1 ∨ 16 < a ∨ b < 1 ∨ b ≤ vAt xs a), ([] : List Int).length ≤ 1000000 ∧ Bt Tryz.prog h.length [rsl intR (h.length + 1) (XU4 xs [])] (h ++ [AB.blk true true [AV.i IntKind.i64 a, AV.i IntKind.i64 b], resB intR true (XU4 xs [])]) [rsl intR h.length (QFM xs (a, b))] (h ++ [resB intR true (QFM xs (a, b))]) := fun q => by
    have : QFM xs (a, b) = XU4 xs [] := by unfold QFM; rw [if_pos q]
    rw [this]
    exact ⟨by decide, Bt.oneR 1 hh rfl⟩
   refine ⟨fun q => g (.inl q), fun q1 => ⟨fun q => g (.inr (.inl q)), fun q2 => ⟨fun q => g (.inr (.inr (.inl q))), fun q3 => ⟨fun q => g (.inr (.inr (.inr q))), fun q4 => ?_⟩⟩⟩⟩
   have c1 : (List.replicate a.toNat [AV.i .i64 0]).flatten = intR.cells (List.replicate a.toNat 0) := XvT intR a.toNat 0
   have c2 : (0 ≤ a ∧ a ≤ a ∧ 8 * a ≤ 2 ^ 47 ∧ a ≤ (maxLen : Int)) = True := eq_true ⟨by omega, by omega, by omega, by unfold maxLen; omega⟩
   have c3 : IntKind.i64.wrap (a - 1) = a - 1 := ZWo (by unfold In64; omega)
   have c4 : (0 ≤ a - 1 ∧ a - 1 < (a.toNat : Int)) = True := eq_true (by omega)
   have c5 : over (intR.cells (List.replicate a.toNat 0)) (0 + (a - 1).toNat * 1) [AV.i .i64 b] = intR.cells ((List.replicate a.toNat 0).set (a - 1).toNat b) := by
    rw [Nat.zero_add, Nat.mul_one]
    exact YNF _ _ _ (by rw [List.length_replicate]; omega)
   have c6 : (0 + ((a - 1).toNat * 1 + 1) ≤ (intR.cells (List.replicate a.toNat 0)).length) = True := eq_true (by rw [Row.cells_len, List.length_replicate, K4b]; omega)
   have c7 : ((List.replicate a.toNat (0 : Int)).set (a - 1).toNat b).length = a.toNat := by simp
   have c8 : ∀ L : List AB, ownC L 1 = some (intR.cells ((List.replicate a.toNat (0 : Int)).set (a - 1).toNat b)) → getS intR (h ++ L) (.sl (h.length + 1) 0 a.toNat a.toNat none) = some ((List.replicate a.toNat (0 : Int)).set (a - 1).toNat b) := fun L hL => by
    have := qfL (h := h) (c := a.toNat) (kk := none) hL (by rw [c7]; unfold maxLen; omega)
    rw [c7] at this
    exact this.get
   have c9 : (a.toNat ≤ 1000000) = True := eq_true (by omega)
   simp only [z18, Xq8, if_true, if_false, reduceIte, Nat.reduceAdd, Nat.reduceSub, Nat.reduceLeDiff, Nat.reduceEqDiff, Nat.reduceMul, Nat.reduceLT, Int.reduceLT, Int.reduceLE, Int.reduceEq, c1, c2, c3, c4, c5, c6, c7, c8, c9, JFq, f1, hl]
   have : QFM xs (a, b) = XU4 xs ((List.replicate a.toNat 0).set (a - 1).toNat b) := by unfold QFM; rw [if_neg (by simp only; omega)]
   rw [this]
   exact Bt.oneR 2 hh rfl
  ·cases e
 ·cases e
end Go.Proofs.YtcncpbcbedfakaaGreat
end
section
namespace Go.Proofs.YtcncpbcbedfakaaGreat
theorem zq9 (xs ys : List Int) (n i : Nat) (hi : i < n) : (jn xs ys n).getD i 0 = max (vAt xs ((i + 1 : Nat) : Int)) (vAt ys ((i + 1 : Nat) : Int)) := by
 simp [jn, List.getD_eq_getElem?_getD, List.getElem?_range hi]
theorem Qaf (xs : List Int) (r : Int) : 0 ≤ vAt xs r := by unfold vAt; split <;> (try split) <;> omega
theorem J6M (xs : List Int) (r : Int) (h : r < 1 ∨ (xs.length : Int) < r) : vAt xs r = 0 := by
 unfold vAt
 by_cases h1 : r < 1
 ·rw [if_pos h1]
 ·rw [if_neg h1, if_pos (by omega)]
theorem zJo (xs : List Int) (i : Nat) (h : i < xs.length) : vAt xs ((i + 1 : Nat) : Int) = max (xs.getD i 0) 0 := by
 unfold vAt
 rw [if_neg (by omega), if_neg (by omega)]
 rw [show (((i + 1 : Nat) : Int) - 1).toNat = i by omega]
theorem qCY (xs ys : List Int) : (XU4 xs ys).length = max xs.length ys.length := YBu _ _ _
theorem Y1z (xs ys : List Int) (r : Int) : vAt (XU4 xs ys) r = max (vAt xs r) (vAt ys r) := by
 by_cases h : r < 1 ∨ (((max xs.length ys.length : Nat) : Int) < r)
 ·rw [J6M _ _ (by rw [qCY]; exact h), J6M xs r (by omega), J6M ys r (by omega)]
  rfl
 ·obtain ⟨i, rfl⟩ : ∃ i : Nat, r = ((i + 1 : Nat) : Int) := ⟨(r - 1).toNat, by omega⟩
  rw [zJo _ i (by rw [qCY]; omega)]
  unfold XU4
  rw [zq9 _ _ _ _ (by omega)]
  have := Qaf xs ((i + 1 : Nat) : Int)
  omega
theorem zHW (xs : List Int) (d : Int × Int) : (QFM xs d).length ≤ max xs.length 16 := by
 unfold QFM
 split
 ·rw [qCY]; simp; omega
 ·rename_i h
  rw [qCY]
  simp only [List.length_set, List.length_replicate]
  omega
theorem JP0 (r : Int) : vAt [] r = 0 := J6M [] r (by simp; omega)
theorem JxJ (xs : List Int) {d : Int × Int} (hd : qfE d) (hn : vAt xs d.1 < d.2) (r : Int) : vAt (QFM xs d) r = if r = d.1 then d.2 else vAt xs r := by
 obtain ⟨a, b⟩ := d
 obtain ⟨h1, h2, h3, h4⟩ := hd
 simp only at h1 h2 h3 h4 hn ⊢
 unfold QFM
 rw [if_neg (by simp only; omega), Y1z]
 obtain ⟨i, rfl⟩ : ∃ i : Nat, a = ((i + 1 : Nat) : Int) := ⟨(a - 1).toNat, by omega⟩
 have e1 : ((i + 1 : Nat) : Int).toNat = i + 1 := by omega
 have e2 : (((i + 1 : Nat) : Int) - 1).toNat = i := by omega
 rw [e1, e2]
 by_cases h : r = ((i + 1 : Nat) : Int)
 ·subst h
  have e3 : vAt ((List.replicate (i + 1) (0 : Int)).set i b) ((i + 1 : Nat) : Int) = b := by
   rw [zJo _ i (by simp), List.getD_eq_getElem?_getD, List.getElem?_set_self (by simp), Option.getD_some]
   omega
  rw [if_pos rfl, e3]
  omega
 ·rw [if_neg h]
  have : vAt ((List.replicate (i + 1) (0 : Int)).set i b) r = 0 := by
   by_cases ho : r < 1 ∨ (((i + 1 : Nat) : Int) < r)
   ·exact J6M _ _ (by simpa using ho)
   ·obtain ⟨k, rfl⟩ : ∃ k : Nat, r = ((k + 1 : Nat) : Int) := ⟨(r - 1).toNat, by omega⟩
    rw [zJo _ k (by simp; omega)]
    simp only [List.getD_eq_getElem?_getD]
    rw [List.getElem?_set_ne (by omega), List.getElem?_replicate]
    split <;> simp
  rw [this]
  have := Qaf xs r
  omega
abbrev AbS := List Int × Dots
def absD (s : AbS) (d : Int × Int) : AbS :=
 if d.2 ≤ vAt s.1 d.1 then s else if d.2 = vAt s.1 d.1 + 1 then (QFM s.1 d, s.2) else if s.2.length = 0 ∨ s.2.getD (s.2.length - 1) dotR.d ≠ d then (s.1, s.2 ++ [d]) else s
def absR (s : AbS) (l : Dots) : AbS := l.foldl absD s
theorem qJq (s : AbS) {l : Dots} {i : Nat} (hi : i < l.length) : absR s (l.take (i + 1)) = absD (absR s (l.take i)) (l.getD i dotR.d) := by
 unfold absR
 rw [List.take_succ_eq_append_getElem hi, List.foldl_append, List.getD_eq_getElem?_getD, List.getElem?_eq_getElem hi]
 rfl
theorem KYD (s : AbS) (d : Int × Int) : (absD s d).1.length ≤ max s.1.length 16 ∧ (absD s d).2.length ≤ s.2.length + 1 := by
 unfold absD
 split
 ·omega
 ·split
  ·exact ⟨zHW s.1 d, by simp⟩
  ·split
   ·exact ⟨by simp only; omega, by simp⟩
   ·omega
theorem Jes (s : AbS) {d : Int × Int} (hd : qfE d) (r : Int) : vAt s.1 r ≤ vAt (absD s d).1 r := by
 unfold absD
 split
 ·omega
 ·split
  ·rename_i h1 h2
   rw [JxJ s.1 hd (by omega)]
   split
   ·rename_i h3; subst h3; omega
   ·omega
  ·split <;> simp
theorem eqc2 (w d : Int × Int) : qN9 [.i, .i] [.i .i64 w.1, .i .i64 w.2] [.i .i64 d.1, .i .i64 d.2] = some (decide (w = d)) := by
 obtain ⟨a, b⟩ := w
 obtain ⟨c, d⟩ := d
 simp only [qN9, XC3, Option.bind_some, Option.map_some, Prod.mk.injEq, if_true, Bool.and_true, Bool.decide_and]
 by_cases h1 : a = c <;> by_cases h2 : b = d <;> simp [h1, h2]
theorem ZVr {α : Type} {r : Row α} (sz id n j : Nat) (l : List α) : idOf (elP sz (rsl r id l) n j) = [id] := by unfold rsl; split <;> rfl
end Go.Proofs.YtcncpbcbedfakaaGreat
end
section
namespace Go.Proofs.YtcncpbcbedfakaaGreat
set_option maxRecDepth 100000
theorem Xsj : Spec Tryz.prog 135 Z8L := by
 intro args h v h' e
 unfold Z8L at e
 split at e
 ·rename_i a b
  cases e
  refine FnAt.c (FnAt.run (by kernel_rfl) (T := ⟨[], []⟩) ⟨trivial, trivial⟩ Tryz.func135 X4p fun ho hh => ?_)
  unfold w135
  simp only [QhW, YqD, z18, Xq8, if_true, if_false, reduceIte, Nat.reduceAdd, Nat.reduceSub, Nat.reduceLeDiff, Nat.reduceEqDiff, Nat.reduceMul, Nat.reduceLT, Int.reduceLT, Int.reduceLE, Int.reduceEq]
  refine ⟨fun h1 => ⟨fun h2 => ⟨fun h3 => ?_, fun h3 => ?_⟩, fun h2 => ?_⟩, fun h1 => ?_⟩ <;> exact Bt.dropB _ hh (by simp [qfE, *])
 ·cases e
def JaS (a b : Int × Int) : Prop := a.1 < b.1 ∨ a.1 = b.1 ∧ a.2 < b.2
instance (a b : Int × Int) : Decidable (JaS a b) := by unfold JaS; infer_instance
def K2w : List AV → List AB → Option (AV × List AB)
 | [.ag [.i .i64 a, .i .i64 b], .ag [.i .i64 c, .i .i64 d]], h => some (.b (decide (JaS (a, b) (c, d))), h)
 | _, _ => none
theorem qUV : Spec Tryz.prog 162 K2w := by
 intro args h v h' e
 unfold K2w at e
 split at e
 ·rename_i a b c d
  cases e
  refine FnAt.c (FnAt.run (by kernel_rfl) (T := ⟨[], []⟩) ⟨trivial, trivial⟩ Tryz.func162 KWB fun ho hh => ?_)
  unfold w162
  simp only [QhW, YqD, z18, Xq8, if_true, if_false, reduceIte, Nat.reduceAdd, Nat.reduceSub, Nat.reduceLeDiff, Nat.reduceEqDiff, Nat.reduceMul, Nat.reduceLT, Int.reduceLT, Int.reduceLE, Int.reduceEq]
  refine ⟨fun h1 => ?_, fun h1 => ⟨fun h2 => ?_, fun h2 => ?_⟩⟩ <;> exact Bt.dropB _ hh (by simp [JaS, *])
 ·cases e
theorem QZq {α : Type} (P : α → Prop) (l : List α) (i : Nat) (hi : i < l.length) (d : α) : (∀ x ∈ l.take (i + 1), P x) ↔ (∀ x ∈ l.take i, P x) ∧ P (l.getD i d) := by
 rw [List.take_succ_eq_append_getElem hi, List.getD_eq_getElem?_getD, List.getElem?_eq_getElem hi]
 simp only [List.mem_append, List.mem_singleton, Option.getD_some]
 exact ⟨fun h => ⟨fun x hx => h x (.inl hx), h _ (.inr rfl)⟩, fun h x hx => hx.elim (h.1 x) fun e => e ▸ h.2⟩
def rgP (vs : List Int) (i : Nat) : Prop := (vs.length : Int) ≤ 16 ∧ ∀ n ∈ vs.take i, 0 ≤ n ∧ n ≤ 1048576
instance (vs : List Int) (i : Nat) : Decidable (rgP vs i) := by unfold rgP; infer_instance
theorem ZB9 (vs : List Int) : decide (rgP vs 0) = decide ((vs.length : Int) ≤ 16) := by simp [rgP]
theorem ZEz (vs : List Int) {i : Nat} (hi : i < vs.length) (h : rgP vs i) : rgP vs (i + 1) ↔ 0 ≤ vs.getD i 0 ∧ vs.getD i 0 ≤ 1048576 := by
 have := QZq (fun n => 0 ≤ n ∧ n ≤ 1048576) vs i hi 0
 exact ⟨fun q => (this.1 q.2).2, fun q => ⟨h.1, this.2 ⟨h.2, q⟩⟩⟩
def rgQ (vs : List Int) (l : Dots) (j : Nat) : Prop := rgP vs vs.length ∧ ∀ d ∈ l.take j, qfE d
instance (vs : List Int) (l : Dots) (j : Nat) : Decidable (rgQ vs l j) := by unfold rgQ; infer_instance
theorem zmq (vs : List Int) (l : Dots) : decide (rgQ vs l 0) = decide (rgP vs vs.length) := by simp [rgQ]
theorem YxL (vs : List Int) {l : Dots} {j : Nat} (hj : j < l.length) (h : rgQ vs l j) : rgQ vs l (j + 1) ↔ qfE ((l.getD j dotR.d).1, (l.getD j dotR.d).2) := by
 have := QZq qfE l j hj dotR.d
 exact ⟨fun q => (this.1 q.2).2, fun q => ⟨h.1, this.2 ⟨h.2, q⟩⟩⟩
theorem XX9 (vs : List Int) (l : Dots) : rgQ vs l l.length ↔ qD3 vs l := by
 unfold rgQ rgP qD3
 rw [List.take_length, List.take_length]
 exact ⟨fun q => ⟨by omega, q.1.2, q.2⟩, fun q => ⟨⟨by omega, q.2.1⟩, q.2.2⟩⟩
theorem Kyz : Spec Tryz.prog 102 qPX := by
 intro args h v h' e
 unfold qPX at e
 split at e
 ·rename_i s t
  obtain ⟨vs, hs, e⟩ := zZA e
  obtain ⟨l, ht, e⟩ := zZA e
  cases e
  refine FnAt.c (FnAt.run (by kernel_rfl) (T := ⟨[⟨135, Z8L, fun _ => []⟩], []⟩) ⟨⟨Xsj, trivial⟩, trivial⟩ Tryz.func102 qEp fun ho hh => ?_)
  simp only [XDC, Bool.and_eq_true] at ho
  have f1 := hs.fx ho.1 (sz := 1) rfl
  have f2 := ht.fx ho.2.1 (sz := 2) rfl
  unfold w102
  simp only [QhW, YqD, z18, Xq8, if_true, if_false, reduceIte, Nat.reduceAdd, Nat.reduceSub, Nat.reduceLeDiff, Nat.reduceEqDiff, Nat.reduceMul, Nat.reduceLT, Int.reduceLT, Int.reduceLE, Int.reduceEq, f1, f2]
  have hm : vs.length ≤ maxLen := hs.2
  have hm2 : l.length ≤ maxLen := ht.2
  unfold maxLen at hm hm2
  refine zXO (S := Nat) (fun i => vs.length - i) (fun i => [s, t] ++ tp 3 ++ [.b (decide (rgP vs i)), .i .i64 i] ++ tp 40) (fun i => i ≤ vs.length) 0 (Nat.zero_le _) (by simp only [z18, Xq8, if_true, if_false, reduceIte, Nat.reduceAdd, Nat.reduceSub, Nat.reduceLeDiff, Nat.reduceEqDiff, Nat.reduceMul, Nat.reduceLT, Int.reduceLT, Int.reduceLE, Int.reduceEq, ZB9]) fun i hi => ?_
  simp only [z18, Xq8, if_true, if_false, reduceIte, Nat.reduceAdd, Nat.reduceSub, Nat.reduceLeDiff, Nat.reduceEqDiff, Nat.reduceMul, Nat.reduceLT, Int.reduceLT, Int.reduceLE, Int.reduceEq, f1, f2]
  refine ⟨fun h1 => ⟨fun h2 => ?_, fun h2 => ?_⟩, fun h1 => ?_⟩
  ·have e1 : IntKind.i64.wrap ((i : Int) + 1) = ((i + 1 : Nat) : Int) := ZWo (by unfold In64; omega)
   simp only [z18, Xq8, if_true, if_false, reduceIte, Nat.reduceAdd, Nat.reduceSub, Nat.reduceLeDiff, Nat.reduceEqDiff, Nat.reduceMul, Nat.reduceLT, Int.reduceLT, Int.reduceLE, Int.reduceEq, f1, h1, Zr2, e1]
   have hst := ZEz vs h1 h2
   rw [show intR.d = (0 : Int) from rfl]
   refine ⟨fun g1 => ⟨i + 1, h1, by omega, ?_, Wk.refl _⟩, fun g1 => ⟨i + 1, h1, by omega, ?_, Wk.refl _⟩⟩
   ·rw [decide_eq_decide.2 (show rgP vs (i + 1) ↔ vs.getD i 0 ≤ 1048576 from hst.trans ⟨fun q => q.2, fun q => ⟨g1, q⟩⟩)]
    exact Wk.refl _
   ·rw [decide_eq_false (fun q => g1 (hst.1 q).1)]
    exact Wk.refl _
  ·have hq : rgP vs i ↔ rgP vs vs.length := ⟨fun q => absurd q h2, fun q => absurd ⟨q.1, fun n hn => q.2 n (by rw [List.take_length]; exact List.mem_of_mem_take hn)⟩ h2⟩
   refine zXO (S := Nat) (fun j => l.length - j) (fun j => tp 1 ++ [t] ++ tp 3 ++ [.b (decide (rgQ vs l j))] ++ tp 1 ++ [.i .i64 j] ++ tp 39) (fun j => j ≤ l.length) 0 (Nat.zero_le _) (by simp only [z18, Xq8, if_true, if_false, reduceIte, Nat.reduceAdd, Nat.reduceSub, Nat.reduceLeDiff, Nat.reduceEqDiff, Nat.reduceMul, Nat.reduceLT, Int.reduceLT, Int.reduceLE, Int.reduceEq, zmq, decide_eq_decide.2 hq]) fun j hj => ?_
   simp only [z18, Xq8, if_true, if_false, reduceIte, Nat.reduceAdd, Nat.reduceSub, Nat.reduceLeDiff, Nat.reduceEqDiff, Nat.reduceMul, Nat.reduceLT, Int.reduceLT, Int.reduceLE, Int.reduceEq, f2]
   refine ⟨fun g1 => ⟨fun g2 => ?_, fun g2 => ?_⟩, fun g1 => ?_⟩
   ·have e1 : IntKind.i64.wrap ((j : Int) + 1) = ((j + 1 : Nat) : Int) := ZWo (by unfold In64; omega)
    simp only [z18, Xq8, if_true, if_false, reduceIte, Nat.reduceAdd, Nat.reduceSub, Nat.reduceLeDiff, Nat.reduceEqDiff, Nat.reduceMul, Nat.reduceLT, Int.reduceLT, Int.reduceLE, Int.reduceEq, f2, g1, zBW, Z8L, e1]
    refine ⟨j + 1, g1, by omega, ?_, Wk.refl _⟩
    rw [decide_eq_decide.2 (YxL vs g1 g2)]
    exact Wk.refl _
   ·exact Bt.eq (congrArg AV.b (decide_eq_decide.2 ⟨fun q => absurd q g2, fun q => absurd ((XX9 vs l).2 q |>.imp id fun q d hd => q d (by rw [List.take_length]; exact List.mem_of_mem_take hd)) g2⟩)) (List.append_nil h)
   ·have : j = l.length := by omega
    subst this
    exact Bt.eq (congrArg AV.b (decide_eq_decide.2 (XX9 vs l))) (List.append_nil h)
  ·have hq : rgP vs i ↔ rgP vs vs.length := by rw [show i = vs.length from by omega]
   refine zXO (S := Nat) (fun j => l.length - j) (fun j => tp 1 ++ [t] ++ tp 3 ++ [.b (decide (rgQ vs l j))] ++ tp 1 ++ [.i .i64 j] ++ tp 39) (fun j => j ≤ l.length) 0 (Nat.zero_le _) (by simp only [z18, Xq8, if_true, if_false, reduceIte, Nat.reduceAdd, Nat.reduceSub, Nat.reduceLeDiff, Nat.reduceEqDiff, Nat.reduceMul, Nat.reduceLT, Int.reduceLT, Int.reduceLE, Int.reduceEq, zmq, decide_eq_decide.2 hq]) fun j hj => ?_
   simp only [z18, Xq8, if_true, if_false, reduceIte, Nat.reduceAdd, Nat.reduceSub, Nat.reduceLeDiff, Nat.reduceEqDiff, Nat.reduceMul, Nat.reduceLT, Int.reduceLT, Int.reduceLE, Int.reduceEq, f2]
   refine ⟨fun g1 => ⟨fun g2 => ?_, fun g2 => ?_⟩, fun g1 => ?_⟩
   ·have e1 : IntKind.i64.wrap ((j : Int) + 1) = ((j + 1 : Nat) : Int) := ZWo (by unfold In64; omega)
    simp only [z18, Xq8, if_true, if_false, reduceIte, Nat.reduceAdd, Nat.reduceSub, Nat.reduceLeDiff, Nat.reduceEqDiff, Nat.reduceMul, Nat.reduceLT, Int.reduceLT, Int.reduceLE, Int.reduceEq, f2, g1, zBW, Z8L, e1]
    refine ⟨j + 1, g1, by omega, ?_, Wk.refl _⟩
    rw [decide_eq_decide.2 (YxL vs g1 g2)]
    exact Wk.refl _
   ·exact Bt.eq (congrArg AV.b (decide_eq_decide.2 ⟨fun q => absurd q g2, fun q => absurd ((XX9 vs l).2 q |>.imp id fun q d hd => q d (by rw [List.take_length]; exact List.mem_of_mem_take hd)) g2⟩)) (List.append_nil h)
   ·have : j = l.length := by omega
    subst this
    exact Bt.eq (congrArg AV.b (decide_eq_decide.2 (XX9 vs l))) (List.append_nil h)
 ·cases e
end Go.Proofs.YtcncpbcbedfakaaGreat
end
section
namespace Go.Proofs.YtcncpbcbedfakaaGreat
set_option maxRecDepth 100000
set_option maxHeartbeats 4000000
def bsI (l : Dots) (d : Int × Int) (lo hi : Nat) : Nat :=
 if lo < hi then (if cmpD (l.getD ((lo + hi) / 2) dotR.d) d < 0 then bsI l d ((lo + hi) / 2 + 1) hi else bsI l d lo ((lo + hi) / 2)) else lo
termination_by hi - lo
decreasing_by all_goals omega
noncomputable def T_bs : List AV → List AB → Option (AV × List AB)
 | [s, .ag [.i .i64 a, .i .i64 b], .f (.func 99) [] []], h => (getS dotR h s).bind fun l =>
   if l.length ≤ 1000000 then some (.tu [.i .i64 (bsI l (a, b) 0 l.length), .b (decide (bsI l (a, b) 0 l.length < l.length ∧ cmpD (l.getD (bsI l (a, b) 0 l.length) dotR.d) (a, b) = 0))], h) else none
 | _, _ => none
theorem QV0 : Spec Tryz.prog 112 T_bs := by
 intro args h v h' e
 unfold T_bs at e
 split at e
 ·rename_i s a b
  obtain ⟨l, hs, e⟩ := zZA e
  split at e
  ·rename_i hl
   cases e
   refine FnAt.c (FnAt.frz0 fun hz => ?_)
   replace hs := hs.frz
   generalize h.map AB.freeze = h at *
   refine FnAt.run (by kernel_rfl) (T := ⟨[⟨99, JmA, fun _ => []⟩], []⟩) ⟨⟨Xej, trivial⟩, trivial⟩ Tryz.func112 QG7 fun ho hh => ?_
   simp only [XDC, Bool.and_eq_true] at ho
   have f1 := hs.fx ho.1 (sz := 2) rfl
   unfold w112
   simp only [QhW, YqD, z18, Xq8, if_true, if_false, reduceIte, Nat.reduceAdd, Nat.reduceSub, Nat.reduceLeDiff, Nat.reduceEqDiff, Nat.reduceMul, Nat.reduceLT, Int.reduceLT, Int.reduceLE, Int.reduceEq, f1]
   refine zXO (S := Nat × Nat) (fun x => x.2 - x.1) (fun x => [s] ++ tp 1 ++ [.f (.func 99) [] []] ++ tp 1 ++ [.p (h.length + 0) 0] ++ tp 3 ++ [.i .i64 l.length, .i .i64 x.1, .i .i64 x.2] ++ tp 38) (fun x => x.1 ≤ x.2 ∧ x.2 ≤ l.length ∧ bsI l (a, b) x.1 x.2 = bsI l (a, b) 0 l.length) (0, l.length) ⟨Nat.zero_le _, Nat.le_refl _, rfl⟩ (by simp only [z18, Xq8, if_true, if_false, reduceIte, Nat.reduceAdd, Nat.reduceSub, Nat.reduceLeDiff, Nat.reduceEqDiff, Nat.reduceMul, Nat.reduceLT, Int.reduceLT, Int.reduceLE, Int.reduceEq]) fun x hx => ?_
   obtain ⟨lo, hi⟩ := x
   obtain ⟨x1, x2, x3⟩ := hx
   dsimp only at x1 x2 x3
   by_cases g : lo < hi
   ·have hm : (lo + hi) / 2 < l.length := by omega
    have e1 : IntKind.i64.wrap ((lo : Int) + (hi : Int)) = ((lo + hi : Nat) : Int) := ZWo (by unfold In64; omega)
    have e2 : IntKind.u64.wrap ((lo + hi : Nat) : Int) = ((lo + hi : Nat) : Int) := by
     have : ((lo + hi : Nat) : Int) % 18446744073709551616 = ((lo + hi : Nat) : Int) := Int.emod_eq_of_lt (by omega) (by omega)
     exact this
    have e3 : ∀ k', binV .shr (.i .u64 ((lo + hi : Nat) : Int)) (.i k' 1) = some (.i .u64 (((lo + hi) / 2 : Nat) : Int)) := fun k' => by
     show (if (1 : Int) < 0 then none else some (AV.i .u64 (Int.fdiv ((lo + hi : Nat) : Int) (2 ^ (min (1 : Int).toNat IntKind.u64.bits))))) = _
     rw [if_neg (by decide), show ((2 : Int) ^ (min (1 : Int).toNat IntKind.u64.bits)) = 2 from by decide, Int.fdiv_eq_ediv_of_nonneg _ (by decide)]
     rfl
    have e4 : IntKind.i64.wrap (((lo + hi) / 2 : Nat) : Int) = (((lo + hi) / 2 : Nat) : Int) := ZWo (by unfold In64; omega)
    have e5 : IntKind.i64.wrap ((((lo + hi) / 2 : Nat) : Int) + 1) = (((lo + hi) / 2 + 1 : Nat) : Int) := ZWo (by unfold In64; omega)
    have e6 : ∀ k x, (AV.i k x).int? = some x := fun _ _ => rfl
    simp only [z18, qdf, Xq8, if_true, if_false, reduceIte, Nat.reduceAdd, Nat.reduceSub, Nat.reduceLeDiff, Nat.reduceEqDiff, Nat.reduceMul, Nat.reduceLT, Int.reduceLT, Int.reduceLE, Int.reduceEq, CO.tmps, Opd.tmps, optT, Nat.reducePow, Nat.reduceDiv, Nat.reduceMod, f1, g, hm, e1, e2, e3, e4, e5, e6, zBW, JmA, Ke9, qDR hz, XUt hh]
    have x4 : ∀ (_ : True), bsI l (a, b) lo hi = if cmpD (l.getD ((lo + hi) / 2) dotR.d) (a, b) < 0 then bsI l (a, b) ((lo + hi) / 2 + 1) hi else bsI l (a, b) lo ((lo + hi) / 2) := fun _ => by rw [bsI, if_pos g]
    refine ⟨fun q => ⟨((lo + hi) / 2 + 1, hi), ⟨by dsimp only; omega, x2, ?_⟩, by dsimp only; omega, Wk.refl _, Wk.refl _⟩, fun q => ⟨(lo, (lo + hi) / 2), ⟨by dsimp only; omega, by dsimp only; omega, ?_⟩, by dsimp only; omega, Wk.refl _, Wk.refl _⟩⟩
    ·rw [← x3, x4 trivial, if_pos q]
    ·rw [← x3, x4 trivial, if_neg q]
   ·obtain rfl : lo = hi := by omega
    have x4 : bsI l (a, b) 0 l.length = lo := by rw [← x3, bsI, if_neg (Nat.lt_irrefl _)]
    by_cases g2 : lo < l.length
    ·simp only [z18, qdf, Xq8, if_true, if_false, reduceIte, Nat.reduceAdd, Nat.reduceSub, Nat.reduceLeDiff, Nat.reduceEqDiff, Nat.reduceMul, Nat.reduceLT, Int.reduceLT, Int.reduceLE, Int.reduceEq, CO.tmps, Opd.tmps, optT, Nat.reducePow, Nat.reduceDiv, Nat.reduceMod, f1, g, g2, x4, zBW, JmA, Ke9, qDR hz, XUt hh]
     exact Bt.drop _ hh rfl rfl
    ·simp only [z18, qdf, Xq8, if_true, if_false, reduceIte, Nat.reduceAdd, Nat.reduceSub, Nat.reduceLeDiff, Nat.reduceEqDiff, Nat.reduceMul, Nat.reduceLT, Int.reduceLT, Int.reduceLE, Int.reduceEq, CO.tmps, Opd.tmps, optT, Nat.reducePow, Nat.reduceDiv, Nat.reduceMod, f1, g, g2, x4, zBW, JmA, Ke9, qDR hz, XUt hh]
     exact Bt.drop _ hh (by rw [decide_eq_false fun q => q.1]) rfl
  ·cases e
 ·cases e
def XaW (v : List Int) (ds : Dots) (d : Int × Int) : Prop := (bsI ds d 0 ds.length < ds.length ∧ cmpD (ds.getD (bsI ds d 0 ds.length) dotR.d) d = 0) ∨ qbb v d
instance (v : List Int) (ds : Dots) (d : Int × Int) : Decidable (XaW v ds d) := by unfold XaW; infer_instance
noncomputable def XwL : List AV → List AB → Option (AV × List AB)
 | [.ag [s, t], .ag [.i .i64 a, .i .i64 b]], h => (getS intR h s).bind fun v => (getS dotR h t).bind fun ds => if ds.length ≤ 1000000 then some (.b (decide (XaW v ds (a, b))), h) else none
 | _, _ => none
theorem zIH : Spec Tryz.prog 78 XwL := by
 intro args h v h' e
 unfold XwL at e
 split at e
 ·rename_i s t a b
  obtain ⟨vs, hs, e⟩ := zZA e
  obtain ⟨ds, ht, e⟩ := zZA e
  split at e
  ·rename_i hl
   cases e
   refine FnAt.c (FnAt.run (by kernel_rfl) (T := ⟨[⟨112, T_bs, fun _ => []⟩, ⟨113, Qm3, fun _ => []⟩], []⟩) ⟨⟨QV0, QEU, trivial⟩, trivial⟩ Tryz.func78 sw78 fun ho hh => ?_)
   simp only [XDC, Y8A, Bool.and_eq_true] at ho
   have f1 := hs.fx ho.1.1 (sz := 1) rfl
   have f2 := ht.fx ho.1.2.1 (sz := 2) rfl
   unfold w78
   simp only [QhW, YqD, z18, Xq8, if_true, if_false, reduceIte, Nat.reduceAdd, Nat.reduceSub, Nat.reduceLeDiff, Nat.reduceEqDiff, Nat.reduceMul, Nat.reduceLT, Int.reduceLT, Int.reduceLE, Int.reduceEq, f1, f2, T_bs, Qm3, hl]
   refine ⟨fun q => Bt.dropB _ hh (decide_eq_true (.inl q)).symm, fun q => Bt.dropB _ hh ?_⟩
   exact decide_eq_decide.2 ⟨fun z => .inr z, fun z => z.resolve_left q⟩
  ·cases e
 ·cases e
end Go.Proofs.YtcncpbcbedfakaaGreat
end
section
namespace Go.Proofs.YtcncpbcbedfakaaGreat
set_option maxRecDepth 100000
set_option maxHeartbeats 4000000
noncomputable def KPV (chk : List Int → Dots → Int) : List AV → List AB → Option (AV × List AB)
 | [.ag [s, t]], h => (getS intR h s).bind fun v => (getS dotR h t).bind fun ds => some (.i .i64 (chk v ds), h)
 | _, _ => none
noncomputable def qWK (chk : List Int → Dots → Int) : List AV → List AB → Option (AV × List AB)
 | [.ag [s, t], .ag [s', t']], h => (getS intR h s).bind fun v => (getS dotR h t).bind fun ds => (getS intR h s').bind fun v' => (getS dotR h t').bind fun ds' => some (.i .i64 (if chk v ds = 0 then chk v' ds' else chk v ds), h)
 | _, _ => none
theorem JAv (chk : List Int → Dots → Int) (hC : Spec Tryz.prog 59 (KPV chk)) : Spec Tryz.prog 76 (qWK chk) := by
 intro args h v h' e
 unfold qWK at e
 split at e
 ·rename_i s t s' t'
  obtain ⟨vs, hs, e⟩ := zZA e
  obtain ⟨ds, ht, e⟩ := zZA e
  obtain ⟨vs', hs', e⟩ := zZA e
  obtain ⟨ds', ht', e⟩ := zZA e
  cases e
  refine FnAt.c (FnAt.run (by kernel_rfl) (T := ⟨[⟨59, KPV chk, fun _ => []⟩], []⟩) ⟨⟨hC, trivial⟩, trivial⟩ Tryz.func76 sw76 fun ho hh => ?_)
  simp only [XDC, Y8A, Bool.and_eq_true] at ho
  have f1 := hs.fx ho.1.1 (sz := 1) rfl
  have f2 := ht.fx ho.1.2.1 (sz := 2) rfl
  have f3 := hs'.fx ho.2.1.1 (sz := 1) rfl
  have f4 := ht'.fx ho.2.1.2.1 (sz := 2) rfl
  unfold w76
  simp only [QhW, YqD, z18, Xq8, if_true, if_false, reduceIte, Nat.reduceAdd, Nat.reduceSub, Nat.reduceLeDiff, Nat.reduceEqDiff, Nat.reduceMul, Nat.reduceLT, Int.reduceLT, Int.reduceLE, Int.reduceEq, f1, f2, f3, f4, KPV]
  exact ⟨fun q => Bt.dropI _ hh (by rw [if_neg q]), fun q => Bt.dropI _ hh (by rw [if_pos (Decidable.not_not.1 q)])⟩
 ·cases e
noncomputable def Kn2 (chk : List Int → Dots → Int) : List AV → List AB → Option (AV × List AB)
 | [.ag [s, t], .ag [.i .i64 a, .i .i64 b]], h => (getS intR h s).bind fun v => (getS dotR h t).bind fun ds => some (.b (decide (chk v ds = 0 ∧ XaW v ds (a, b))), h)
 | _, _ => none
theorem ZF0 (chk : List Int → Dots → Int) (h0 : ∀ v ds, chk v ds = 0 → qD3 v ds ∧ ds.length ≤ 4096) (hC : Spec Tryz.prog 59 (KPV chk)) : Spec Tryz.prog 39 (Kn2 chk) := by
 intro args h v h' e
 unfold Kn2 at e
 split at e
 ·rename_i s t a b
  obtain ⟨vs, hs, e⟩ := zZA e
  obtain ⟨ds, ht, e⟩ := zZA e
  cases e
  refine FnAt.c (FnAt.run (by kernel_rfl) (T := ⟨[⟨59, KPV chk, fun _ => []⟩, ⟨78, XwL, fun _ => []⟩], []⟩) ⟨⟨hC, zIH, trivial⟩, trivial⟩ Tryz.func39 sw39 fun ho hh => ?_)
  simp only [XDC, Y8A, Bool.and_eq_true] at ho
  have f1 := hs.fx ho.1.1 (sz := 1) rfl
  have f2 := ht.fx ho.1.2.1 (sz := 2) rfl
  unfold w39
  by_cases q : chk vs ds = 0
  ·have hl : (ds.length ≤ 1000000) = True := eq_true (by have := (h0 vs ds q).2; omega)
   have q' := eq_true q
   simp only [QhW, YqD, z18, Xq8, if_true, if_false, reduceIte, Nat.reduceAdd, Nat.reduceSub, Nat.reduceLeDiff, Nat.reduceEqDiff, Nat.reduceMul, Nat.reduceLT, Int.reduceLT, Int.reduceLE, Int.reduceEq, f1, f2, KPV, XwL, hl, q']
   exact ⟨Bt.dropB _ hh rfl, fun q => q.elim⟩
  ·have q' := eq_false q
   simp only [QhW, YqD, z18, Xq8, if_true, if_false, reduceIte, Nat.reduceAdd, Nat.reduceSub, Nat.reduceLeDiff, Nat.reduceEqDiff, Nat.reduceMul, Nat.reduceLT, Int.reduceLT, Int.reduceLE, Int.reduceEq, f1, f2, KPV, XwL, q']
   exact ⟨fun q => q.elim, Bt.dropB _ hh (decide_eq_false fun q => q.1).symm⟩
 ·cases e
end Go.Proofs.YtcncpbcbedfakaaGreat
end
section
namespace Go.Proofs.YtcncpbcbedfakaaGreat
open Go.RowKit
section
variable {P : Program} {α : Type} {r : Row α}
theorem Bt.less {p : Nat} {fr : List AV} {h : List AB} {i : Nat} {B B' : AB} (hi : h[i]? = some B) (hbr : ∀ ρ w b o n, BR (KC P) ρ w b o n B → BR (KC P) ρ w b o n B') (hm : B'.mut = true → B.mut = true) (hl : B'.live = true → B.live = true) : Bt P p fr h fr (h.set i B') := by
 intro ρ w cs hp rr v
 have hlt := (List.getElem?_eq_some_iff.1 hi).1
 have cls : ∀ (j : Nat) C, (h.set i B')[j]? = some C → ∃ C0, h[j]? = some C0 ∧ (C.mut = true → C0.mut = true) ∧ (C.live = true → C0.live = true) ∧ ∀ ρ w b o n, BR (KC P) ρ w b o n C0 → BR (KC P) ρ w b o n C := fun j C hC => by
  rw [List.getElem?_set] at hC
  split at hC
  ·rename_i hij
   subst hij
   cases hC
   exact ⟨B, hi, hm, hl, hbr⟩
  ·exact ⟨C, hC, fun z => z, fun z => z, fun _ _ _ _ _ z => z⟩
 refine ⟨by rw [List.length_set]; exact hp, ρ, v, ⟨by rw [List.length_set]; exact rr.len, fun j C b o n h1 h2 => ?_, fun j k bj oj bk ok Bj Bk hne h1 h2 h3 h4 g1 g2 => ?_⟩, fun b ⟨j, C, o, h1, h2, h3⟩ => ?_, fun j b ⟨C, o, h1, h2, h3⟩ => ?_, fun _ _ => rfl⟩
 ·obtain ⟨C0, q1, _, _, q4⟩ := cls j C h1
  exact q4 _ _ _ _ _ (rr.blk j C0 b o n q1 h2)
 ·obtain ⟨C0, q1, q2, _, _⟩ := cls j Bj h1
  obtain ⟨C1, z1, _, z3, _⟩ := cls k Bk h2
  exact rr.sep j k bj oj bk ok C0 C1 hne q1 z1 h3 h4 (q2 g1) (z3 g2)
 ·obtain ⟨C0, q1, q2, _, _⟩ := cls j C h1
  exact ⟨j, C0, o, q1, q2 h2, h3⟩
 ·obtain ⟨C0, q1, _, q3, _⟩ := cls j C h1
  exact ⟨j, ⟨C0, o, q1, q3 h2, h3⟩, fun _ => rfl, fun z => z⟩
theorem Bt.take {p : Nat} {fr : List AV} {h : List AB} {i n : Nat} {m : Bool} {l : List α} (hi : h[i]? = some (resB r m l)) (hn : n ≤ l.length) : Bt P p fr h fr (h.set i (resB r m (l.take n))) := by
 have hl : (l.take n).length = n := by rw [List.length_take]; omega
 by_cases h0 : n = 0
 ·have e : resB r m (l.take n) = .dead := by unfold resB; rw [if_pos (hl.trans h0)]
  rw [e]
  exact Bt.less hi (fun ρ w b o q _ => trivial) (fun q => by cases q) (fun q => by cases q)
 ·have hl0 : ¬ l.length = 0 := by omega
  have hle : n * r.sz ≤ l.length * r.sz := Nat.mul_le_mul_right _ hn
  have hc : r.cells (l.take n) = (r.cells l).take (n * r.sz) := (r.cells_take l n).symm
  have hcl := r.cells_len l
  refine Bt.less hi (fun ρ w b o q hb => ?_) (fun q => ?_) (fun q => ?_)
  ·simp only [resB, hl, if_neg h0, if_neg hl0, BR] at hb ⊢
   obtain ⟨cs, e, fz, h1, h2, h3, h4⟩ := hb
   refine ⟨cs, e, fz, h1, h2, ?_, fun k a c ha hcs => ?_⟩
   ·rw [hc, List.length_take]; omega
   ·rw [hc, List.getElem?_take] at ha
    split at ha
    ·exact h4 k a c ha hcs
    ·cases ha
  ·simpa only [resB, hl, if_neg h0, if_neg hl0, AB.mut] using q
  ·simp only [resB, if_neg hl0, AB.live]
def cutS (s : AV) (n : Nat) : AV :=
 match s with
 | .sl id off _ cap k => .sl id off n cap k
 | s => s
theorem KTf (id : Nat) {l : List α} {n : Nat} (hn : n ≤ l.length) : Wk (rsl r id (l.take n)) (cutS (rsl r id l) n) := by
 have hl : (l.take n).length = n := by rw [List.length_take]; omega
 by_cases h0 : n = 0
 ·subst h0
  unfold rsl
  rw [if_pos hl]
  split <;> exact Wk.empty _ _ _ _ _ _
 ·unfold rsl
  rw [hl, if_neg h0, if_neg (by omega)]
  intro ρ c hv
  simp only [cutS] at hv
  generalize hk : (some r.sz : Option Nat) = k at hv ⊢
  generalize l.length = m at hv hn
  cases hv with
  | sl _ _ _ _ _ b o nn cap' g1 g2 g3 g4 g5 g6 => exact .sl id 0 n n k b o nn cap' g1 (Nat.le_refl _) (by omega) g4 (fun q => by rw [q] at hk; cases hk) g6
  | sz => exact absurd rfl h0
theorem Qn5 (f : Nat → Nat) (id n : Nat) (l : List α) : (cutS (rsl r id l) n).ren f = cutS (rsl r (f id) l) n := by unfold rsl; split <;> rfl
theorem XHa (q : Nat → Bool) (id n : Nat) {l : List α} (h : q id = true) : (cutS (rsl r id l) n).ok q = true := by unfold rsl; split <;> simp [cutS, AV.ok, h]
theorem nsSl : AV.ns.isSl = true := _root_.id rfl
theorem slSl (a b c d : Nat) (k : Option Nat) : (AV.sl a b c d k).isSl = true := _root_.id rfl
theorem Jop {s : AV} (h : s.isSl = true) (n : Nat) : (cutS s n).isSl = true := by cases s <;> first | rfl | cases h
theorem qPt (id n : Nat) (l : List α) : (cutS (rsl r id l) n).isSl = true := Jop (JZG id l) n
theorem J0D (id n : Nat) (l : List α) : (cutS (rsl r id l) n).one = true := Xm8 (qPt id n l)
theorem JFu (id n : Nat) (l : List α) : (cutS (rsl r id l) n).cells = [cutS (rsl r id l) n] := Zl9 (qPt id n l)
theorem QYK (id n : Nat) (l : List α) : (cutS (rsl r id l) n).known = true := Z41 (qPt id n l)
theorem FnC.bt {g : Nat} {args : List AV} {h h1 h2 : List AB} {a a' : AV} (e : FnC P g args h a h1) (b : Bt P h.length [a] h1 [a'] h2) : FnC P g args h a' h2 := by
 refine ⟨e.1, fun ρ w vals hr hv => (e.2 ρ w vals hr hv).mono ?_⟩
 rintro x w' ⟨v', ρ', rfl, hva, hrel, heff⟩
 obtain ⟨_, ρ2, v2, r2, o2, a2, f2⟩ := b ρ' w' #[v'] (heff.len hr hrel) hrel ⟨rfl, fun j x c hx hc => by
  match j, hx with
  | 0, hx => cases hx; cases hc; exact hva⟩
 exact ⟨v', ρ2, rfl, v2.2 0 a' v' rfl rfl, r2, heff.trans ⟨rfl, rfl, ⟨rfl, Nat.le_refl _⟩, Nat.le_refl _, fun _ _ _ => rfl, fun b h => .inl (o2 b h), fun i b h => .inl (a2 i b h), f2⟩⟩
end
end Go.Proofs.YtcncpbcbedfakaaGreat
end
