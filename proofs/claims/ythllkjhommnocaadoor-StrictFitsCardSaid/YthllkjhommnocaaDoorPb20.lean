/- Part 20 of what the laws' proofs rest on. No condition. -/
import Derived.Test.YthllkjhommnocaaDoorPb19
set_option linter.all false
section
namespace Go.Proofs.YthllkjhommnocaaDoor
set_option maxRecDepth 100000
set_option maxHeartbeats 4000000
theorem J3J (c : UInt8) : ((c.toNat : Int) = 47) = (c = 47) := propext ⟨fun e => QmE (c := 47) e, fun e => by rw [e]; rfl⟩
theorem Y3N : ∀ (s : List UInt8), (∀ b ∈ s, b ≠ 47) → cutL s = none
 | [], _ => rfl
 | b :: l, h => by
  rw [cutL, if_neg (h b (List.mem_cons_self ..)), Y3N l fun c hc => h c (List.mem_cons_of_mem _ hc)]
  rfl
def ZAk : List AV → List AB → Option (AV × List AB)
 | [.s s, .s [47]], h => some (.i .i64 (bixV s 47), h)
 | _, _ => none
theorem K0o : Spec Tryd.prog 65 ZAk := by
 intro args h v h' e
 unfold ZAk at e
 split at e
 ·rename_i s
  cases e
  refine FnAt.c (FnAt.run (by kernel_rfl) (T := ⟨[⟨73, qDK, fun _ => []⟩], []⟩) ⟨⟨q1k, trivial⟩, trivial⟩ Tryd.func65 sw65 fun ho hh => ?_)
  unfold w65
  have hl : (([47] : List UInt8).length : Int) = 1 := rfl
  have c0 : ((1 : Int) = 0) = False := eq_false (by decide)
  have x0 : ixsV (.s [47]) (.i .i64 0) = some (.i .u8 47) := rfl
  rcases emE (([47] : List UInt8) = s) with q | q
  ·have q' := of_eq_true q
   have hb : bixV s 47 = 0 := by rw [← q']; decide
   rw [hb]
   simp only [XSG, YPr, XUb, KIu, Xgj, if_true, if_false, ↓reduceIte, Nat.reduceAdd, Nat.reduceSub, Nat.reduceLeDiff, Nat.reduceEqDiff, Nat.reduceMul, Nat.reduceLT, Int.reduceLT, Int.reduceLE, Int.reduceEq, CO.tmps, Opd.tmps, optT, Nat.reducePow, Nat.reduceDiv, Nat.reduceMod, hl, c0, q, KHr, J9H, qiS, QgH, x0, qDK, Option.map_some, decide_true, decide_false, ne_eq, not_false_eq_true, not_true_eq_false, false_implies, forall_const, and_true, true_and]
   exact Bt.drop _ hh rfl rfl
  ·simp only [XSG, YPr, XUb, KIu, Xgj, if_true, if_false, ↓reduceIte, Nat.reduceAdd, Nat.reduceSub, Nat.reduceLeDiff, Nat.reduceEqDiff, Nat.reduceMul, Nat.reduceLT, Int.reduceLT, Int.reduceLE, Int.reduceEq, CO.tmps, Opd.tmps, optT, Nat.reducePow, Nat.reduceDiv, Nat.reduceMod, hl, c0, q, KHr, J9H, qiS, QgH, x0, qDK, Option.map_some, decide_true, decide_false, ne_eq, not_false_eq_true, not_true_eq_false, false_implies, forall_const, and_true, true_and]
   exact Bt.drop _ hh rfl rfl
 ·cases e
def cut3 (p : List UInt8 × List UInt8 × Bool) : AV := .tu [.s p.1, .s p.2.1, .b p.2.2]
noncomputable def zX4 : List AV → List AB → Option (AV × List AB)
 | [.s s, .s [47]], h => if s.length ≤ 1000000 then some (cut3 (cutP s), h) else none
 | _, _ => none
theorem qWt : Spec Tryd.prog 38 zX4 := by
 intro args h v h' e
 unfold zX4 at e
 split at e
 ·rename_i s
  split at e
  ·rename_i hs
   cases e
   refine FnAt.c (FnAt.run (by kernel_rfl) (T := ⟨[⟨65, ZAk, fun _ => []⟩], []⟩) ⟨⟨K0o, trivial⟩, trivial⟩ Tryd.func38 sw38 fun ho hh => ?_)
   unfold w38
   have hl : (([47] : List UInt8).length : Int) = 1 := rfl
   have hb := J9n s
   unfold cutP
   cases hc : cutL s with
   | none =>
    rw [hc] at hb
    dsimp only at hb
    have g0 : ((0 : Int) ≤ -1) = False := eq_false (by decide)
    simp only [XSG, YPr, XUb, KIu, Xgj, if_true, if_false, ↓reduceIte, Nat.reduceAdd, Nat.reduceSub, Nat.reduceLeDiff, Nat.reduceEqDiff, Nat.reduceMul, Nat.reduceLT, Int.reduceLT, Int.reduceLE, Int.reduceEq, CO.tmps, Opd.tmps, optT, Nat.reducePow, Nat.reduceDiv, Nat.reduceMod, ZAk, hb, g0, decide_true, decide_false, ne_eq, not_false_eq_true, not_true_eq_false, false_implies, forall_const, and_true, true_and]
    exact ⟨_, rfl, Bt.drop _ hh rfl rfl⟩
   | some xy =>
    obtain ⟨x, y⟩ := xy
    rw [hc] at hb
    dsimp only at hb
    have hs' := (JhV s x y hc).1
    have hlen : s.length = x.length + 1 + y.length := by rw [hs']; simp; omega
    have xn := Int.natCast_nonneg x.length
    have g0 : ((0 : Int) ≤ (x.length : Int)) = True := eq_true xn
    have w1 : IntKind.i64.wrap ((x.length : Int) + 1) = ((x.length + 1 : Nat) : Int) := Jeb (by unfold In64; omega)
    have v1 := YMd (l := s) (n := x.length) .i64 (by omega)
    have v2 := KeA (l := s) (n := x.length + 1) .i64 (by omega)
    rw [show s.take x.length = x by rw [hs', List.take_left']; rfl] at v1
    rw [show s.drop (x.length + 1) = y by rw [hs', ← List.drop_drop, List.drop_left' rfl]; rfl] at v2
    simp only [XSG, YPr, XUb, KIu, Xgj, if_true, if_false, ↓reduceIte, Nat.reduceAdd, Nat.reduceSub, Nat.reduceLeDiff, Nat.reduceEqDiff, Nat.reduceMul, Nat.reduceLT, Int.reduceLT, Int.reduceLE, Int.reduceEq, CO.tmps, Opd.tmps, optT, Nat.reducePow, Nat.reduceDiv, Nat.reduceMod, ZAk, hb, g0, hl, w1, J9H, qiS, qTS, v1, v2, Option.map_some, decide_true, decide_false, ne_eq, not_false_eq_true, not_true_eq_false, false_implies, forall_const, and_true, true_and]
    exact ⟨_, rfl, Bt.drop _ hh rfl rfl⟩
  ·cases e
 ·cases e
theorem YFS : Spec Tryd.prog 22 zX4 := by
 intro args h v h' e
 unfold zX4 at e
 split at e
 ·rename_i s
  split at e
  ·rename_i hs
   cases e
   refine FnAt.c (FnAt.run (by kernel_rfl) (T := ⟨[⟨38, zX4, fun _ => []⟩], []⟩) ⟨⟨qWt, trivial⟩, trivial⟩ Tryd.func22 sw22 fun ho hh => ?_)
   unfold w22
   have hs' := eq_true hs
   simp only [XSG, YPr, XUb, KIu, Xgj, if_true, if_false, ↓reduceIte, Nat.reduceAdd, Nat.reduceSub, Nat.reduceLeDiff, Nat.reduceEqDiff, Nat.reduceMul, Nat.reduceLT, Int.reduceLT, Int.reduceLE, Int.reduceEq, CO.tmps, Opd.tmps, optT, Nat.reducePow, Nat.reduceDiv, Nat.reduceMod, zX4, cut3, hs', if_true, decide_true, decide_false, ne_eq, not_false_eq_true, not_true_eq_false, false_implies, forall_const, and_true, true_and]
   exact ⟨_, rfl, Bt.drop _ hh rfl rfl⟩
  ·cases e
 ·cases e
noncomputable def qQK : List AV → List AB → Option (AV × List AB)
 | [.s s], h => if s.length ≤ 1000000 then some (cut3 (splV s), h) else none
 | _, _ => none
theorem Xzj (s : List UInt8) : (QRE s ∧ QUq s = .ag [.i .i64 0, .i .i64 0]) ∨ (¬ QRE s ∧ ∃ e a : Int, e ≠ 0 ∧ QUq s = .ag [.i .i64 e, .i .i64 a]) := by
 unfold QUq QRE
 by_cases g : (64 : Int) < (s.length : Int)
 ·rw [if_pos g]
  exact .inr ⟨fun z => by omega, 4, 64, by decide, rfl⟩
 ·rw [if_neg g]
  cases hr : runB QQo J6x s 0 .f1 with
  | none => exact .inl ⟨⟨by omega, rfl⟩, rfl⟩
  | some n => exact .inr ⟨fun z => (by cases z.2), 7, n, by decide, rfl⟩
theorem eqc2 {e a : Int} (h : e ≠ 0) : qE2 [.i, .i] [.i .i64 e, .i .i64 a] [.i .i64 0, .i .i64 0] = some false := by
 simp [qE2, YLt, h]
theorem Yev : Spec Tryd.prog 8 qQK := by
 intro args h v h' e
 unfold qQK at e
 split at e
 ·rename_i s
  split at e
  ·rename_i hs
   cases e
   refine FnAt.c (FnAt.run (by kernel_rfl) (T := ⟨[⟨21, KRl, fun _ => []⟩, ⟨22, zX4, fun _ => []⟩], []⟩) ⟨⟨Zi5, YFS, trivial⟩, trivial⟩ Tryd.func8 sw8 fun ho hh => ?_)
   unfold w8 splV
   have hs' := eq_true hs
   rcases Xzj s with ⟨p1, p2⟩ | ⟨p1, e0, a0, p2, p3⟩
   ·have q1 : qE2 [.i, .i] [.i .i64 0, .i .i64 0] [.i .i64 0, .i .i64 0] = some true := rfl
    obtain ⟨x, y, hc, _⟩ := Yz6 p1
    have hcp : cutP s = (x, y, true) := by unfold cutP; rw [hc]
    rw [if_pos p1, hc]
    simp only [XSG, YPr, XUb, KIu, Xgj, if_true, if_false, ↓reduceIte, Nat.reduceAdd, Nat.reduceSub, Nat.reduceLeDiff, Nat.reduceEqDiff, Nat.reduceMul, Nat.reduceLT, Int.reduceLT, Int.reduceLE, Int.reduceEq, CO.tmps, Opd.tmps, optT, Nat.reducePow, Nat.reduceDiv, Nat.reduceMod, KRl, zX4, cut3, hs', p2, q1, hcp, YtK, Option.map_some, Bool.xor_true, Bool.xor_false, Bool.not_true, Bool.not_false, if_true, decide_true, decide_false, ne_eq, not_false_eq_true, not_true_eq_false, false_implies, forall_const, and_true, true_and]
    exact ⟨_, rfl, Bt.drop _ hh rfl rfl⟩
   ·have q1 := eqc2 (a := a0) p2
    rw [if_neg p1]
    simp only [XSG, YPr, XUb, KIu, Xgj, if_true, if_false, ↓reduceIte, Nat.reduceAdd, Nat.reduceSub, Nat.reduceLeDiff, Nat.reduceEqDiff, Nat.reduceMul, Nat.reduceLT, Int.reduceLT, Int.reduceLE, Int.reduceEq, CO.tmps, Opd.tmps, optT, Nat.reducePow, Nat.reduceDiv, Nat.reduceMod, KRl, zX4, cut3, hs', p3, q1, YtK, Option.map_some, Bool.xor_true, Bool.xor_false, Bool.not_true, Bool.not_false, if_true, decide_true, decide_false, ne_eq, not_false_eq_true, not_true_eq_false, false_implies, forall_const, and_true, true_and]
    exact ⟨_, rfl, Bt.drop _ hh rfl rfl⟩
  ·cases e
 ·cases e
noncomputable def ZcJ : List AV → List AB → Option (AV × List AB)
 | [.s s], h => if s.length ≤ 1000000 then some (cut3 (cutR s), h) else none
 | _, _ => none
theorem YCs : Spec Tryd.prog 24 ZcJ := by
 intro args h v h' e
 unfold ZcJ at e
 split at e
 ·rename_i s
  split at e
  ·rename_i hs
   cases e
   refine FnAt.c (FnAt.run (by kernel_rfl) (T := ⟨[], []⟩) ⟨trivial, trivial⟩ Tryd.func24 sw24 fun ho hh => ?_)
   unfold w24
   simp only [XSG, YPr, XUb, KIu, Xgj, if_true, if_false, ↓reduceIte, Nat.reduceAdd, Nat.reduceSub, Nat.reduceLeDiff, Nat.reduceEqDiff, Nat.reduceMul, Nat.reduceLT, Int.reduceLT, Int.reduceLE, Int.reduceEq, CO.tmps, Opd.tmps, optT, Nat.reducePow, Nat.reduceDiv, Nat.reduceMod]
   refine qlC (S := Nat) (fun σ => s.length - σ) (fun σ => [.s s] ++ tp 4 ++ [.i .i64 (σ : Int)] ++ tp 17) (fun σ => σ ≤ s.length ∧ ∀ b ∈ s.take σ, b ≠ 47) 0 ⟨Nat.zero_le _, fun b hb => by simp at hb⟩ ?_ fun i hσ => ?_
   ·simp only [tp_0, tp_s, List.cons_append, List.nil_append, zRV, qUd, Z0S, ZFL, and_true, true_and]
    exact Wk.refl _
   obtain ⟨hi, hno⟩ := hσ
   by_cases g5 : i < s.length
   ·have g5' : ((i : Int) < (s.length : Int)) = True := eq_true (by omega)
    have w1 : IntKind.i64.wrap ((i : Int) + 1) = ((i + 1 : Nat) : Int) := Jeb (by unfold In64; omega)
    have x1 := z29 (l := s) (n := i) .i64 g5
    have hg : s.getD i 0 = s[i] := by rw [List.getD_eq_getElem?_getD, List.getElem?_eq_getElem g5]; rfl
    rw [hg] at x1
    have hd := List.drop_eq_getElem_cons g5
    generalize hc : s[i] = c at x1 hd
    by_cases h47 : c = 47
    ·have g6 := eq_true h47
     have v1 := YMd (l := s) (n := i) .i64 (by omega)
     have v2 := KeA (l := s) (n := i + 1) .i64 (by omega)
     have hcut : cutL s = some (s.take i, s.drop (i + 1)) := by
      conv => lhs; rw [← List.take_append_drop i s, hd, h47]
      exact Zow _ _ hno
     have hcr : cutR s = (s.take i, s.drop (i + 1), true) := by unfold cutR; rw [hcut]
     rw [hcr]
     simp only [XUb, KIu, Xgj, if_true, if_false, ↓reduceIte, Nat.reduceAdd, Nat.reduceSub, Nat.reduceLeDiff, Nat.reduceEqDiff, Nat.reduceMul, Nat.reduceLT, Int.reduceLT, Int.reduceLE, Int.reduceEq, CO.tmps, Opd.tmps, optT, Nat.reducePow, Nat.reduceDiv, Nat.reduceMod, J9H, qiS, g5', w1, x1, QgH, qTS, v1, v2, J3J, g6, Option.map_some, decide_true, decide_false, ne_eq, not_false_eq_true, not_true_eq_false, false_implies, forall_const, and_true, true_and]
     exact ⟨_, rfl, Bt.drop _ hh rfl rfl⟩
    ·have g6 := eq_false h47
     simp only [XUb, KIu, Xgj, if_true, if_false, ↓reduceIte, Nat.reduceAdd, Nat.reduceSub, Nat.reduceLeDiff, Nat.reduceEqDiff, Nat.reduceMul, Nat.reduceLT, Int.reduceLT, Int.reduceLE, Int.reduceEq, CO.tmps, Opd.tmps, optT, Nat.reducePow, Nat.reduceDiv, Nat.reduceMod, J9H, qiS, g5', w1, x1, QgH, qTS, J3J, g6, Option.map_some, decide_true, decide_false, ne_eq, not_false_eq_true, not_true_eq_false, false_implies, forall_const, and_true, true_and]
     refine ⟨i + 1, ⟨g5, fun b hb => ?_⟩, by omega, ?_⟩
     ·rw [List.take_succ_eq_append_getElem g5] at hb
      rcases List.mem_append.1 hb with hb | hb
      ·exact hno b hb
      ·rw [List.mem_singleton.1 hb, hc]; exact h47
     simp only [tp_0, tp_s, List.cons_append, List.nil_append, zRV, qUd, Z0S, ZFL, and_true, true_and]
   ·have g5' : ((i : Int) < (s.length : Int)) = False := eq_false (by omega)
    have hcr : cutR s = ([], [], false) := by
     unfold cutR
     rw [Y3N s (by rw [List.take_of_length_le (by omega)] at hno; exact hno)]
    rw [hcr]
    simp only [XUb, KIu, Xgj, if_true, if_false, ↓reduceIte, Nat.reduceAdd, Nat.reduceSub, Nat.reduceLeDiff, Nat.reduceEqDiff, Nat.reduceMul, Nat.reduceLT, Int.reduceLT, Int.reduceLE, Int.reduceEq, CO.tmps, Opd.tmps, optT, Nat.reducePow, Nat.reduceDiv, Nat.reduceMod, J9H, qiS, g5', Option.map_some, decide_true, decide_false, ne_eq, not_false_eq_true, not_true_eq_false, false_implies, forall_const, and_true, true_and]
    exact ⟨_, rfl, Bt.drop _ hh rfl rfl⟩
  ·cases e
 ·cases e
theorem ZE5 : Spec Tryd.prog 9 qQK := by
 intro args h v h' e
 unfold qQK at e
 split at e
 ·rename_i s
  split at e
  ·rename_i hs
   cases e
   refine FnAt.c (FnAt.run (by kernel_rfl) (T := ⟨[⟨23, KRl, fun _ => []⟩, ⟨24, ZcJ, fun _ => []⟩], []⟩) ⟨⟨KHf, YCs, trivial⟩, trivial⟩ Tryd.func9 sw9 fun ho hh => ?_)
   unfold w9 splV
   have hs' := eq_true hs
   rcases Xzj s with ⟨p1, p2⟩ | ⟨p1, e0, a0, p2, p3⟩
   ·obtain ⟨x, y, hc, _⟩ := Yz6 p1
    have hcp : cutR s = (x, y, true) := by unfold cutR; rw [hc]
    rw [if_pos p1, hc]
    have z0 : ((0 : Int) = 0) = True := eq_true rfl
    simp only [XSG, YPr, XUb, KIu, Xgj, if_true, if_false, ↓reduceIte, Nat.reduceAdd, Nat.reduceSub, Nat.reduceLeDiff, Nat.reduceEqDiff, Nat.reduceMul, Nat.reduceLT, Int.reduceLT, Int.reduceLE, Int.reduceEq, CO.tmps, Opd.tmps, optT, Nat.reducePow, Nat.reduceDiv, Nat.reduceMod, KRl, ZcJ, cut3, hs', p2, z0, hcp, Option.map_some, Bool.xor_true, Bool.xor_false, Bool.not_true, Bool.not_false, if_true, decide_true, decide_false, ne_eq, not_false_eq_true, not_true_eq_false, false_implies, forall_const, and_true, true_and]
    exact ⟨_, rfl, Bt.drop _ hh rfl rfl⟩
   ·have q1 := eq_false p2
    rw [if_neg p1]
    simp only [XSG, YPr, XUb, KIu, Xgj, if_true, if_false, ↓reduceIte, Nat.reduceAdd, Nat.reduceSub, Nat.reduceLeDiff, Nat.reduceEqDiff, Nat.reduceMul, Nat.reduceLT, Int.reduceLT, Int.reduceLE, Int.reduceEq, CO.tmps, Opd.tmps, optT, Nat.reducePow, Nat.reduceDiv, Nat.reduceMod, KRl, ZcJ, cut3, hs', p3, q1, Option.map_some, Bool.xor_true, Bool.xor_false, Bool.not_true, Bool.not_false, if_true, decide_true, decide_false, ne_eq, not_false_eq_true, not_true_eq_false, false_implies, forall_const, and_true, true_and]
    exact ⟨_, rfl, Bt.drop _ hh rfl rfl⟩
  ·cases e
 ·cases e
noncomputable def QKI : List AV → List AB → Option (AV × List AB)
 | [.s p, .s s], h => some (.b (decide (p = [42]) || decide (p = s)), h)
 | _, _ => none
theorem JZu : Spec Tryd.prog 26 QKI := by
 intro args h v h' e
 unfold QKI at e
 split at e
 ·rename_i p s
  cases e
  refine FnAt.c (FnAt.run (by kernel_rfl) (T := ⟨[], []⟩) ⟨trivial, trivial⟩ Tryd.func26 sw26 fun ho hh => ?_)
  unfold w26
  rcases emE (p = [42]) with a | a <;> rcases emE (p = s) with b | b <;>
   (simp only [XSG, YPr, XUb, KIu, Xgj, if_true, if_false, ↓reduceIte, Nat.reduceAdd, Nat.reduceSub, Nat.reduceLeDiff, Nat.reduceEqDiff, Nat.reduceMul, Nat.reduceLT, Int.reduceLT, Int.reduceLE, Int.reduceEq, CO.tmps, Opd.tmps, optT, Nat.reducePow, Nat.reduceDiv, Nat.reduceMod, KHr, a, b, decide_true, decide_false, ne_eq, not_false_eq_true, not_true_eq_false, false_implies, forall_const, and_true, true_and]; exact Bt.dropB _ hh rfl)
 ·cases e
end Go.Proofs.YthllkjhommnocaaDoor
end
section
namespace Go.Proofs.YthllkjhommnocaaDoor
set_option maxRecDepth 100000
set_option maxHeartbeats 4000000
theorem KgP {T : Env} {fr : List AV} {h : List AB} (x : Opd) : opR T (.r2s x) fr h = (match x.ev fr with
  | .i _ n => if 0 ≤ n ∧ n < 128 then some (.s [UInt8.ofNat n.toNat], h) else none
  | _ => none) := _root_.id rfl
theorem KHl {x y : List UInt8} (h : x.length + y.length ≤ 10000000) : binV .add (.s x) (.s y) = some (.s (x ++ y)) := by
 show (if ((x.length + y.length : Nat) : Int) > IntKind.i64.max then none else some (AV.s (x ++ y))) = _
 rw [if_neg]
 have : IntKind.i64.max = 9223372036854775807 := by decide
 omega
abbrev QA := Nat × List UInt8
def qSJ : QA → Int → Option QA
 | (n, part), c => if c = 47 ∧ part ≠ [] then some (n + 1, []) else if c = 42 ∧ part = [] then some (n, [42]) else if lowP c ∧ part ≠ [42] then some (n, part ++ [UInt8.ofNat c.toNat]) else none
theorem qs1 (n : Nat) (part : List UInt8) (c : Int) : qSJ (n, part) c = if c = 47 ∧ part ≠ [] then some (n + 1, []) else if c = 42 ∧ part = [] then some (n, [42]) else if lowP c ∧ part ≠ [42] then some (n, part ++ [UInt8.ofNat c.toNat]) else none := rfl
def KNb (q : QA) : Bool := decide (q.1 = 1 ∧ q.2 ≠ [])
theorem QaR (q : QA) (c : Int) (h : 128 ≤ c) : qSJ q c = none := by
 have h1 : ¬ lowP c := by unfold lowP; omega
 obtain ⟨n, part⟩ := q
 rw [qs1, if_neg (fun z => by omega), if_neg (fun z => by omega), if_neg (fun z => h1 z.1)]
theorem Xk9 : ∀ (s : List UInt8) (pos n : Nat) (part : List UInt8), patR s n part = (runB qSJ KNb s pos (n, part)).isNone
 | [], pos, n, part => by
  unfold patR runB KNb
  by_cases h : n = 1 ∧ part ≠ []
  ·simp [h]
  ·rw [decide_eq_false h]
   rfl
 | b :: l, pos, n, part => by
  unfold patR runB
  have eb : UInt8.ofNat ((b.toNat : Int)).toNat = b := by rw [Int.toNat_natCast]; exact UInt8.ofNat_toNat
  by_cases hb : b.toNat < 128
  ·rw [if_pos hb, qs1]
   by_cases h1 : (b.toNat : Int) = 47 ∧ part ≠ []
   ·rw [if_pos h1, if_pos h1]; exact Xk9 l (pos + 1) (n + 1) []
   ·rw [if_neg h1, if_neg h1]
    by_cases h2 : (b.toNat : Int) = 42 ∧ part = []
    ·rw [if_pos h2, if_pos h2]; exact Xk9 l (pos + 1) n [42]
    ·rw [if_neg h2, if_neg h2]
     by_cases h3 : lowP (b.toNat : Int) ∧ part ≠ [42]
     ·rw [if_pos h3, if_pos h3, eb]; exact Xk9 l (pos + 1) n (part ++ [b])
     ·rw [if_neg h3, if_neg h3]; rfl
  ·have hl : ¬ lowP (b.toNat : Int) := by unfold lowP; omega
   rw [if_neg hb, if_neg (fun z => by omega), if_neg (fun z => by omega), if_neg (fun z => hl z.1)]
   rfl
theorem KJp (c : Int) : (lowP c = True ∧ (c = 47) = False ∧ (c = 42) = False ∧ (97 ≤ c) = True ∧ (c ≤ 122) = True) ∨
  (lowP c = True ∧ (c = 47) = False ∧ (c = 42) = False ∧ (97 ≤ c) = False ∧ (48 ≤ c) = True ∧ (c ≤ 57) = True) ∨
  (lowP c = False ∧ (c = 47) = False ∧ (c = 42) = False ∧ (97 ≤ c) = True ∧ (c ≤ 122) = False ∧ (48 ≤ c) = True ∧ (c ≤ 57) = False) ∨
  (lowP c = False ∧ (c = 47) = False ∧ (c = 42) = False ∧ (97 ≤ c) = False ∧ (48 ≤ c) = True ∧ (c ≤ 57) = False) ∨
  (lowP c = False ∧ (c = 47) = True ∧ (c = 42) = False ∧ (97 ≤ c) = False ∧ (48 ≤ c) = False) ∨
  (lowP c = False ∧ (c = 47) = False ∧ (c = 42) = True ∧ (97 ≤ c) = False ∧ (48 ≤ c) = False) ∨
  (lowP c = False ∧ (c = 47) = False ∧ (c = 42) = False ∧ (97 ≤ c) = False ∧ (48 ≤ c) = False) := by
 simp only [eq_iff_iff, iff_true, iff_false]
 unfold lowP
 omega
noncomputable def Q6L : List AV → List AB → Option (AV × List AB)
 | [.s s], h => if s.length ≤ 1000000 then some (.b (patR s 0 []), h) else none
 | _, _ => none
theorem qqy : Spec Tryd.prog 25 Q6L := by
 intro args h v h' e
 unfold Q6L at e
 split at e
 ·rename_i s
  split at e
  ·rename_i hs
   cases e
   refine FnAt.c (FnAt.run (by kernel_rfl) (T := ⟨[], []⟩) ⟨trivial, trivial⟩ Tryd.func25 sw25 fun ho hh => ?_)
   unfold w25
   rw [Xk9 s 0 0 []]
   simp only [XSG, YPr, XUb, KIu, Xgj, if_true, if_false, ↓reduceIte, Nat.reduceAdd, Nat.reduceSub, Nat.reduceLeDiff, Nat.reduceEqDiff, Nat.reduceMul, Nat.reduceLT, Int.reduceLT, Int.reduceLE, Int.reduceEq, CO.tmps, Opd.tmps, optT, Nat.reducePow, Nat.reduceDiv, Nat.reduceMod, qlo]
   refine q2Y (S := Nat × Nat × List UInt8) (fun σ => s.length - σ.1) (fun σ => tp 3 ++ [.i .i64 (σ.2.1 : Int), .s σ.2.2] ++ tp 3 ++ [.p (h.length + 0) 0] ++ tp 48) (fun σ => h ++ [itr s σ.1])
    (fun σ => σ.1 ≤ s.length ∧ σ.2.1 ≤ σ.1 ∧ σ.2.2.length ≤ σ.1 ∧ runB qSJ KNb (s.drop σ.1) σ.1 σ.2 = runB qSJ KNb s 0 (0, [])) (0, 0, []) ⟨Nat.zero_le _, Nat.zero_le _, Nat.zero_le _, rfl⟩ ?_ fun σ hσ => ?_
   ·refine Bt.wk ?_
    simp only [XUb, Xgj, if_true, if_false, reduceIte, Nat.reduceAdd, Nat.reduceSub, Nat.reduceLeDiff, Nat.reduceEqDiff, Nat.reduceMul, Nat.reduceLT, Int.reduceLT, Int.reduceLE, Int.reduceEq]
   obtain ⟨pos, n, part⟩ := σ
   obtain ⟨h1, h2, h3, h4⟩ := hσ
   dsimp only at h1 h2 h3 h4 ⊢
   have hn : nxV (h ++ [itr s pos]) (.p (h.length + 0) 0) = if pos < s.length then some (.tu [.b true, .i .i64 (pos : Int), .i .i32 ((Utf8.decode ⟨s.toArray⟩ pos).1 : Int)], h ++ [itr s (pos + (Utf8.decode ⟨s.toArray⟩ pos).2)]) else some (.tu [.b false], h ++ [itr s pos]) := Jhu _ 0 s pos rfl
   by_cases g : pos < s.length
   ·have hd := Qit (step := qSJ) (ends := KNb) (q := (n, part)) g
    rw [h4] at hd
    obtain ⟨e1, e2⟩ := Qww (step := qSJ) QaR g (n, part)
    rw [e1] at hd
    generalize hC : ((Utf8.decode ⟨s.toArray⟩ pos).1 : Int) = c at *
    have c0 : 0 ≤ c := by rw [← hC]; exact Int.natCast_nonneg _
    have w1 : IntKind.i64.wrap ((n : Int) + 1) = ((n + 1 : Nat) : Int) := Jeb (by unfold In64; omega)
    have ad : ∀ y : UInt8, binV .add (.s part) (.s [y]) = some (.s (part ++ [y])) := fun y => KHl (by rw [List.length_singleton]; omega)
    have pp : ((part = []) = True ∧ (part = [42]) = False) ∨ ((part = []) = False ∧ (part = [42]) = True) ∨ ((part = []) = False ∧ (part = [42]) = False) := by
     rcases emE (part = []) with a | a <;> rcases emE (part = [42]) with b | b
     ·exact absurd (of_eq_true b) (by rw [of_eq_true a]; decide)
     ·exact .inl ⟨a, b⟩
     ·exact .inr (.inl ⟨a, b⟩)
     ·exact .inr (.inr ⟨a, b⟩)
    rcases KJp c with ⟨a, b, d, f1, f2⟩ | ⟨a, b, d, f1, f2, f3⟩ | ⟨a, b, d, f1, f2, f3, f4⟩ | ⟨a, b, d, f1, f2, f3⟩ | ⟨a, b, d, f1, f2⟩ | ⟨a, b, d, f1, f2⟩ | ⟨a, b, d, f1, f2⟩ <;> rcases pp with ⟨p0, p1⟩ | ⟨p0, p1⟩ | ⟨p0, p1⟩
    ·have hst : qSJ (n, part) c = some (n, part ++ [UInt8.ofNat c.toNat]) := by simp only [qSJ, a, b, d, p0, p1, ne_eq, not_true_eq_false, not_false_eq_true, and_true, true_and, and_false, false_and, and_self, if_true, if_false]
     have c1 : (0 ≤ c ∧ c < 128) = True := eq_true (by have := of_eq_true a; unfold lowP at this; omega)
     have e3 := e2 _ hst
     rw [hst] at hd
     dsimp only at hd
     simp only [XSG, YPr, XUb, KIu, Xgj, if_true, if_false, ↓reduceIte, Nat.reduceAdd, Nat.reduceSub, Nat.reduceLeDiff, Nat.reduceEqDiff, Nat.reduceMul, Nat.reduceLT, Int.reduceLT, Int.reduceLE, Int.reduceEq, CO.tmps, Opd.tmps, optT, Nat.reducePow, Nat.reduceDiv, Nat.reduceMod, Y1Q, KgP, hn, g, e3, c1, KHr, ZJO, w1, ad, b, d, f1, f2, p0, p1, Bool.not_true, Bool.not_false, decide_true, decide_false, ne_eq, not_false_eq_true, not_true_eq_false, false_implies, forall_const, and_true, true_and, if_true]
     refine ⟨(pos + 1, n, part ++ [UInt8.ofNat c.toNat]), ⟨g, by dsimp only; omega, by dsimp only; rw [List.length_append, List.length_singleton]; omega, hd.symm⟩, by dsimp only; omega, ?_⟩
     dsimp only
     exact Bt.sel [0] hh (by decide) (by simp only [YvX, FrSel, BlkSel, AV.ren, renL, AV.ok, okL, Option.some.injEq, exists_eq_left', List.length_cons, List.length_nil, Nat.reduceAdd, Nat.reduceLT, reduceCtorEq, implies_true, exists_eq', itr, XdS, and_self]) (by simp only [YvX, FrSel, BlkSel, AV.ren, renL, AV.ok, okL, Option.some.injEq, exists_eq_left', List.length_cons, List.length_nil, Nat.reduceAdd, Nat.reduceLT, reduceCtorEq, implies_true, exists_eq'])
    ·have hst : qSJ (n, part) c = none := by simp only [qSJ, a, b, d, p0, p1, ne_eq, not_true_eq_false, not_false_eq_true, and_true, true_and, and_false, false_and, and_self, if_true, if_false]
     rw [hst] at hd
     dsimp only at hd
     simp only [XSG, YPr, XUb, KIu, Xgj, if_true, if_false, ↓reduceIte, Nat.reduceAdd, Nat.reduceSub, Nat.reduceLeDiff, Nat.reduceEqDiff, Nat.reduceMul, Nat.reduceLT, Int.reduceLT, Int.reduceLE, Int.reduceEq, CO.tmps, Opd.tmps, optT, Nat.reducePow, Nat.reduceDiv, Nat.reduceMod, Y1Q, KgP, hn, g, KHr, ZJO, w1, ad, b, d, f1, f2, p0, p1, Bool.not_true, Bool.not_false, decide_true, decide_false, ne_eq, not_false_eq_true, not_true_eq_false, false_implies, forall_const, and_true, true_and, if_true]
     rw [hd]
     exact Bt.drop _ hh rfl rfl
    ·have hst : qSJ (n, part) c = some (n, part ++ [UInt8.ofNat c.toNat]) := by simp only [qSJ, a, b, d, p0, p1, ne_eq, not_true_eq_false, not_false_eq_true, and_true, true_and, and_false, false_and, and_self, if_true, if_false]
     have c1 : (0 ≤ c ∧ c < 128) = True := eq_true (by have := of_eq_true a; unfold lowP at this; omega)
     have e3 := e2 _ hst
     rw [hst] at hd
     dsimp only at hd
     simp only [XSG, YPr, XUb, KIu, Xgj, if_true, if_false, ↓reduceIte, Nat.reduceAdd, Nat.reduceSub, Nat.reduceLeDiff, Nat.reduceEqDiff, Nat.reduceMul, Nat.reduceLT, Int.reduceLT, Int.reduceLE, Int.reduceEq, CO.tmps, Opd.tmps, optT, Nat.reducePow, Nat.reduceDiv, Nat.reduceMod, Y1Q, KgP, hn, g, e3, c1, KHr, ZJO, w1, ad, b, d, f1, f2, p0, p1, Bool.not_true, Bool.not_false, decide_true, decide_false, ne_eq, not_false_eq_true, not_true_eq_false, false_implies, forall_const, and_true, true_and, if_true]
     refine ⟨(pos + 1, n, part ++ [UInt8.ofNat c.toNat]), ⟨g, by dsimp only; omega, by dsimp only; rw [List.length_append, List.length_singleton]; omega, hd.symm⟩, by dsimp only; omega, ?_⟩
     dsimp only
     exact Bt.sel [0] hh (by decide) (by simp only [YvX, FrSel, BlkSel, AV.ren, renL, AV.ok, okL, Option.some.injEq, exists_eq_left', List.length_cons, List.length_nil, Nat.reduceAdd, Nat.reduceLT, reduceCtorEq, implies_true, exists_eq', itr, XdS, and_self]) (by simp only [YvX, FrSel, BlkSel, AV.ren, renL, AV.ok, okL, Option.some.injEq, exists_eq_left', List.length_cons, List.length_nil, Nat.reduceAdd, Nat.reduceLT, reduceCtorEq, implies_true, exists_eq'])
    ·have hst : qSJ (n, part) c = some (n, part ++ [UInt8.ofNat c.toNat]) := by simp only [qSJ, a, b, d, p0, p1, ne_eq, not_true_eq_false, not_false_eq_true, and_true, true_and, and_false, false_and, and_self, if_true, if_false]
     have c1 : (0 ≤ c ∧ c < 128) = True := eq_true (by have := of_eq_true a; unfold lowP at this; omega)
     have e3 := e2 _ hst
     rw [hst] at hd
     dsimp only at hd
     simp only [XSG, YPr, XUb, KIu, Xgj, if_true, if_false, ↓reduceIte, Nat.reduceAdd, Nat.reduceSub, Nat.reduceLeDiff, Nat.reduceEqDiff, Nat.reduceMul, Nat.reduceLT, Int.reduceLT, Int.reduceLE, Int.reduceEq, CO.tmps, Opd.tmps, optT, Nat.reducePow, Nat.reduceDiv, Nat.reduceMod, Y1Q, KgP, hn, g, e3, c1, KHr, ZJO, w1, ad, b, d, f1, f2, f3, p0, p1, Bool.not_true, Bool.not_false, decide_true, decide_false, ne_eq, not_false_eq_true, not_true_eq_false, false_implies, forall_const, and_true, true_and, if_true]
     refine ⟨(pos + 1, n, part ++ [UInt8.ofNat c.toNat]), ⟨g, by dsimp only; omega, by dsimp only; rw [List.length_append, List.length_singleton]; omega, hd.symm⟩, by dsimp only; omega, ?_⟩
     dsimp only
     exact Bt.sel [0] hh (by decide) (by simp only [YvX, FrSel, BlkSel, AV.ren, renL, AV.ok, okL, Option.some.injEq, exists_eq_left', List.length_cons, List.length_nil, Nat.reduceAdd, Nat.reduceLT, reduceCtorEq, implies_true, exists_eq', itr, XdS, and_self]) (by simp only [YvX, FrSel, BlkSel, AV.ren, renL, AV.ok, okL, Option.some.injEq, exists_eq_left', List.length_cons, List.length_nil, Nat.reduceAdd, Nat.reduceLT, reduceCtorEq, implies_true, exists_eq'])
    ·have hst : qSJ (n, part) c = none := by simp only [qSJ, a, b, d, p0, p1, ne_eq, not_true_eq_false, not_false_eq_true, and_true, true_and, and_false, false_and, and_self, if_true, if_false]
     rw [hst] at hd
     dsimp only at hd
     simp only [XSG, YPr, XUb, KIu, Xgj, if_true, if_false, ↓reduceIte, Nat.reduceAdd, Nat.reduceSub, Nat.reduceLeDiff, Nat.reduceEqDiff, Nat.reduceMul, Nat.reduceLT, Int.reduceLT, Int.reduceLE, Int.reduceEq, CO.tmps, Opd.tmps, optT, Nat.reducePow, Nat.reduceDiv, Nat.reduceMod, Y1Q, KgP, hn, g, KHr, ZJO, w1, ad, b, d, f1, f2, f3, p0, p1, Bool.not_true, Bool.not_false, decide_true, decide_false, ne_eq, not_false_eq_true, not_true_eq_false, false_implies, forall_const, and_true, true_and, if_true]
     rw [hd]
     exact Bt.drop _ hh rfl rfl
    ·have hst : qSJ (n, part) c = some (n, part ++ [UInt8.ofNat c.toNat]) := by simp only [qSJ, a, b, d, p0, p1, ne_eq, not_true_eq_false, not_false_eq_true, and_true, true_and, and_false, false_and, and_self, if_true, if_false]
     have c1 : (0 ≤ c ∧ c < 128) = True := eq_true (by have := of_eq_true a; unfold lowP at this; omega)
     have e3 := e2 _ hst
     rw [hst] at hd
     dsimp only at hd
     simp only [XSG, YPr, XUb, KIu, Xgj, if_true, if_false, ↓reduceIte, Nat.reduceAdd, Nat.reduceSub, Nat.reduceLeDiff, Nat.reduceEqDiff, Nat.reduceMul, Nat.reduceLT, Int.reduceLT, Int.reduceLE, Int.reduceEq, CO.tmps, Opd.tmps, optT, Nat.reducePow, Nat.reduceDiv, Nat.reduceMod, Y1Q, KgP, hn, g, e3, c1, KHr, ZJO, w1, ad, b, d, f1, f2, f3, p0, p1, Bool.not_true, Bool.not_false, decide_true, decide_false, ne_eq, not_false_eq_true, not_true_eq_false, false_implies, forall_const, and_true, true_and, if_true]
     refine ⟨(pos + 1, n, part ++ [UInt8.ofNat c.toNat]), ⟨g, by dsimp only; omega, by dsimp only; rw [List.length_append, List.length_singleton]; omega, hd.symm⟩, by dsimp only; omega, ?_⟩
     dsimp only
     exact Bt.sel [0] hh (by decide) (by simp only [YvX, FrSel, BlkSel, AV.ren, renL, AV.ok, okL, Option.some.injEq, exists_eq_left', List.length_cons, List.length_nil, Nat.reduceAdd, Nat.reduceLT, reduceCtorEq, implies_true, exists_eq', itr, XdS, and_self]) (by simp only [YvX, FrSel, BlkSel, AV.ren, renL, AV.ok, okL, Option.some.injEq, exists_eq_left', List.length_cons, List.length_nil, Nat.reduceAdd, Nat.reduceLT, reduceCtorEq, implies_true, exists_eq'])
    ·have hst : qSJ (n, part) c = none := by simp only [qSJ, a, b, d, p0, p1, ne_eq, not_true_eq_false, not_false_eq_true, and_true, true_and, and_false, false_and, and_self, if_true, if_false]
     rw [hst] at hd
     dsimp only at hd
     simp only [XSG, YPr, XUb, KIu, Xgj, if_true, if_false, ↓reduceIte, Nat.reduceAdd, Nat.reduceSub, Nat.reduceLeDiff, Nat.reduceEqDiff, Nat.reduceMul, Nat.reduceLT, Int.reduceLT, Int.reduceLE, Int.reduceEq, CO.tmps, Opd.tmps, optT, Nat.reducePow, Nat.reduceDiv, Nat.reduceMod, Y1Q, KgP, hn, g, KHr, ZJO, w1, ad, b, d, f1, f2, f3, f4, p0, p1, Bool.not_true, Bool.not_false, decide_true, decide_false, ne_eq, not_false_eq_true, not_true_eq_false, false_implies, forall_const, and_true, true_and, if_true]
     rw [hd]
     exact Bt.drop _ hh rfl rfl
    ·have hst : qSJ (n, part) c = none := by simp only [qSJ, a, b, d, p0, p1, ne_eq, not_true_eq_false, not_false_eq_true, and_true, true_and, and_false, false_and, and_self, if_true, if_false]
     rw [hst] at hd
     dsimp only at hd
     simp only [XSG, YPr, XUb, KIu, Xgj, if_true, if_false, ↓reduceIte, Nat.reduceAdd, Nat.reduceSub, Nat.reduceLeDiff, Nat.reduceEqDiff, Nat.reduceMul, Nat.reduceLT, Int.reduceLT, Int.reduceLE, Int.reduceEq, CO.tmps, Opd.tmps, optT, Nat.reducePow, Nat.reduceDiv, Nat.reduceMod, Y1Q, KgP, hn, g, KHr, ZJO, w1, ad, b, d, f1, f2, f3, f4, p0, p1, Bool.not_true, Bool.not_false, decide_true, decide_false, ne_eq, not_false_eq_true, not_true_eq_false, false_implies, forall_const, and_true, true_and, if_true]
     rw [hd]
     exact Bt.drop _ hh rfl rfl
    ·have hst : qSJ (n, part) c = none := by simp only [qSJ, a, b, d, p0, p1, ne_eq, not_true_eq_false, not_false_eq_true, and_true, true_and, and_false, false_and, and_self, if_true, if_false]
     rw [hst] at hd
     dsimp only at hd
     simp only [XSG, YPr, XUb, KIu, Xgj, if_true, if_false, ↓reduceIte, Nat.reduceAdd, Nat.reduceSub, Nat.reduceLeDiff, Nat.reduceEqDiff, Nat.reduceMul, Nat.reduceLT, Int.reduceLT, Int.reduceLE, Int.reduceEq, CO.tmps, Opd.tmps, optT, Nat.reducePow, Nat.reduceDiv, Nat.reduceMod, Y1Q, KgP, hn, g, KHr, ZJO, w1, ad, b, d, f1, f2, f3, f4, p0, p1, Bool.not_true, Bool.not_false, decide_true, decide_false, ne_eq, not_false_eq_true, not_true_eq_false, false_implies, forall_const, and_true, true_and, if_true]
     rw [hd]
     exact Bt.drop _ hh rfl rfl
    ·have hst : qSJ (n, part) c = none := by simp only [qSJ, a, b, d, p0, p1, ne_eq, not_true_eq_false, not_false_eq_true, and_true, true_and, and_false, false_and, and_self, if_true, if_false]
     rw [hst] at hd
     dsimp only at hd
     simp only [XSG, YPr, XUb, KIu, Xgj, if_true, if_false, ↓reduceIte, Nat.reduceAdd, Nat.reduceSub, Nat.reduceLeDiff, Nat.reduceEqDiff, Nat.reduceMul, Nat.reduceLT, Int.reduceLT, Int.reduceLE, Int.reduceEq, CO.tmps, Opd.tmps, optT, Nat.reducePow, Nat.reduceDiv, Nat.reduceMod, Y1Q, KgP, hn, g, KHr, ZJO, w1, ad, b, d, f1, f2, f3, p0, p1, Bool.not_true, Bool.not_false, decide_true, decide_false, ne_eq, not_false_eq_true, not_true_eq_false, false_implies, forall_const, and_true, true_and, if_true]
     rw [hd]
     exact Bt.drop _ hh rfl rfl
    ·have hst : qSJ (n, part) c = none := by simp only [qSJ, a, b, d, p0, p1, ne_eq, not_true_eq_false, not_false_eq_true, and_true, true_and, and_false, false_and, and_self, if_true, if_false]
     rw [hst] at hd
     dsimp only at hd
     simp only [XSG, YPr, XUb, KIu, Xgj, if_true, if_false, ↓reduceIte, Nat.reduceAdd, Nat.reduceSub, Nat.reduceLeDiff, Nat.reduceEqDiff, Nat.reduceMul, Nat.reduceLT, Int.reduceLT, Int.reduceLE, Int.reduceEq, CO.tmps, Opd.tmps, optT, Nat.reducePow, Nat.reduceDiv, Nat.reduceMod, Y1Q, KgP, hn, g, KHr, ZJO, w1, ad, b, d, f1, f2, f3, p0, p1, Bool.not_true, Bool.not_false, decide_true, decide_false, ne_eq, not_false_eq_true, not_true_eq_false, false_implies, forall_const, and_true, true_and, if_true]
     rw [hd]
     exact Bt.drop _ hh rfl rfl
    ·have hst : qSJ (n, part) c = none := by simp only [qSJ, a, b, d, p0, p1, ne_eq, not_true_eq_false, not_false_eq_true, and_true, true_and, and_false, false_and, and_self, if_true, if_false]
     rw [hst] at hd
     dsimp only at hd
     simp only [XSG, YPr, XUb, KIu, Xgj, if_true, if_false, ↓reduceIte, Nat.reduceAdd, Nat.reduceSub, Nat.reduceLeDiff, Nat.reduceEqDiff, Nat.reduceMul, Nat.reduceLT, Int.reduceLT, Int.reduceLE, Int.reduceEq, CO.tmps, Opd.tmps, optT, Nat.reducePow, Nat.reduceDiv, Nat.reduceMod, Y1Q, KgP, hn, g, KHr, ZJO, w1, ad, b, d, f1, f2, f3, p0, p1, Bool.not_true, Bool.not_false, decide_true, decide_false, ne_eq, not_false_eq_true, not_true_eq_false, false_implies, forall_const, and_true, true_and, if_true]
     rw [hd]
     exact Bt.drop _ hh rfl rfl
    ·have hst : qSJ (n, part) c = none := by simp only [qSJ, a, b, d, p0, p1, ne_eq, not_true_eq_false, not_false_eq_true, and_true, true_and, and_false, false_and, and_self, if_true, if_false]
     rw [hst] at hd
     dsimp only at hd
     simp only [XSG, YPr, XUb, KIu, Xgj, if_true, if_false, ↓reduceIte, Nat.reduceAdd, Nat.reduceSub, Nat.reduceLeDiff, Nat.reduceEqDiff, Nat.reduceMul, Nat.reduceLT, Int.reduceLT, Int.reduceLE, Int.reduceEq, CO.tmps, Opd.tmps, optT, Nat.reducePow, Nat.reduceDiv, Nat.reduceMod, Y1Q, KgP, hn, g, KHr, ZJO, w1, ad, b, d, f1, f2, p0, p1, Bool.not_true, Bool.not_false, decide_true, decide_false, ne_eq, not_false_eq_true, not_true_eq_false, false_implies, forall_const, and_true, true_and, if_true]
     rw [hd]
     exact Bt.drop _ hh rfl rfl
    ·have hst : qSJ (n, part) c = some (n + 1, []) := by simp only [qSJ, a, b, d, p0, p1, ne_eq, not_true_eq_false, not_false_eq_true, and_true, true_and, and_false, false_and, and_self, if_true, if_false]
     have e3 := e2 _ hst
     rw [hst] at hd
     dsimp only at hd
     simp only [XSG, YPr, XUb, KIu, Xgj, if_true, if_false, ↓reduceIte, Nat.reduceAdd, Nat.reduceSub, Nat.reduceLeDiff, Nat.reduceEqDiff, Nat.reduceMul, Nat.reduceLT, Int.reduceLT, Int.reduceLE, Int.reduceEq, CO.tmps, Opd.tmps, optT, Nat.reducePow, Nat.reduceDiv, Nat.reduceMod, Y1Q, KgP, hn, g, e3, KHr, ZJO, w1, ad, b, d, f1, f2, p0, p1, Bool.not_true, Bool.not_false, decide_true, decide_false, ne_eq, not_false_eq_true, not_true_eq_false, false_implies, forall_const, and_true, true_and, if_true]
     refine ⟨(pos + 1, n + 1, []), ⟨g, by dsimp only; omega, by dsimp only; simp, hd.symm⟩, by dsimp only; omega, ?_⟩
     dsimp only
     exact Bt.sel [0] hh (by decide) (by simp only [YvX, FrSel, BlkSel, AV.ren, renL, AV.ok, okL, Option.some.injEq, exists_eq_left', List.length_cons, List.length_nil, Nat.reduceAdd, Nat.reduceLT, reduceCtorEq, implies_true, exists_eq', itr, XdS, and_self]) (by simp only [YvX, FrSel, BlkSel, AV.ren, renL, AV.ok, okL, Option.some.injEq, exists_eq_left', List.length_cons, List.length_nil, Nat.reduceAdd, Nat.reduceLT, reduceCtorEq, implies_true, exists_eq'])
    ·have hst : qSJ (n, part) c = some (n + 1, []) := by simp only [qSJ, a, b, d, p0, p1, ne_eq, not_true_eq_false, not_false_eq_true, and_true, true_and, and_false, false_and, and_self, if_true, if_false]
     have e3 := e2 _ hst
     rw [hst] at hd
     dsimp only at hd
     simp only [XSG, YPr, XUb, KIu, Xgj, if_true, if_false, ↓reduceIte, Nat.reduceAdd, Nat.reduceSub, Nat.reduceLeDiff, Nat.reduceEqDiff, Nat.reduceMul, Nat.reduceLT, Int.reduceLT, Int.reduceLE, Int.reduceEq, CO.tmps, Opd.tmps, optT, Nat.reducePow, Nat.reduceDiv, Nat.reduceMod, Y1Q, KgP, hn, g, e3, KHr, ZJO, w1, ad, b, d, f1, f2, p0, p1, Bool.not_true, Bool.not_false, decide_true, decide_false, ne_eq, not_false_eq_true, not_true_eq_false, false_implies, forall_const, and_true, true_and, if_true]
     refine ⟨(pos + 1, n + 1, []), ⟨g, by dsimp only; omega, by dsimp only; simp, hd.symm⟩, by dsimp only; omega, ?_⟩
     dsimp only
     exact Bt.sel [0] hh (by decide) (by simp only [YvX, FrSel, BlkSel, AV.ren, renL, AV.ok, okL, Option.some.injEq, exists_eq_left', List.length_cons, List.length_nil, Nat.reduceAdd, Nat.reduceLT, reduceCtorEq, implies_true, exists_eq', itr, XdS, and_self]) (by simp only [YvX, FrSel, BlkSel, AV.ren, renL, AV.ok, okL, Option.some.injEq, exists_eq_left', List.length_cons, List.length_nil, Nat.reduceAdd, Nat.reduceLT, reduceCtorEq, implies_true, exists_eq'])
    ·have hst : qSJ (n, part) c = some (n, [42]) := by simp only [qSJ, a, b, d, p0, p1, ne_eq, not_true_eq_false, not_false_eq_true, and_true, true_and, and_false, false_and, and_self, if_true, if_false]
     have e3 := e2 _ hst
     rw [hst] at hd
     dsimp only at hd
     simp only [XSG, YPr, XUb, KIu, Xgj, if_true, if_false, ↓reduceIte, Nat.reduceAdd, Nat.reduceSub, Nat.reduceLeDiff, Nat.reduceEqDiff, Nat.reduceMul, Nat.reduceLT, Int.reduceLT, Int.reduceLE, Int.reduceEq, CO.tmps, Opd.tmps, optT, Nat.reducePow, Nat.reduceDiv, Nat.reduceMod, Y1Q, KgP, hn, g, e3, KHr, ZJO, w1, ad, b, d, f1, f2, p0, p1, Bool.not_true, Bool.not_false, decide_true, decide_false, ne_eq, not_false_eq_true, not_true_eq_false, false_implies, forall_const, and_true, true_and, if_true]
     refine ⟨(pos + 1, n, [42]), ⟨g, by dsimp only; omega, by dsimp only; simp, hd.symm⟩, by dsimp only; omega, ?_⟩
     dsimp only
     exact Bt.sel [0] hh (by decide) (by simp only [YvX, FrSel, BlkSel, AV.ren, renL, AV.ok, okL, Option.some.injEq, exists_eq_left', List.length_cons, List.length_nil, Nat.reduceAdd, Nat.reduceLT, reduceCtorEq, implies_true, exists_eq', itr, XdS, and_self]) (by simp only [YvX, FrSel, BlkSel, AV.ren, renL, AV.ok, okL, Option.some.injEq, exists_eq_left', List.length_cons, List.length_nil, Nat.reduceAdd, Nat.reduceLT, reduceCtorEq, implies_true, exists_eq'])
    ·have hst : qSJ (n, part) c = none := by simp only [qSJ, a, b, d, p0, p1, ne_eq, not_true_eq_false, not_false_eq_true, and_true, true_and, and_false, false_and, and_self, if_true, if_false]
     rw [hst] at hd
     dsimp only at hd
     simp only [XSG, YPr, XUb, KIu, Xgj, if_true, if_false, ↓reduceIte, Nat.reduceAdd, Nat.reduceSub, Nat.reduceLeDiff, Nat.reduceEqDiff, Nat.reduceMul, Nat.reduceLT, Int.reduceLT, Int.reduceLE, Int.reduceEq, CO.tmps, Opd.tmps, optT, Nat.reducePow, Nat.reduceDiv, Nat.reduceMod, Y1Q, KgP, hn, g, KHr, ZJO, w1, ad, b, d, f1, f2, p0, p1, Bool.not_true, Bool.not_false, decide_true, decide_false, ne_eq, not_false_eq_true, not_true_eq_false, false_implies, forall_const, and_true, true_and, if_true]
     rw [hd]
     exact Bt.drop _ hh rfl rfl
    ·have hst : qSJ (n, part) c = none := by simp only [qSJ, a, b, d, p0, p1, ne_eq, not_true_eq_false, not_false_eq_true, and_true, true_and, and_false, false_and, and_self, if_true, if_false]
     rw [hst] at hd
     dsimp only at hd
     simp only [XSG, YPr, XUb, KIu, Xgj, if_true, if_false, ↓reduceIte, Nat.reduceAdd, Nat.reduceSub, Nat.reduceLeDiff, Nat.reduceEqDiff, Nat.reduceMul, Nat.reduceLT, Int.reduceLT, Int.reduceLE, Int.reduceEq, CO.tmps, Opd.tmps, optT, Nat.reducePow, Nat.reduceDiv, Nat.reduceMod, Y1Q, KgP, hn, g, KHr, ZJO, w1, ad, b, d, f1, f2, p0, p1, Bool.not_true, Bool.not_false, decide_true, decide_false, ne_eq, not_false_eq_true, not_true_eq_false, false_implies, forall_const, and_true, true_and, if_true]
     rw [hd]
     exact Bt.drop _ hh rfl rfl
    ·have hst : qSJ (n, part) c = none := by simp only [qSJ, a, b, d, p0, p1, ne_eq, not_true_eq_false, not_false_eq_true, and_true, true_and, and_false, false_and, and_self, if_true, if_false]
     rw [hst] at hd
     dsimp only at hd
     simp only [XSG, YPr, XUb, KIu, Xgj, if_true, if_false, ↓reduceIte, Nat.reduceAdd, Nat.reduceSub, Nat.reduceLeDiff, Nat.reduceEqDiff, Nat.reduceMul, Nat.reduceLT, Int.reduceLT, Int.reduceLE, Int.reduceEq, CO.tmps, Opd.tmps, optT, Nat.reducePow, Nat.reduceDiv, Nat.reduceMod, Y1Q, KgP, hn, g, KHr, ZJO, w1, ad, b, d, f1, f2, p0, p1, Bool.not_true, Bool.not_false, decide_true, decide_false, ne_eq, not_false_eq_true, not_true_eq_false, false_implies, forall_const, and_true, true_and, if_true]
     rw [hd]
     exact Bt.drop _ hh rfl rfl
    ·have hst : qSJ (n, part) c = none := by simp only [qSJ, a, b, d, p0, p1, ne_eq, not_true_eq_false, not_false_eq_true, and_true, true_and, and_false, false_and, and_self, if_true, if_false]
     rw [hst] at hd
     dsimp only at hd
     simp only [XSG, YPr, XUb, KIu, Xgj, if_true, if_false, ↓reduceIte, Nat.reduceAdd, Nat.reduceSub, Nat.reduceLeDiff, Nat.reduceEqDiff, Nat.reduceMul, Nat.reduceLT, Int.reduceLT, Int.reduceLE, Int.reduceEq, CO.tmps, Opd.tmps, optT, Nat.reducePow, Nat.reduceDiv, Nat.reduceMod, Y1Q, KgP, hn, g, KHr, ZJO, w1, ad, b, d, f1, f2, p0, p1, Bool.not_true, Bool.not_false, decide_true, decide_false, ne_eq, not_false_eq_true, not_true_eq_false, false_implies, forall_const, and_true, true_and, if_true]
     rw [hd]
     exact Bt.drop _ hh rfl rfl
    ·have hst : qSJ (n, part) c = none := by simp only [qSJ, a, b, d, p0, p1, ne_eq, not_true_eq_false, not_false_eq_true, and_true, true_and, and_false, false_and, and_self, if_true, if_false]
     rw [hst] at hd
     dsimp only at hd
     simp only [XSG, YPr, XUb, KIu, Xgj, if_true, if_false, ↓reduceIte, Nat.reduceAdd, Nat.reduceSub, Nat.reduceLeDiff, Nat.reduceEqDiff, Nat.reduceMul, Nat.reduceLT, Int.reduceLT, Int.reduceLE, Int.reduceEq, CO.tmps, Opd.tmps, optT, Nat.reducePow, Nat.reduceDiv, Nat.reduceMod, Y1Q, KgP, hn, g, KHr, ZJO, w1, ad, b, d, f1, f2, p0, p1, Bool.not_true, Bool.not_false, decide_true, decide_false, ne_eq, not_false_eq_true, not_true_eq_false, false_implies, forall_const, and_true, true_and, if_true]
     rw [hd]
     exact Bt.drop _ hh rfl rfl
   ·have hpos : pos = s.length := by omega
    have hd : runB qSJ KNb s 0 (0, []) = if KNb (n, part) then none else some s.length := by
     rw [← h4, hpos, List.drop_length]
     rfl
    rw [hd]
    rcases emE ((n : Int) = 1) with a | a
    ·have a' : n = 1 := by have := of_eq_true a; omega
     rcases emE (part = []) with b | b
     ·have hE : KNb (n, part) = false := decide_eq_false fun z => z.2 (of_eq_true b)
      rw [hE]
      simp only [XSG, YPr, XUb, KIu, Xgj, if_true, if_false, ↓reduceIte, Nat.reduceAdd, Nat.reduceSub, Nat.reduceLeDiff, Nat.reduceEqDiff, Nat.reduceMul, Nat.reduceLT, Int.reduceLT, Int.reduceLE, Int.reduceEq, CO.tmps, Opd.tmps, optT, Nat.reducePow, Nat.reduceDiv, Nat.reduceMod, Y1Q, hn, g, a, b, ZJO, decide_true, decide_false, ne_eq, not_false_eq_true, not_true_eq_false, false_implies, forall_const, and_true, true_and]
      exact Bt.drop _ hh rfl rfl
     ·have hE : KNb (n, part) = true := decide_eq_true ⟨a', of_eq_false b⟩
      rw [hE]
      simp only [XSG, YPr, XUb, KIu, Xgj, if_true, if_false, ↓reduceIte, Nat.reduceAdd, Nat.reduceSub, Nat.reduceLeDiff, Nat.reduceEqDiff, Nat.reduceMul, Nat.reduceLT, Int.reduceLT, Int.reduceLE, Int.reduceEq, CO.tmps, Opd.tmps, optT, Nat.reducePow, Nat.reduceDiv, Nat.reduceMod, Y1Q, hn, g, a, b, ZJO, decide_true, decide_false, ne_eq, not_false_eq_true, not_true_eq_false, false_implies, forall_const, and_true, true_and]
      exact Bt.drop _ hh rfl rfl
    ·have hE : KNb (n, part) = false := decide_eq_false fun z => of_eq_false a (by have := z.1; dsimp only at this; omega)
     rw [hE]
     simp only [XSG, YPr, XUb, KIu, Xgj, if_true, if_false, ↓reduceIte, Nat.reduceAdd, Nat.reduceSub, Nat.reduceLeDiff, Nat.reduceEqDiff, Nat.reduceMul, Nat.reduceLT, Int.reduceLT, Int.reduceLE, Int.reduceEq, CO.tmps, Opd.tmps, optT, Nat.reducePow, Nat.reduceDiv, Nat.reduceMod, Y1Q, hn, g, a, ZJO, decide_true, decide_false, ne_eq, not_false_eq_true, not_true_eq_false, false_implies, forall_const, and_true, true_and]
     exact Bt.drop _ hh rfl rfl
  ·cases e
 ·cases e
end Go.Proofs.YthllkjhommnocaaDoor
end
