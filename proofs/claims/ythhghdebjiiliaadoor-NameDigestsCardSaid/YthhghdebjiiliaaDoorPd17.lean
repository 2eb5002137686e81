/- Part 17 of what the laws' proofs rest on. No condition. -/
import Derived.Test.YthhghdebjiiliaaDoorPd16
set_option linter.all false
section
namespace Go.Proofs.YthhghdebjiiliaaDoor
set_option maxRecDepth 100000
set_option maxHeartbeats 4000000
def digI (c : Int) : Int := if 48 ≤ c ∧ c ≤ 57 then c - 48 else if 97 ≤ c ∧ c ≤ 102 then c - 97 + 10 else -1
def zEq : List AV → List AB → Option (AV × List AB)
 | [.i .u8 c], h => if 0 ≤ c ∧ c ≤ 255 then some (.i .i64 (digI c), h) else none
 | _, _ => none
theorem J10 : Spec Tryd.prog 27 zEq := by
  intro args h v h' e
  unfold zEq at e
  split at e
  · rename_i c
    split at e
    · rename_i hc
      cases e
      refine FnAt.c (FnAt.run (by kernel_rfl) (T := ⟨[], []⟩) ⟨trivial, trivial⟩ Tryd.func27 sw27 fun ho hh => ?_)
      unfold w27
      rcases emT (48 ≤ c) with ⟨d1, c1⟩ | ⟨d1, c1⟩ <;> rcases emT (c ≤ 57) with ⟨d2, c2⟩ | ⟨d2, c2⟩ <;> rcases emT (97 ≤ c) with ⟨d3, c3⟩ | ⟨d3, c3⟩ <;> rcases emT (c ≤ 102) with ⟨d4, c4⟩ | ⟨d4, c4⟩ <;> (first | (exfalso; omega) | skip)
      all_goals
        first
          | (have w1 : IntKind.u8.wrap (c - 48) = c - 48 := KLb (by omega) (by omega)
             have w2 : IntKind.i64.wrap (c - 48) = c - 48 := Jeb (by unfold In64; omega)
             simp only [XSG, YPr, XUb, KIu, Xgj, if_true, if_false, ↓reduceIte, Nat.reduceAdd, Nat.reduceSub, Nat.reduceLeDiff, Nat.reduceEqDiff, Nat.reduceMul, Nat.reduceLT, Int.reduceLT, Int.reduceLE, Int.reduceEq, CO.tmps, Opd.tmps, optT, Nat.reducePow, Nat.reduceDiv, Nat.reduceMod, c1, c2, c3, c4, w1, w2, Y1l, Option.map_some, decide_true, decide_false, ne_eq, not_false_eq_true, not_true_eq_false, false_implies, forall_const, and_true, true_and]
             exact Bt.dropI _ hh (by unfold digI; omega))
          | (have w1 : IntKind.u8.wrap (c - 97) = c - 97 := KLb (by omega) (by omega)
             have w2 : IntKind.i64.wrap (c - 97) = c - 97 := Jeb (by unfold In64; omega)
             have w3 : IntKind.i64.wrap (c - 97 + 10) = c - 97 + 10 := Jeb (by unfold In64; omega)
             simp only [XSG, YPr, XUb, KIu, Xgj, if_true, if_false, ↓reduceIte, Nat.reduceAdd, Nat.reduceSub, Nat.reduceLeDiff, Nat.reduceEqDiff, Nat.reduceMul, Nat.reduceLT, Int.reduceLT, Int.reduceLE, Int.reduceEq, CO.tmps, Opd.tmps, optT, Nat.reducePow, Nat.reduceDiv, Nat.reduceMod, c1, c2, c3, c4, w1, w2, w3, Y1l, Option.map_some, decide_true, decide_false, ne_eq, not_false_eq_true, not_true_eq_false, false_implies, forall_const, and_true, true_and]
             exact Bt.dropI _ hh (by unfold digI; omega))
          | (simp only [XSG, YPr, XUb, KIu, Xgj, if_true, if_false, ↓reduceIte, Nat.reduceAdd, Nat.reduceSub, Nat.reduceLeDiff, Nat.reduceEqDiff, Nat.reduceMul, Nat.reduceLT, Int.reduceLT, Int.reduceLE, Int.reduceEq, CO.tmps, Opd.tmps, optT, Nat.reducePow, Nat.reduceDiv, Nat.reduceMod, c1, c2, c3, c4, Y1l, Option.map_some, decide_true, decide_false, ne_eq, not_false_eq_true, not_true_eq_false, false_implies, forall_const, and_true, true_and]
             exact Bt.dropI _ hh (by unfold digI; omega))
    · cases e
  · cases e
def stq (i : Nat) : QX := (QlD.drop i, 64 - (i - 7))
def XYs (s : List UInt8) (k : Nat) : List AV := if k % 2 = 0 then QMW (idBs s) (k / 2) else qZZ (idBs s) (k / 2) (hexD (s.getD (7 + 2 * (k / 2)) 0))
theorem Ka5 (s : List UInt8) {k : Nat} (h : k < 64) : XYs s k = qZZ (idBs s) (k / 2) (if k % 2 = 0 then 0 else hexD (s.getD (6 + k) 0)) := by
 unfold XYs
 by_cases hk : k % 2 = 0
 ·rw [if_pos hk, if_pos hk, XPP _ (by omega)]
 ·rw [if_neg hk, if_neg hk, show 7 + 2 * (k / 2) = 6 + k from by omega]
theorem Ygt (s : List UInt8) {k : Nat} (h : k < 64) (h0 : k % 2 = 1 → hexD (s.getD (6 + k) 0) < 16) (h1 : hexD (s.getD (7 + k) 0) < 16) : qZZ (idBs s) (k / 2) ((if k % 2 = 0 then 0 else hexD (s.getD (6 + k) 0)) * 16 + hexD (s.getD (7 + k) 0)) = XYs s (k + 1) := by
 unfold XYs
 by_cases hk : k % 2 = 0
 ·rw [if_pos hk, if_neg (by omega), show (k + 1) / 2 = k / 2 from by omega, show 7 + 2 * (k / 2) = 7 + k from by omega, Nat.zero_mul, Nat.zero_add]
 ·rw [if_neg hk, if_pos (by omega), show (k + 1) / 2 = k / 2 + 1 from by omega]
  have h0 := h0 (by omega)
  have := JpI s (i := k / 2) (by omega)
  rw [show 7 + 2 * (k / 2) = 6 + k from by omega, show 8 + 2 * (k / 2) = 7 + k from by omega] at this
  rw [← zoY _ (by omega) (X7v s), this, UInt8.toNat_ofNat', Nat.mod_eq_of_lt (by omega)]
theorem ztg {b : UInt8} : (hexP (b.toNat : Int) → digI (b.toNat : Int) = (hexD b : Int)) ∧ (¬ hexP (b.toNat : Int) → digI (b.toNat : Int) = -1) := by
 unfold hexP digI hexD
 constructor
 ·intro h
  rcases h with h | h
  ·rw [if_pos (by omega), if_pos (by omega)]; omega
  ·rw [if_neg (by omega), if_pos (by omega), if_neg (by omega)]; omega
 ·intro h
  rw [if_neg (by omega), if_neg (by omega)]
theorem YwZ {h : List AB} (hz : h.map AB.freeze = h) {s : List UInt8} (hs : s.length ≤ 1000000) : FnAt Tryd.prog 10 [.s s] h (idV s) h := by
 refine FnAt.run (by kernel_rfl) (T := ⟨[⟨28, qdi, fun _ => []⟩, ⟨27, zEq, fun _ => []⟩], []⟩) ⟨⟨qxG, J10, trivial⟩, trivial⟩ Tryd.func10 sw10 fun ho hh => ?_
 unfold w10 idV idC
 have hl7 : (([115, 104, 97, 50, 53, 54, 58] : List UInt8).length : Int) = 7 := rfl
 have hL := X7v s
 simp only [XSG, YPr, XUb, KIu, Xgj, if_true, if_false, ↓reduceIte, Nat.reduceAdd, Nat.reduceSub, Nat.reduceLeDiff, Nat.reduceEqDiff, Nat.reduceMul, Nat.reduceLT, Int.reduceLT, Int.reduceLE, Int.reduceEq, CO.tmps, Opd.tmps, optT, Nat.reducePow, Nat.reduceDiv, Nat.reduceMod, decide_true, decide_false, ne_eq, not_false_eq_true, not_true_eq_false, false_implies, forall_const, and_true, true_and]
 refine q2Y (S := Nat) (fun i => 71 - i) (fun i => [.s s] ++ tp 1 ++ [.p (h.length + 0) 0, .p (h.length + 1) 0, .s [115, 104, 97, 50, 53, 54, 58], .p (h.length + 2) 0, .i .i64 (i : Int)] ++ tp 78) (fun i => h ++ [.blk true true [.i .u8 0, .i .u8 0, .i .u8 0, .i .u8 0, .i .u8 0, .i .u8 0, .i .u8 0, .i .u8 0, .i .u8 0, .i .u8 0, .i .u8 0, .i .u8 0, .i .u8 0, .i .u8 0, .i .u8 0, .i .u8 0, .i .u8 0, .i .u8 0, .i .u8 0, .i .u8 0, .i .u8 0, .i .u8 0, .i .u8 0, .i .u8 0, .i .u8 0, .i .u8 0, .i .u8 0, .i .u8 0, .i .u8 0, .i .u8 0, .i .u8 0, .i .u8 0], .blk true true [.i .i64 0, .i .i64 0], .blk true true (XYs s (i - 7))]) (fun i => (i ≤ 71 ∧ i ≤ s.length) ∧ runB YfK Y9b (s.drop i) i (stq i) = idF s ∧ ∀ k, k < i - 7 → hexP ((s.getD (7 + k) 0).toNat : Int)) 0 ⟨⟨Nat.zero_le _, Nat.zero_le _⟩, rfl, fun k hk => by omega⟩ (Bt.wk (by simp only [XUb, Xgj, if_true, if_false, reduceIte, Nat.reduceAdd, Nat.reduceSub, Nat.reduceLeDiff, Nat.reduceEqDiff, Nat.reduceMul, Nat.reduceLT, Int.reduceLT, Int.reduceLE, Int.reduceEq])) fun i hi => ?_
 obtain ⟨⟨hi, hil⟩, hr, hx⟩ := hi
 have w71 : IntKind.i64.wrap (7 + 64) = 71 := by decide
 by_cases g5 : i < 71
 case neg =>
  obtain rfl : i = 71 := by omega
  have g5' : (((71 : Nat) : Int) < 71) = False := eq_false (by decide)
  have hq : stq 71 = ([], 0) := rfl
  rw [hq] at hr
  by_cases g8 : 71 < s.length
  ·have g8' : ((71 : Int) < (s.length : Int)) = True := eq_true (by omega)
   have : idF s = some 71 := by
    rw [← hr, Qit g8, show YfK ([], 0) ((s[71]).toNat : Int) = none from by unfold YfK; exact if_neg (fun z => absurd z.1 (Nat.lt_irrefl 0))]
    split
    ·rfl
    ·rename_i q e
     split at e <;> cases e
   rw [this, if_neg (by simp)]
   simp only [XUb, KIu, Xgj, if_true, if_false, ↓reduceIte, Nat.reduceAdd, Nat.reduceSub, Nat.reduceLeDiff, Nat.reduceEqDiff, Nat.reduceMul, Nat.reduceLT, Int.reduceLT, Int.reduceLE, Int.reduceEq, CO.tmps, Opd.tmps, optT, Nat.reducePow, Nat.reduceDiv, Nat.reduceMod, J9H, qiT, hl7, w71, g5', g8', qdi, fltA, Kat, decide_true, decide_false, ne_eq, not_false_eq_true, not_true_eq_false, false_implies, forall_const, and_true, true_and]
   exact Bt.drop _ hh rfl rfl
  ·have g8' : ((71 : Int) < (s.length : Int)) = False := eq_false (by omega)
   have : idF s = none := by
    rw [← hr, List.drop_eq_nil_of_le (by omega)]
    rfl
   have hK : XYs s (71 - 7) = (idBs s).map u8A := by
    show QMW (idBs s) 32 = _
    exact JW7 _ hL
   rw [this, if_pos rfl, hK]
   obtain ⟨b1, b2, b3, b4, b5⟩ := qiS hL
   have b6 : ((32 : Nat) ≤ 32) = True := eq_true (Nat.le_refl _)
   have b7 : over [.i .u8 0, .i .u8 0, .i .u8 0, .i .u8 0, .i .u8 0, .i .u8 0, .i .u8 0, .i .u8 0, .i .u8 0, .i .u8 0, .i .u8 0, .i .u8 0, .i .u8 0, .i .u8 0, .i .u8 0, .i .u8 0, .i .u8 0, .i .u8 0, .i .u8 0, .i .u8 0, .i .u8 0, .i .u8 0, .i .u8 0, .i .u8 0, .i .u8 0, .i .u8 0, .i .u8 0, .i .u8 0, .i .u8 0, .i .u8 0, .i .u8 0, .i .u8 0] 0 ((idBs s).map u8A) = (idBs s).map u8A := by
    simp only [over, List.take_zero, List.nil_append, Nat.zero_add]
    rw [List.drop_eq_nil_of_le (by rw [b1]; exact Nat.le_refl _), List.append_nil]
   simp only [XUb, KIu, Xgj, if_true, if_false, ↓reduceIte, Nat.reduceAdd, Nat.reduceSub, Nat.reduceLeDiff, Nat.reduceEqDiff, Nat.reduceMul, Nat.reduceLT, Int.reduceLT, Int.reduceLE, Int.reduceEq, CO.tmps, Opd.tmps, optT, Nat.reducePow, Nat.reduceDiv, Nat.reduceMod, J9H, qiT, hl7, w71, g5', g8', qdi, fltA, b1, b2, b3, b4, b5, b6, b7, Kat, decide_true, decide_false, ne_eq, not_false_eq_true, not_true_eq_false, false_implies, forall_const, and_true, true_and]
   exact Bt.drop _ hh rfl (by simp [AV.ok, okL, b4])
 have g5' : ((i : Int) < 71) = True := eq_true (by omega)
 have w1 : IntKind.i64.wrap ((i : Int) + 1) = ((i + 1 : Nat) : Int) := Jeb (by unfold In64; omega)
 by_cases g6 : i < s.length
 case neg =>
  have g6' : ((s.length : Int) ≤ (i : Int)) = True := eq_true (by omega)
  have : idF s = some i := by
   rw [← hr, List.drop_eq_nil_of_le (by omega)]
   have : Y9b (stq i) = false := by
    unfold Y9b stq
    by_cases h7 : i < 7
    ·have : QlD.drop i = QlD[i]'h7 :: QlD.drop (i + 1) := List.drop_eq_getElem_cons h7
     simp only [this]
    ·have : QlD.drop i = [] := List.drop_eq_nil_of_le (by unfold QlD; simp; omega)
     simp only [this]
     exact decide_eq_false (by omega)
   simp only [runB, this]
   rfl
  rw [this, if_neg (by simp)]
  simp only [XUb, KIu, Xgj, if_true, if_false, ↓reduceIte, Nat.reduceAdd, Nat.reduceSub, Nat.reduceLeDiff, Nat.reduceEqDiff, Nat.reduceMul, Nat.reduceLT, Int.reduceLT, Int.reduceLE, Int.reduceEq, CO.tmps, Opd.tmps, optT, Nat.reducePow, Nat.reduceDiv, Nat.reduceMod, J9H, qiT, hl7, w71, g5', g6', qdi, fltA, Kat, K8I hh, KAP hz, qnX hz, Jod hz, decide_true, decide_false, ne_eq, not_false_eq_true, not_true_eq_false, false_implies, forall_const, and_true, true_and]
  exact Bt.drop _ hh rfl rfl
 have g6' : ((s.length : Int) ≤ (i : Int)) = False := eq_false (by omega)
 have x1 := z29 (l := s) (n := i) .i64 g6
 have hd := Qit (step := YfK) (ends := Y9b) (q := stq i) g6
 rw [hr] at hd
 have hget : s[i] = s.getD i 0 := by rw [List.getD_eq_getElem?_getD, List.getElem?_eq_getElem g6]; rfl
 rw [hget] at hd
 obtain ⟨c, hc⟩ : ∃ c, s.getD i 0 = c := ⟨_, rfl⟩
 rw [hc] at hd x1
 by_cases g7 : i < 7
 ·have g7' : ((i : Int) < 7) = True := eq_true (by omega)
  have g7'' : ((7 : Int) ≤ (i : Int)) = False := eq_false (by omega)
  have x2 : ixsV (.s [115, 104, 97, 50, 53, 54, 58]) (.i .i64 (i : Int)) = some (.i .u8 ((QlD.getD i 0).toNat : Int)) := z29 (l := QlD) (n := i) .i64 g7
  have hq : stq i = (QlD.getD i 0 :: QlD.drop (i + 1), 64) := by
   unfold stq
   have : QlD.drop i = QlD[i]'g7 :: QlD.drop (i + 1) := List.drop_eq_getElem_cons g7
   rw [this, List.getD_eq_getElem?_getD, List.getElem?_eq_getElem g7, show 64 - (i - 7) = 64 from by omega]
   rfl
  have hsm : (QlD.getD i 0).toNat < 128 := by
   have : ∀ j : _root_.Fin 7, (QlD.getD j.val 0).toNat < 128 := by decide
   exact this ⟨i, g7⟩
  obtain ⟨b, hb⟩ : ∃ b, QlD.getD i 0 = b := ⟨_, rfl⟩
  rw [hb] at x2 hq hsm
  rw [hq] at hd
  by_cases hcb : c = b
  ·subst hcb
   rw [if_pos hsm, show YfK (c :: QlD.drop (i + 1), 64) (c.toNat : Int) = some (QlD.drop (i + 1), 64) from if_pos ⟨rfl, by omega⟩] at hd
   dsimp only at hd
   have ne' : ((c.toNat : Int) = (c.toNat : Int)) = True := eq_true rfl
   simp only [XUb, KIu, Xgj, if_true, if_false, ↓reduceIte, Nat.reduceAdd, Nat.reduceSub, Nat.reduceLeDiff, Nat.reduceEqDiff, Nat.reduceMul, Nat.reduceLT, Int.reduceLT, Int.reduceLE, Int.reduceEq, CO.tmps, Opd.tmps, optT, Nat.reducePow, Nat.reduceDiv, Nat.reduceMod, J9H, qiT, hl7, w71, w1, g5', g6', g7', g7'', QgH, x1, x2, ne', qdi, Option.map_some, Kat, K8I hh, KAP hz, qnX hz, Jod hz, decide_true, decide_false, ne_eq, not_false_eq_true, not_true_eq_false, false_implies, forall_const, and_true, true_and]
   refine ⟨i + 1, ⟨⟨g5, g6⟩, ?_, fun k hk => by omega⟩, by dsimp only; omega, ?_⟩
   ·rw [show stq (i + 1) = (QlD.drop (i + 1), 64) from by unfold stq; rw [show 64 - (i + 1 - 7) = 64 from by omega]]
    exact hd.symm
   ·dsimp only
    rw [show i + 1 - 7 = i - 7 from by omega]
    exact Bt.wk (by simp only [XUb, Xgj, if_true, if_false, reduceIte, Nat.reduceAdd, Nat.reduceSub, Nat.reduceLeDiff, Nat.reduceEqDiff, Nat.reduceMul, Nat.reduceLT, Int.reduceLT, Int.reduceLE, Int.reduceEq])
  ·have ne' : ((c.toNat : Int) = (b.toNat : Int)) = False := eq_false fun z => hcb (UInt8.toNat_inj.1 (by omega))
   have hst : YfK (b :: QlD.drop (i + 1), 64) (c.toNat : Int) = none := if_neg fun z => of_eq_false ne' z.1
   rw [hst] at hd
   have : idF s = some i := by
    rw [hd]
    split
    ·rfl
    ·rename_i q e
     split at e <;> cases e
   rw [this, if_neg (by simp)]
   simp only [XUb, KIu, Xgj, if_true, if_false, ↓reduceIte, Nat.reduceAdd, Nat.reduceSub, Nat.reduceLeDiff, Nat.reduceEqDiff, Nat.reduceMul, Nat.reduceLT, Int.reduceLT, Int.reduceLE, Int.reduceEq, CO.tmps, Opd.tmps, optT, Nat.reducePow, Nat.reduceDiv, Nat.reduceMod, J9H, qiT, hl7, w71, w1, g5', g6', g7', g7'', QgH, x1, x2, ne', qdi, fltA, Option.map_some, Kat, K8I hh, KAP hz, qnX hz, Jod hz, decide_true, decide_false, ne_eq, not_false_eq_true, not_true_eq_false, false_implies, forall_const, and_true, true_and]
   exact Bt.drop _ hh rfl rfl
 ·have g7' : ((i : Int) < 7) = False := eq_false (by omega)
  have g7'' : ((7 : Int) ≤ (i : Int)) = True := eq_true (by omega)
  obtain ⟨k, rfl⟩ : ∃ k, i = 7 + k := ⟨i - 7, by omega⟩
  have hk : k < 64 := by omega
  have hq : stq (7 + k) = ([], 64 - k) := by
   unfold stq
   rw [List.drop_eq_nil_of_le (by unfold QlD; simp), show 7 + k - 7 = k from by omega]
  rw [hq] at hd
  have c255 : ((c.toNat : Int) ≤ 255) = True := eq_true (by have := c.toNat_lt; omega)
  by_cases hx16 : hexP (c.toNat : Int)
  ·have hsm : c.toNat < 128 := by unfold hexP at hx16; omega
   rw [if_pos hsm, show YfK ([], 64 - k) (c.toNat : Int) = some ([], 64 - k - 1) from if_pos ⟨by omega, hx16⟩] at hd
   dsimp only at hd
   have dI := ztg.1 hx16
   have dlt := zwt hx16
   have dn : ((hexD c : Int) < 0) = False := eq_false (by omega)
   have w7 : IntKind.i64.wrap (((7 + k : Nat) : Int) - 7) = (k : Int) := by rw [Jeb (by unfold In64; omega)]; omega
   have bq : binV .quo (.i .i64 (k : Int)) (.i .i64 2) = some (.i .i64 ((k / 2 : Nat) : Int)) := by
    have : binV .quo (.i .i64 (k : Int)) (.i .i64 2) = some (.i .i64 (IntKind.i64.wrap (Int.tdiv (k : Int) 2))) := rfl
    rw [this, Int.tdiv_eq_ediv_of_nonneg (by omega), Jeb (by unfold In64; omega)]
    rfl
   have h0 : k % 2 = 1 → hexD (s.getD (6 + k) 0) < 16 := fun z => zwt (by have := hx (k - 1) (by omega); rw [show 7 + (k - 1) = 6 + k from by omega] at this; exact this)
   have hX := Ka5 s hk
   have hN := Ygt s hk h0 (by rw [hc]; exact dlt)
   rw [hc] at hN
   have hv : (if k % 2 = 0 then 0 else hexD (s.getD (6 + k) 0)) < 16 := by
    split
    ·decide
    ·exact h0 (by omega)
   obtain ⟨v, hvv⟩ : ∃ v, (if k % 2 = 0 then 0 else hexD (s.getD (6 + k) 0)) = v := ⟨_, rfl⟩
   rw [hvv] at hX hN hv
   rw [show 7 + k - 7 = k from by omega, hX]
   have wm : binV .mul (.i .u8 (v : Int)) (.i .u8 16) = some (.i .u8 ((v * 16 : Nat) : Int)) := by
    have : binV .mul (.i .u8 (v : Int)) (.i .u8 16) = some (.i .u8 (IntKind.u8.wrap ((v : Int) * 16))) := rfl
    rw [this, KLb (by omega) (by omega)]
    rfl
   have w8 : IntKind.u8.wrap (hexD c : Int) = (hexD c : Int) := KLb (by omega) (by omega)
   have wa : IntKind.u8.wrap (((v * 16 : Nat) : Int) + (hexD c : Int)) = ((v * 16 + hexD c : Nat) : Int) := by rw [KLb (by omega) (by omega)]; omega
   have k2 : k / 2 < 32 := by omega
   have f3 := J09 (v := v) (idBs s) k2 hL
   have f4 := JPE (v := v) (v' := v * 16 + hexD c) (idBs s) k2 hL
   have f5 := qcX (v := v) (idBs s) k2 hL
   have f6 : (k / 2 + 1 ≤ 32) = True := eq_true (by omega)
   simp only [XUb, KIu, Xgj, if_true, if_false, ↓reduceIte, Nat.reduceAdd, Nat.reduceSub, Nat.reduceLeDiff, Nat.reduceEqDiff, Nat.reduceMul, Nat.reduceLT, Int.reduceLT, Int.reduceLE, Int.reduceEq, CO.tmps, Opd.tmps, optT, Nat.reducePow, Nat.reduceDiv, Nat.reduceMod, J9H, qiT, hl7, w71, w1, w7, g5', g6', g7', g7'', QgH, JLg, Yf9, k2, bq, x1, zEq, c255, dI, dn, wm, w8, wa, f3, f4, f5, f6, Y1l, qdi, Nat.mul_one, Nat.zero_add, Option.map_some, Kat, K8I hh, KAP hz, qnX hz, Jod hz, decide_true, decide_false, ne_eq, not_false_eq_true, not_true_eq_false, false_implies, forall_const, and_true, true_and]
   refine ⟨7 + k + 1, ⟨⟨g5, g6⟩, ?_, fun j hj => ?_⟩, by dsimp only; omega, ?_⟩
   ·rw [show stq (7 + k + 1) = ([], 64 - k - 1) from by unfold stq; rw [List.drop_eq_nil_of_le (by unfold QlD; simp; omega), show 64 - (7 + k + 1 - 7) = 64 - k - 1 from by omega]]
    exact hd.symm
   ·by_cases hjk : j = k
    ·subst hjk; rw [hc]; exact hx16
    ·exact hx j (by omega)
   ·dsimp only
    rw [show 7 + k + 1 - 7 = k + 1 from by omega, ← hN]
    exact Bt.wk (by simp only [XUb, Xgj, if_true, if_false, reduceIte, Nat.reduceAdd, Nat.reduceSub, Nat.reduceLeDiff, Nat.reduceEqDiff, Nat.reduceMul, Nat.reduceLT, Int.reduceLT, Int.reduceLE, Int.reduceEq])
  ·have dI := ztg.2 hx16
   have dn : ((-1 : Int) < 0) = True := eq_true (by decide)
   have hst : YfK ([], 64 - k) (c.toNat : Int) = none := if_neg fun z => hx16 z.2
   rw [hst] at hd
   have : idF s = some (7 + k) := by
    rw [hd]
    split
    ·rfl
    ·rename_i q e
     split at e <;> cases e
   rw [this, if_neg (by simp)]
   simp only [XUb, KIu, Xgj, if_true, if_false, ↓reduceIte, Nat.reduceAdd, Nat.reduceSub, Nat.reduceLeDiff, Nat.reduceEqDiff, Nat.reduceMul, Nat.reduceLT, Int.reduceLT, Int.reduceLE, Int.reduceEq, CO.tmps, Opd.tmps, optT, Nat.reducePow, Nat.reduceDiv, Nat.reduceMod, J9H, qiT, hl7, w71, w1, g5', g6', g7', g7'', QgH, x1, zEq, c255, dI, dn, qdi, fltA, Option.map_some, Kat, K8I hh, KAP hz, qnX hz, Jod hz, decide_true, decide_false, ne_eq, not_false_eq_true, not_true_eq_false, false_implies, forall_const, and_true, true_and]
   exact Bt.drop _ hh rfl rfl
theorem Xbf : Spec Tryd.prog 10 T_ID := by
 intro args h v h' e
 unfold T_ID at e
 split at e
 ·split at e
  ·rename_i hs
   cases e
   exact FnAt.c (FnAt.frz0 fun hz => YwZ hz hs)
  ·cases e
 ·cases e
end Go.Proofs.YthhghdebjiiliaaDoor
end
section
namespace Go.Proofs.YthhghdebjiiliaaDoor
set_option maxRecDepth 100000
set_option maxHeartbeats 4000000
def hexC (n : Nat) : UInt8 := hexS.getD n 0
def txB (l : List UInt8) : List UInt8 := QlD ++ l.flatMap fun b => [hexC (b.toNat / 16), hexC (b.toNat % 16)]
theorem X1L : ∀ (l : List UInt8), (txB l).length = 7 + 2 * l.length
 | [] => rfl
 | b :: l => by
  have := X1L l
  unfold txB at this ⊢
  rw [List.length_append] at this
  rw [List.flatMap_cons, List.length_append, List.length_append]
  simp only [List.length_cons, List.length_nil] at this ⊢
  omega
theorem qOT (l : List UInt8) (b : UInt8) : txB (l ++ [b]) = txB l ++ [hexC (b.toNat / 16), hexC (b.toNat % 16)] := by
 unfold txB
 rw [List.flatMap_append, List.append_assoc, List.flatMap_cons, List.flatMap_nil, List.append_nil]
def txV (id k : Nat) : AV := .sl id 0 (7 + 2 * k) (7 + 2 * k) (if k = 0 then none else some 1)
def txK (l : List UInt8) (k : Nat) : AB := .blk true (!(k == 0)) ((txB (l.take k)).map u8A)
theorem txW {h L : List AB} {i k : Nat} {l : List UInt8} (hk : k < 32) (hl : l.length = 32) (hL : L[i]? = some (txK l k)) (x y : UInt8) :
  ∃ L', appW (h ++ L) true 1 1 (txV (h.length + i) k) 2 [.i .u8 (x.toNat : Int), .i .u8 (y.toNat : Int)] = some (.sl (h.length + L.length) 0 (7 + 2 * k + 2) (7 + 2 * k + 2) (some 1), h ++ (L' ++ [.blk true true ((txB (l.take k)).map u8A ++ [.i .u8 (x.toNat : Int), .i .u8 (y.toNat : Int)])])) ∧ L'.length = L.length ∧ L' = (if k = 0 then L else L.set i .dead) := by
 have hlen : ((txB (l.take k)).map u8A).length = 7 + 2 * k := by rw [List.length_map, X1L, List.length_take]; omega
 have hi : i < L.length := (List.getElem?_eq_some_iff.1 hL).1
 have hg : (h ++ L)[h.length + i]? = some (txK l k) := by rw [zu6]; exact hL
 unfold txV appW
 dsimp only
 rw [if_neg (by decide), if_neg (by omega), hg]
 unfold txK
 dsimp only
 rw [if_pos ⟨rfl, by omega, by omega, by unfold maxLen; omega⟩]
 have ht : (((txB (l.take k)).map u8A).drop 0).take ((7 + 2 * k) * 1) = (txB (l.take k)).map u8A := by rw [List.drop_zero, List.take_of_length_le (by omega)]
 by_cases k0 : k = 0
 ·subst k0
  rw [if_pos rfl, if_pos rfl, if_pos rfl, ht]
  exact ⟨L, by rw [List.length_append, List.append_assoc], rfl, rfl⟩
 ·rw [if_neg k0, if_neg k0, if_neg (by simp), if_pos ⟨rfl, by decide, by simpa using k0, by omega⟩, List.drop_zero, List.set_append_right _ _ (by omega), Nat.add_sub_cancel_left, List.append_assoc, List.length_append]
  exact ⟨_, rfl, List.length_set .., rfl⟩
theorem Q7L {l : List UInt8} {k : Nat} (hk : k < 32) (hl : l.length = 32) {b : UInt8} (hb : l.getD k 0 = b) : AB.blk true true ((txB (l.take k)).map u8A ++ [.i .u8 ((hexC (b.toNat / 16)).toNat : Int), .i .u8 ((hexC (b.toNat % 16)).toNat : Int)]) = txK l (k + 1) := by
 have : l.take (k + 1) = l.take k ++ [b] := by
  rw [List.take_succ_eq_append_getElem (by omega), ← hb, List.getD_eq_getElem?_getD, List.getElem?_eq_getElem (by omega)]
  rfl
 unfold txK
 rw [this, qOT, List.map_append]
 rfl
def ixaN (k sz : Nat) (agg : Bool) : AV → AV → Option AV
 | .ag l, .i _ n => if 0 ≤ n ∧ n < k then (if agg then some (.ag ((l.drop (n.toNat * sz)).take sz)) else l[n.toNat * sz]?) else none
 | _, _ => none
theorem ZSF {T : Env} {fr : List AV} {h : List AB} (k sz : Nat) (agg : Bool) (x i : Opd) : opR T (.ixa k sz agg x i) fr h = (ixaN k sz agg (x.ev fr) (i.ev fr)).map (·, h) := by
 show (match x.ev fr, i.ev fr with | .ag l, .i _ n => _ | _, _ => _) = _
 unfold ixaN
 split
 ·split
  ·split <;> rfl
  ·rfl
 ·rfl
theorem zDp {d : Dg} {k : Nat} (hk : k < 32) {b : UInt8} (hb : d.l.getD k 0 = b) : (idR.f d)[k]? = some (.i .u8 (b.toNat : Int)) := by
 show (d.l.map u8A)[k]? = _
 have hl := d.h
 rw [List.getElem?_map, List.getElem?_eq_getElem (by omega), ← hb, List.getD_eq_getElem?_getD, List.getElem?_eq_getElem (by omega)]
 rfl
theorem qzn {d : Dg} {k : Nat} (hk : k < 32) {b : UInt8} (hb : d.l.getD k 0 = b) (kk : IntKind) : ixaN 32 1 false (.ag (idR.f d)) (.i kk (k : Int)) = some (.i .u8 (b.toNat : Int)) := by
 unfold ixaN
 dsimp only
 rw [if_pos (by omega), if_neg (by decide), Int.toNat_natCast, Nat.mul_one]
 exact zDp hk hb
open Classical in
noncomputable def dgOf (a : AV) : Option Dg := if e : ∃ y, a = .ag (idR.f y) then some e.choose else none
theorem JnU (y : Dg) : dgOf (.ag (idR.f y)) = some y := by
 unfold dgOf
 have hx : ∃ z, AV.ag (idR.f y) = .ag (idR.f z) := ⟨y, rfl⟩
 rw [dif_pos hx]
 have := hx.choose_spec
 injection this with h
 rw [idR.inj _ _ h.symm]
theorem KQu {a : AV} {y : Dg} (e : dgOf a = some y) : a = .ag (idR.f y) := by
 unfold dgOf at e
 split at e
 ·rename_i h
  cases e
  exact h.choose_spec
 ·cases e
noncomputable def zW2 : List AV → List AB → Option (AV × List AB)
 | [a], h => (dgOf a).map fun d => (.s (txB d.l), h)
 | _, _ => none
def s2sW (h : List AB) : AV → Option (AV × List AB)
 | .sl id off n c k => if n = 0 then none else match h[id]? with
   | some (.blk fl true xs) => some (.sl id off n c k, h.set id (.blk fl false xs))
   | _ => none
 | _ => none
theorem zE5 {T : Env} {fr : List AV} {h : List AB} (x : Opd) : opR T (.s2s x) fr h = s2sW h (x.ev fr) := by
 rw [QS3]
 generalize x.ev fr = v
 cases v <;> rfl
theorem qLz (L : List AB) (i off n c : Nat) (k : Option Nat) (fl : Bool) (xs : List AV) (hn : n ≠ 0) (hL : L[i]? = some (.blk fl true xs)) (h : List AB) : s2sW (h ++ L) (.sl (h.length + i) off n c k) = some (.sl (h.length + i) off n c k, h ++ L.set i (.blk fl false xs)) := by
 unfold s2sW
 dsimp only
 rw [if_neg hn, zu6, hL]
 dsimp only
 rw [List.set_append_right _ _ (by omega), Nat.add_sub_cancel_left]
theorem KvG (A : AB) (h : List AB) (xs : List AV) : s2sW (h ++ [A, .blk true true xs]) (.sl (h.length + 1) 0 7 7 none) = some (.sl (h.length + 1) 0 7 7 none, h ++ [A, .blk true false xs]) :=
 qLz [A, .blk true true xs] 1 0 7 7 none true xs (by decide) rfl h
theorem QbS (b : UInt8) : binV .shr (.i .u8 (b.toNat : Int)) (.i .u64 4) = some (.i .u8 ((b.toNat / 16 : Nat) : Int)) := by
 have e : binV .shr (.i .u8 (b.toNat : Int)) (.i .u64 4) = some (.i .u8 ((b.toNat : Int).fdiv 16)) := rfl
 rw [e, Int.fdiv_eq_ediv_of_nonneg _ (by decide)]
 rfl
theorem Zxr : ∀ n : _root_.Fin 256, IntKind.u8.wrap (BitVec.ofInt IntKind.u8.bits (n.val : Int) &&& BitVec.ofInt IntKind.u8.bits 15).toNat = ((n.val % 16 : Nat) : Int) := by decide +kernel
theorem qxQ (b : UInt8) : binV .and (.i .u8 (b.toNat : Int)) (.i .u8 15) = some (.i .u8 ((b.toNat % 16 : Nat) : Int)) := by
 have e1 : binV .and (.i .u8 (b.toNat : Int)) (.i .u8 15) = some (.i .u8 (IntKind.u8.wrap (BitVec.ofInt IntKind.u8.bits (b.toNat : Int) &&& BitVec.ofInt IntKind.u8.bits 15).toNat)) := by simp [binV, binI]
 have := Zxr ⟨b.toNat, b.toNat_lt⟩
 dsimp only at this
 rw [e1, this]
theorem JP6 {n : Nat} (h : n < 16) : ixsV (.s [48, 49, 50, 51, 52, 53, 54, 55, 56, 57, 97, 98, 99, 100, 101, 102]) (.i .u8 (n : Int)) = some (.i .u8 ((hexC n).toNat : Int)) := z29 (l := hexS) (n := n) .u8 h
theorem XCT (q : Nat → Bool) (id k : Nat) (h : q id = true) : (txV id k).ok q = true := by unfold txV; simp [AV.ok, h]
theorem YoK (f : Nat → Nat) (id k : Nat) : (txV id k).ren f = txV (f id) k := _root_.id rfl
theorem QTq (id k : Nat) : idOf (txV id k) = [id] := _root_.id rfl
theorem QQD (q : Nat → Bool) (l : List UInt8) (k : Nat) : (txK l k).ok q = true := _root_.id rfl
theorem Xlj (f : Nat → Nat) (d : Dg) : renL f (idR.f d) = idR.f d := by
 show renL f (d.l.map u8A) = d.l.map u8A
 generalize d.l = l
 induction l with
 | nil => rfl
 | cons a l ih => simp only [List.map_cons, renL, ih]; rfl
theorem zbD (q : Nat → Bool) (f : Nat → Nat) (l : List UInt8) (k : Nat) : BWk q f (txK l k) (txK l k) = True := eq_true ⟨fun h => h, rfl⟩
theorem zFE {T : Env} {fr : List AV} {h : List AB} (x : Opd) : opR T (.b2s x) fr h = if (x.ev fr).isStr then none else (srcV h 1 (x.ev fr)).bind fun p => (bytesOf p.2).map fun l => (.s l, h) := _root_.id rfl
theorem KBT (h : List AB) (A : AB) {l : List UInt8} (hl : l.length = 32) : srcV (h ++ [A, txK l 32]) 1 (txV (h.length + 1) 32) = some (71, (txB l).map u8A) := by
 have hg : JZy (h ++ [A, txK l 32]) (h.length + 1) = some ((txB (l.take 32)).map u8A) := by
  unfold JZy
  rw [zu6]
  rfl
 have hx := X1L l
 unfold txV srcV
 dsimp only
 rw [List.take_of_length_le (by omega)] at hg
 rw [if_neg (by decide), hg, Option.bind_some, if_pos (by rw [List.length_map]; omega), List.drop_zero, List.take_of_length_le (by rw [List.length_map]; omega)]
theorem Y7p {h : List AB} (hz : h.map AB.freeze = h) (d : Dg) : FnAt Tryd.prog 11 [.ag (idR.f d)] h (.s (txB d.l)) h := by
 refine FnAt.run (by kernel_rfl) (T := ⟨[], []⟩) ⟨trivial, trivial⟩ Tryd.func11 sw11 fun ho hh => ?_
 unfold w11
 have hL := d.h
 have f1 : (idR.f d).length = 32 := idR.len d
 have f2 := QGw d
 have f3 := fun q => XiP q d
 have f4 : (idR.f d).take 32 = idR.f d := List.take_of_length_le (by omega)
 simp only [XSG, YPr, XUb, KIu, Xgj, if_true, if_false, ↓reduceIte, Nat.reduceAdd, Nat.reduceSub, Nat.reduceLeDiff, Nat.reduceEqDiff, Nat.reduceMul, Nat.reduceLT, Int.reduceLT, Int.reduceLE, Int.reduceEq, CO.tmps, Opd.tmps, optT, Nat.reducePow, Nat.reduceDiv, Nat.reduceMod, zE5, KvG, f1, f2, f3, f4, decide_true, decide_false, ne_eq, not_false_eq_true, not_true_eq_false, false_implies, forall_const, and_true, true_and]
 refine q2Y (S := Nat) (fun k => 32 - k) (fun k => [.ag (idR.f d), .p (h.length + 0) 0, .s [], txV (h.length + 1) k] ++ tp 4 ++ [.ag (idR.f d), .i .i64 (k : Int)] ++ tp 14) (fun k => h ++ [.blk true true (idR.f d), txK d.l k]) (fun k => k ≤ 32) 0 (Nat.zero_le _) ?_ fun k hk => ?_
 ·show Bt _ _ _ _ ([.ag (idR.f d), .p (h.length + 0) 0, .s [], .sl (h.length + 1) 0 7 7 none] ++ tp 4 ++ [.ag (idR.f d), .i .i64 0] ++ tp 14) (h ++ [.blk true true (idR.f d), .blk true false [.i .u8 115, .i .u8 104, .i .u8 97, .i .u8 50, .i .u8 53, .i .u8 54, .i .u8 58]])
  exact Bt.sel [0, 1] hh (by decide) (by simp only [f3, Xlj, YvX, FrSel, BlkSel, AV.ren, renL, AV.ok, okL, Option.some.injEq, exists_eq_left', List.length_cons, List.length_nil, Nat.reduceAdd, Nat.reduceLT, reduceCtorEq, implies_true, exists_eq']) (by simp only [tp_0, tp_s, List.cons_append, List.nil_append, f3, Xlj, YvX, FrSel, BlkSel, AV.ren, renL, AV.ok, okL, Option.some.injEq, exists_eq_left', List.length_cons, List.length_nil, Nat.reduceAdd, Nat.reduceLT, reduceCtorEq, implies_true, exists_eq'])
 by_cases g5 : k < 32
 ·have g5' : ((k : Int) < 32) = True := eq_true (by omega)
  have w1 : IntKind.i64.wrap ((k : Int) + 1) = ((k + 1 : Nat) : Int) := Jeb (by unfold In64; omega)
  obtain ⟨b, hb⟩ : ∃ b, d.l.getD k 0 = b := ⟨_, rfl⟩
  have x1 := qzn (d := d) g5 hb .i64
  have x2 := QbS b
  have x3 := qxQ b
  have x4 := JP6 (n := b.toNat / 16) (by have := b.toNat_lt; omega)
  have x5 := JP6 (n := b.toNat % 16) (by omega)
  have x6 := Q7L g5 hL hb
  have x7 : ∀ A B : AB, appW (h ++ [A, txK d.l k, B]) true 1 1 (txV (h.length + 1) k) 2 [.i .u8 ((hexC (b.toNat / 16)).toNat : Int), .i .u8 ((hexC (b.toNat % 16)).toNat : Int)] = some (.sl (h.length + 3) 0 (7 + 2 * k + 2) (7 + 2 * k + 2) (some 1), h ++ [A, (if k = 0 then txK d.l k else .dead), B, txK d.l (k + 1)]) := fun A B => by
   obtain ⟨L', e, _, e2⟩ := txW (h := h) (L := [A, txK d.l k, B]) (i := 1) g5 hL rfl (hexC (b.toNat / 16)) (hexC (b.toNat % 16))
   rw [e, x6, e2]
   split <;> rfl
  simp only [XUb, KIu, Xgj, if_true, if_false, ↓reduceIte, Nat.reduceAdd, Nat.reduceSub, Nat.reduceLeDiff, Nat.reduceEqDiff, Nat.reduceMul, Nat.reduceLT, Int.reduceLT, Int.reduceLE, Int.reduceEq, CO.tmps, Opd.tmps, optT, Nat.reducePow, Nat.reduceDiv, Nat.reduceMod, g5', w1, x1, x2, x3, x4, x5, x7, QgH, ZSF, XCT, YoK, QTq, QQD, K8I hh, KAP hz, qnX hz, Jod hz, Option.map_some, decide_true, decide_false, ne_eq, not_false_eq_true, not_true_eq_false, false_implies, forall_const, and_true, true_and]
  refine ⟨by split <;> rfl, k + 1, g5, by dsimp only; omega, ?_⟩
  dsimp only
  rw [show (AV.sl (h.length + 3) 0 (7 + (2 * k + 2)) (7 + (2 * k + 2)) (some 1)) = txV (h.length + 3) (k + 1) from rfl]
  split
  ·exact Bt.sel [0, 3] hh (by decide) (by simp only [f3, Xlj, QQD, zbD, YvX, FrSel, BlkSel, AV.ren, renL, AV.ok, okL, Option.some.injEq, exists_eq_left', List.length_cons, List.length_nil, Nat.reduceAdd, Nat.reduceLT, reduceCtorEq, implies_true, exists_eq']) (by simp only [tp_0, tp_s, List.cons_append, List.nil_append, f3, Xlj, YoK, XCT, YvX, FrSel, BlkSel, AV.ren, renL, AV.ok, okL, Option.some.injEq, exists_eq_left', List.length_cons, List.length_nil, Nat.reduceAdd, Nat.reduceLT, reduceCtorEq, implies_true, exists_eq'])
  ·exact Bt.sel [0, 3] hh (by decide) (by simp only [f3, Xlj, QQD, zbD, YvX, FrSel, BlkSel, AV.ren, renL, AV.ok, okL, Option.some.injEq, exists_eq_left', List.length_cons, List.length_nil, Nat.reduceAdd, Nat.reduceLT, reduceCtorEq, implies_true, exists_eq']) (by simp only [tp_0, tp_s, List.cons_append, List.nil_append, f3, Xlj, YoK, XCT, YvX, FrSel, BlkSel, AV.ren, renL, AV.ok, okL, Option.some.injEq, exists_eq_left', List.length_cons, List.length_nil, Nat.reduceAdd, Nat.reduceLT, reduceCtorEq, implies_true, exists_eq'])
 ·obtain rfl : k = 32 := by omega
  have g5' : (((32 : Nat) : Int) < 32) = False := eq_false (by decide)
  have y1 : ∀ id, (txV id 32).isStr = false := fun _ => rfl
  have y2 := KBT h (.blk true true (idR.f d)) hL
  have y3 := XED (txB d.l)
  simp only [XUb, KIu, Xgj, if_true, if_false, ↓reduceIte, Nat.reduceAdd, Nat.reduceSub, Nat.reduceLeDiff, Nat.reduceEqDiff, Nat.reduceMul, Nat.reduceLT, Int.reduceLT, Int.reduceLE, Int.reduceEq, CO.tmps, Opd.tmps, optT, Nat.reducePow, Nat.reduceDiv, Nat.reduceMod, g5', y1, y2, y3, zFE, XCT, YoK, QTq, QQD, K8I hh, Option.map_some, decide_true, decide_false, ne_eq, not_false_eq_true, not_true_eq_false, false_implies, forall_const, and_true, true_and]
  exact Bt.drop _ hh rfl rfl
theorem Jpw : Spec Tryd.prog 11 zW2 := by
 intro args h v h' e
 unfold zW2 at e
 split at e
 ·obtain ⟨d, hd, e⟩ := Option.map_eq_some_iff.1 e
  cases e
  obtain rfl := KQu hd
  exact FnAt.c (FnAt.frz0 fun hz => Y7p hz d)
 ·cases e
theorem KEj : ∀ n : _root_.Fin 256, (n.val : Int).tdiv 16 = ((n.val / 16 : Nat) : Int) ∧ IntKind.u8.wrap ((n.val : Int).tdiv 16) = ((n.val / 16 : Nat) : Int) ∧ (n.val : Int).tmod 16 = ((n.val % 16 : Nat) : Int) := by decide +kernel
theorem zmX (b : UInt8) : binV .quo (.i .u8 (b.toNat : Int)) (.i .u8 16) = some (.i .u8 ((b.toNat / 16 : Nat) : Int)) := by
 have e : binV .quo (.i .u8 (b.toNat : Int)) (.i .u8 16) = some (.i .u8 (IntKind.u8.wrap ((b.toNat : Int).tdiv 16))) := rfl
 rw [e, (KEj ⟨b.toNat, b.toNat_lt⟩).2.1]
theorem Q3Z (b : UInt8) : binV .rem (.i .u8 (b.toNat : Int)) (.i .u8 16) = some (.i .u8 ((b.toNat % 16 : Nat) : Int)) := by
 have e : binV .rem (.i .u8 (b.toNat : Int)) (.i .u8 16) = some (.i .u8 ((b.toNat : Int).tmod 16)) := rfl
 rw [e, (KEj ⟨b.toNat, b.toNat_lt⟩).2.2]
theorem zi0 {h : List AB} (hz : h.map AB.freeze = h) (d : Dg) : FnAt Tryd.prog 12 [.ag (idR.f d)] h (.s (txB d.l)) h := by
 refine FnAt.run (by kernel_rfl) (T := ⟨[], []⟩) ⟨trivial, trivial⟩ Tryd.func12 sw12 fun ho hh => ?_
 unfold w12
 have hL := d.h
 have f1 : (idR.f d).length = 32 := idR.len d
 have f2 := QGw d
 have f3 := fun q => XiP q d
 have f4 : (idR.f d).take 32 = idR.f d := List.take_of_length_le (by omega)
 simp only [XSG, YPr, XUb, KIu, Xgj, if_true, if_false, ↓reduceIte, Nat.reduceAdd, Nat.reduceSub, Nat.reduceLeDiff, Nat.reduceEqDiff, Nat.reduceMul, Nat.reduceLT, Int.reduceLT, Int.reduceLE, Int.reduceEq, CO.tmps, Opd.tmps, optT, Nat.reducePow, Nat.reduceDiv, Nat.reduceMod, zE5, KvG, f1, f2, f3, f4, decide_true, decide_false, ne_eq, not_false_eq_true, not_true_eq_false, false_implies, forall_const, and_true, true_and]
 refine q2Y (S := Nat) (fun k => 32 - k) (fun k => [.ag (idR.f d), .p (h.length + 0) 0, .s [], txV (h.length + 1) k, .i .i64 (k : Int)] ++ tp 21) (fun k => h ++ [.blk true true (idR.f d), txK d.l k]) (fun k => k ≤ 32) 0 (Nat.zero_le _) ?_ fun k hk => ?_
 ·show Bt _ _ _ _ ([.ag (idR.f d), .p (h.length + 0) 0, .s [], .sl (h.length + 1) 0 7 7 none, .i .i64 0] ++ tp 21) (h ++ [.blk true true (idR.f d), .blk true false [.i .u8 115, .i .u8 104, .i .u8 97, .i .u8 50, .i .u8 53, .i .u8 54, .i .u8 58]])
  exact Bt.sel [0, 1] hh (by decide) (by simp only [f3, Xlj, YvX, FrSel, BlkSel, AV.ren, renL, AV.ok, okL, Option.some.injEq, exists_eq_left', List.length_cons, List.length_nil, Nat.reduceAdd, Nat.reduceLT, reduceCtorEq, implies_true, exists_eq']) (by simp only [tp_0, tp_s, List.cons_append, List.nil_append, f3, Xlj, YvX, FrSel, BlkSel, AV.ren, renL, AV.ok, okL, Option.some.injEq, exists_eq_left', List.length_cons, List.length_nil, Nat.reduceAdd, Nat.reduceLT, reduceCtorEq, implies_true, exists_eq'])
 by_cases g5 : k < 32
 ·have g5' : ((k : Int) < 32) = True := eq_true (by omega)
  have w1 : IntKind.i64.wrap ((k : Int) + 1) = ((k + 1 : Nat) : Int) := Jeb (by unfold In64; omega)
  obtain ⟨b, hb⟩ : ∃ b, d.l.getD k 0 = b := ⟨_, rfl⟩
  have x1 := zDp (d := d) g5 hb
  have x2 := zmX b
  have x3 := Q3Z b
  have x4 := JP6 (n := b.toNat / 16) (by have := b.toNat_lt; omega)
  have x5 := JP6 (n := b.toNat % 16) (by omega)
  have x6 := Q7L g5 hL hb
  have x7 : ∀ A B : AB, appW (h ++ [A, txK d.l k, B]) true 1 1 (txV (h.length + 1) k) 2 [.i .u8 ((hexC (b.toNat / 16)).toNat : Int), .i .u8 ((hexC (b.toNat % 16)).toNat : Int)] = some (.sl (h.length + 3) 0 (7 + 2 * k + 2) (7 + 2 * k + 2) (some 1), h ++ [A, (if k = 0 then txK d.l k else .dead), B, txK d.l (k + 1)]) := fun A B => by
   obtain ⟨L', e, _, e2⟩ := txW (h := h) (L := [A, txK d.l k, B]) (i := 1) g5 hL rfl (hexC (b.toNat / 16)) (hexC (b.toNat % 16))
   rw [e, x6, e2]
   split <;> rfl
  simp only [XUb, KIu, Xgj, if_true, if_false, ↓reduceIte, Nat.reduceAdd, Nat.reduceSub, Nat.reduceLeDiff, Nat.reduceEqDiff, Nat.reduceMul, Nat.reduceLT, Int.reduceLT, Int.reduceLE, Int.reduceEq, CO.tmps, Opd.tmps, optT, Nat.reducePow, Nat.reduceDiv, Nat.reduceMod, g5', w1, x1, x2, x3, x4, x5, x7, QgH, JLg, Yf9, g5, Nat.mul_one, Nat.zero_add, XCT, YoK, QTq, QQD, K8I hh, KAP hz, qnX hz, Jod hz, Option.map_some, decide_true, decide_false, ne_eq, not_false_eq_true, not_true_eq_false, false_implies, forall_const, and_true, true_and]
  refine ⟨by split <;> rfl, k + 1, g5, by dsimp only; omega, ?_⟩
  dsimp only
  rw [show (AV.sl (h.length + 3) 0 (7 + (2 * k + 2)) (7 + (2 * k + 2)) (some 1)) = txV (h.length + 3) (k + 1) from rfl]
  split
  ·exact Bt.sel [0, 3] hh (by decide) (by simp only [f3, Xlj, QQD, zbD, YvX, FrSel, BlkSel, AV.ren, renL, AV.ok, okL, Option.some.injEq, exists_eq_left', List.length_cons, List.length_nil, Nat.reduceAdd, Nat.reduceLT, reduceCtorEq, implies_true, exists_eq']) (by simp only [tp_0, tp_s, List.cons_append, List.nil_append, f3, Xlj, YoK, XCT, YvX, FrSel, BlkSel, AV.ren, renL, AV.ok, okL, Option.some.injEq, exists_eq_left', List.length_cons, List.length_nil, Nat.reduceAdd, Nat.reduceLT, reduceCtorEq, implies_true, exists_eq'])
  ·exact Bt.sel [0, 3] hh (by decide) (by simp only [f3, Xlj, QQD, zbD, YvX, FrSel, BlkSel, AV.ren, renL, AV.ok, okL, Option.some.injEq, exists_eq_left', List.length_cons, List.length_nil, Nat.reduceAdd, Nat.reduceLT, reduceCtorEq, implies_true, exists_eq']) (by simp only [tp_0, tp_s, List.cons_append, List.nil_append, f3, Xlj, YoK, XCT, YvX, FrSel, BlkSel, AV.ren, renL, AV.ok, okL, Option.some.injEq, exists_eq_left', List.length_cons, List.length_nil, Nat.reduceAdd, Nat.reduceLT, reduceCtorEq, implies_true, exists_eq'])
 ·obtain rfl : k = 32 := by omega
  have g5' : (((32 : Nat) : Int) < 32) = False := eq_false (by decide)
  have y1 : ∀ id, (txV id 32).isStr = false := fun _ => rfl
  have y2 := KBT h (.blk true true (idR.f d)) hL
  have y3 := XED (txB d.l)
  simp only [XUb, KIu, Xgj, if_true, if_false, ↓reduceIte, Nat.reduceAdd, Nat.reduceSub, Nat.reduceLeDiff, Nat.reduceEqDiff, Nat.reduceMul, Nat.reduceLT, Int.reduceLT, Int.reduceLE, Int.reduceEq, CO.tmps, Opd.tmps, optT, Nat.reducePow, Nat.reduceDiv, Nat.reduceMod, g5', y1, y2, y3, zFE, XCT, YoK, QTq, QQD, K8I hh, Option.map_some, decide_true, decide_false, ne_eq, not_false_eq_true, not_true_eq_false, false_implies, forall_const, and_true, true_and]
  exact Bt.drop _ hh rfl rfl
theorem QnE : Spec Tryd.prog 12 zW2 := by
 intro args h v h' e
 unfold zW2 at e
 split at e
 ·obtain ⟨d, hd, e⟩ := Option.map_eq_some_iff.1 e
  cases e
  obtain rfl := KQu hd
  exact FnAt.c (FnAt.frz0 fun hz => zi0 hz d)
 ·cases e
end Go.Proofs.YthhghdebjiiliaaDoor
end
section
namespace Go.Proofs.YthhghdebjiiliaaDoor
open Go.RowKit Go.Lib
def isPr (c : Int) : Bool := (Lib.propertiesTab.getD c.toNat 0).toNat &&& 128 != 0
theorem Jrc (q : Nat) : ((q : Int) != 0) = (q != 0) := by
 by_cases hq : q = 0
 ·subst hq; rfl
 ·have h1 : ((q : Int) != 0) = true := by simp; omega
  have h2 : (q != 0) = true := by simp; omega
  rw [h1, h2]
set_option maxHeartbeats 2000000 in
set_option maxRecDepth 1000000 in
theorem JzZ (c : Nat) (w : World) (hc : c < 256) (hcell : w.cell? ⟨0, c, none⟩ = some (.int .u8 (Lib.propertiesTab.getD c 0))) :
  Calls Tryd.prog 35 #[.int .i32 c] w fun e w' => e = .returned (.bool (isPr c)) ∧ w' = w := by
 obtain ⟨-, -, -, p4, p5⟩ := Lib.props_all ⟨c, hc⟩
 simp only at p4 p5
 unfold isPr
 rw [Int.toNat_natCast]
 generalize Lib.propertiesTab.getD c 0 = pv at *
 have hand : bits .and .u8 pv 128 = ((pv.toNat &&& 128 : Nat) : Int) := u8_and pv 128 p4 p5 (by decide) (by decide)
 generalize pv.toNat &&& 128 = q at *
 have hcz : (c : Int) ≤ 255 := by omega
 have hcz2 : (c : Int) < 256 := by omega
 go_enter Tryd.func35, Tryd.ntmps35
 go_wp2
 all_goals (go_ret; refine ⟨congrArg Ending.returned ?_, rfl⟩; show Value.bool _ = Value.bool _; refine congrArg Value.bool ?_; exact Jrc q)
theorem K1u {N : Nat} {w : World} (g : GG N w) {c : Nat} (hc : c < 256) : w.cell? ⟨0, c, none⟩ = some (.int .u8 (Lib.propertiesTab.getD c 0)) := by
 obtain ⟨_, _, cs, e, fz, h1, h2⟩ := g
 unfold World.cell?
 simp only [h1, Option.isSome_none, Bool.false_eq_true, if_false]
 exact h2 c hc
theorem Xoq {h : List AB} (c : Nat) (hc : c < 256) : FnC Tryd.prog 35 [.i .i32 c] h (.b (isPr c)) h := by
 refine ⟨⟨_, _, Tryd.func35, by decide, rfl⟩, fun ρ w vals hr hv => ?_⟩
 obtain ⟨N, g⟩ := hr.gl.some
 obtain ⟨hs, hvv⟩ := hv
 obtain ⟨l⟩ := vals
 match l, hs, hvv with
 | [x], _, hvv =>
  have hx := hvv 0 _ x rfl rfl
  cases hx
  refine (JzZ c w hc (K1u g hc)).mono ?_
  rintro e' w' ⟨rfl, rfl⟩
  exact ⟨_, ρ, rfl, .b _, hr, (Eff.refl ρ h w').p (Ext.refl _) (by rw [hr.len]; exact Nat.le_refl _)⟩
def JXM (args : List AV) (_ : GT) (_ : Nat) : Option (AV × HE) :=
 match args with
 | [.i .i32 c] => match c with
  | .ofNat n => match Nat.blt n 256 with
   | true => some (.b (isPr (.ofNat n)), .z)
   | false => none
  | .negSucc _ => none
 | _ => none
theorem YL7 : NvOk Tryd.prog 35 JXM := fun args g h v e hg q => by
 unfold JXM at q
 split at q
 ·split at q
  ·rename_i n
   split at q
   ·rename_i hn
    cases q
    exact ⟨Xoq n (by rw [Nat.blt_eq] at hn; exact hn), trivial⟩
   ·cases q
  ·cases q
 ·cases q
end Go.Proofs.YthhghdebjiiliaaDoor
end
section
namespace Go.Proofs.YthhghdebjiiliaaDoor
def tl0 : List (Option TC) := [none, none, none, none, some (.cf w4), none, none, none, some (.cf w8), some (.cf w9), none, some (.cf w11), none, some (.cf w13), some (.cf w14), some (.cf w15)]
theorem ta0 : AllN Tryd.prog 0 tl0 := (AllN.skip (AllN.skip (AllN.skip (AllN.skip (AllN.cons Tryd.func4 sw4 (AllN.skip (AllN.skip (AllN.skip (AllN.cons Tryd.func8 sw8 (AllN.cons Tryd.func9 sw9 (AllN.skip (AllN.cons Tryd.func11 sw11 (AllN.skip (AllN.cons Tryd.func13 sw13 (AllN.cons Tryd.func14 sw14 (AllN.cons Tryd.func15 sw15 trivial))))))))))))))))
def tl1 : List (Option TC) := [some (.cf w16), some (.cf w17), some (.cf w18), some (.cf w19), none, none, none, some (.cf w23), some (.cf w24), some (.cf w25), some (.cf w26), none, none, some (.cf w29), some (.cf w30), some (.cf w31)]
theorem ta1 : AllN Tryd.prog 16 tl1 := (AllN.cons Tryd.func16 sw16 (AllN.cons Tryd.func17 sw17 (AllN.cons Tryd.func18 sw18 (AllN.cons Tryd.func19 sw19 (AllN.skip (AllN.skip (AllN.skip (AllN.cons Tryd.func23 sw23 (AllN.cons Tryd.func24 sw24 (AllN.cons Tryd.func25 sw25 (AllN.cons Tryd.func26 sw26 (AllN.skip (AllN.skip (AllN.cons Tryd.func29 sw29 (AllN.cons Tryd.func30 sw30 (AllN.cons Tryd.func31 sw31 trivial))))))))))))))))
def tl2 : List (Option TC) := [some (.cf w32), some (.cf w33), some (.cf w34), some (.nv JXM), some (.cf w36), some (.cf w37), some (.cf w38), some (.cf w39), some (.cf w40), some (.cf w41), some (.cf w42), none, some (.cf w44), some (.cf w45), some (.cf w46), some (.cf w47)]
theorem ta2 : AllN Tryd.prog 32 tl2 := (AllN.cons Tryd.func32 sw32 (AllN.cons Tryd.func33 sw33 (AllN.cons Tryd.func34 sw34 (AllN.nv YL7 (AllN.cons Tryd.func36 sw36 (AllN.cons Tryd.func37 sw37 (AllN.cons Tryd.func38 sw38 (AllN.cons Tryd.func39 sw39 (AllN.cons Tryd.func40 sw40 (AllN.cons Tryd.func41 sw41 (AllN.cons Tryd.func42 sw42 (AllN.skip (AllN.cons Tryd.func44 sw44 (AllN.cons Tryd.func45 sw45 (AllN.cons Tryd.func46 sw46 (AllN.cons Tryd.func47 sw47 trivial))))))))))))))))
def tl3 : List (Option TC) := [none, some (.cf w49), some (.cf w50), some (.cf w51), none, none, some (.cf w54), some (.cf w55), none, none, none, none, none, none, none, none]
theorem ta3 : AllN Tryd.prog 48 tl3 := (AllN.skip (AllN.cons Tryd.func49 sw49 (AllN.cons Tryd.func50 sw50 (AllN.cons Tryd.func51 sw51 (AllN.skip (AllN.skip (AllN.cons Tryd.func54 sw54 (AllN.cons Tryd.func55 sw55 (AllN.skip (AllN.skip (AllN.skip (AllN.skip (AllN.skip (AllN.skip (AllN.skip (AllN.skip trivial))))))))))))))))
def tls : List (List (Option TC)) := [tl0, tl1, tl2, tl3]
noncomputable def TT : TB := tabn tls
theorem JIl : zDq Tryd.prog TT := QrT tls (AllNs.cons ta0 (AllNs.cons ta1 (AllNs.cons ta2 (AllNs.cons ta3 trivial))))
end Go.Proofs.YthhghdebjiiliaaDoor
end
section
namespace Go.Proofs.YthhghdebjiiliaaDoor
theorem ct8 : runT TT 60 w8 = true := by kernel_rfl
theorem fc8 (h : List AB) : FnC Tryd.prog 8 [] h (.b true) h := FnC.closed (by kernel_rfl) JIl 60 8 (by kernel_rfl) ct8 h
end Go.Proofs.YthhghdebjiiliaaDoor
end
section
namespace Go.Proofs.YthhghdebjiiliaaDoor
set_option maxRecDepth 100000
set_option maxHeartbeats 4000000
def idD (s : List UInt8) : Dg := if idF s = none then ⟨idBs s, X7v s⟩ else XB5
theorem Ypo (s : List UInt8) : idC s = idR.f (idD s) := by
 unfold idC idD
 split <;> rfl
theorem JhG (s : List UInt8) : idV s = .tu [.ag (idR.f (idD s)), fltA 8 (idF s)] := by
 unfold idV
 rw [Ypo]
theorem qDJ (e : Int) (x : Option Nat) : ∃ a b, fltA e x = .ag [.i .i64 a, .i .i64 b] := by
 cases x with
 | none => exact ⟨0, 0, rfl⟩
 | some p => exact ⟨e, p, rfl⟩
def qzP : List AV → List AB → Option (AV × List AB)
 | [], h => some (.b true, h)
 | _, _ => none
theorem Kb7 : Spec Tryd.prog 8 qzP := by
 intro args h v h' e
 unfold qzP at e
 split at e
 ·cases e
  exact fc8 _
 ·cases e
theorem XXH {h : List AB} (hz : h.map AB.freeze = h) (s : List UInt8) (d : Dg) : FnAt Tryd.prog 3 [.s s, .ag (idR.f d)] h (.b true) h := by
 refine FnAt.run (by kernel_rfl) (T := ⟨[⟨8, qzP, fun _ => []⟩, ⟨9, T_ID, fun _ => []⟩, ⟨10, T_ID, fun _ => []⟩, ⟨11, zW2, fun _ => []⟩, ⟨12, zW2, fun _ => []⟩], []⟩) ⟨⟨Kb7, QKC, Xbf, Jpw, QnE, trivial⟩, trivial⟩ Tryd.func3 sw3 fun ho hh => ?_
 unfold w3
 have f1 : (idR.f d).length = 32 := idR.len d
 have f2 := QGw d
 have f3 := fun q => XiP q d
 have f4 : (idR.f d).take 32 = idR.f d := List.take_of_length_le (by omega)
 by_cases g1 : (200 : Int) < (s.length : Int)
 ·have g1' := eq_true g1
  simp only [XSG, YPr, XUb, KIu, Xgj, if_true, if_false, ↓reduceIte, Nat.reduceAdd, Nat.reduceSub, Nat.reduceLeDiff, Nat.reduceEqDiff, Nat.reduceMul, Nat.reduceLT, Int.reduceLT, Int.reduceLE, Int.reduceEq, CO.tmps, Opd.tmps, optT, Nat.reducePow, Nat.reduceDiv, Nat.reduceMod, g1', qzP, f1, f2, f3, f4, J9H, qiT, decide_true, decide_false, ne_eq, not_false_eq_true, not_true_eq_false, false_implies, forall_const, and_true, true_and]
  exact Bt.dropB _ hh rfl
 have g1' := eq_false g1
 have l1 : (s.length ≤ 1000000) = True := eq_true (by omega)
 obtain ⟨a, b, hf⟩ := qDJ 8 (idF s)
 have hv : idV s = .tu [.ag (idR.f (idD s)), .ag [.i .i64 a, .i .i64 b]] := by rw [JhG, hf]
 obtain ⟨D, hD⟩ : ∃ D, D = idD s := ⟨_, rfl⟩
 rw [← hD] at hv
 have e1 : (idR.f D).length = 32 := idR.len D
 have e2 := QGw D
 have e3 := fun q => XiP q D
 have e4 : (idR.f D).take 32 = idR.f D := List.take_of_length_le (by omega)
 have e5 : ∀ l : List AV, l.length = 32 → over l 0 (idR.f D) = idR.f D := fun l hl => by
  simp only [over, List.take_zero, List.nil_append, Nat.zero_add]
  rw [List.drop_eq_nil_of_le (by omega), List.append_nil]
 have q1 : qE2 [CK.i, CK.i, CK.i, CK.i, CK.i, CK.i, CK.i, CK.i, CK.i, CK.i, CK.i, CK.i, CK.i, CK.i, CK.i, CK.i, CK.i, CK.i, CK.i, CK.i, CK.i, CK.i, CK.i, CK.i, CK.i, CK.i, CK.i, CK.i, CK.i, CK.i, CK.i, CK.i] (idR.f D) (idR.f D) = some true := by
  have := Xrx D D
  rw [decide_eq_true rfl] at this
  exact this
 have q2 : qE2 [CK.i, CK.i] [.i .i64 a, .i .i64 b] [.i .i64 a, .i .i64 b] = some true := by simp [qE2, YLt]
 have tg := JnU d
 simp only [XSG, YPr, XUb, KIu, Xgj, if_true, if_false, ↓reduceIte, Nat.reduceAdd, Nat.reduceSub, Nat.reduceLeDiff, Nat.reduceEqDiff, Nat.reduceMul, Nat.reduceLT, Int.reduceLT, Int.reduceLE, Int.reduceEq, CO.tmps, Opd.tmps, optT, Nat.reducePow, Nat.reduceDiv, Nat.reduceMod, g1', l1, qzP, T_ID, zW2, tg, hv, f1, f2, f3, f4, e1, e2, e3, e4, e5, q1, q2, KHr, J9H, qiT, K8I hh, KAP hz, qnX hz, Jod hz, Option.map_some, decide_true, decide_false, ne_eq, not_false_eq_true, not_true_eq_false, false_implies, forall_const, and_true, true_and]
 exact Bt.dropB _ hh rfl
end Go.Proofs.YthhghdebjiiliaaDoor
end
