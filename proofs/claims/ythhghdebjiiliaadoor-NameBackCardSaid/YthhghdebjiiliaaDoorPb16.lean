/- Part 16 of what the laws' proofs rest on. No condition. -/
import Derived.Test.YthhghdebjiiliaaDoorPb15
set_option linter.all false
section
namespace Go.Proofs.YthhghdebjiiliaaDoor
set_option maxRecDepth 100000
set_option maxHeartbeats 4000000
def hexP (c : Int) : Prop := (48 ≤ c ∧ c ≤ 57) ∨ (97 ≤ c ∧ c ≤ 102)
instance (c : Int) : Decidable (hexP c) := inferInstanceAs (Decidable (_ ∨ _))
def Jtp : List AV → List AB → Option (AV × List AB)
 | [.i .i32 c], h => some (.b (decide (hexP c)), h)
 | _, _ => none
theorem Qfm : Spec Tryd.prog 39 Jtp := by
 intro args h v h' e
 unfold Jtp at e
 split at e
 ·rename_i c
  cases e
  refine FnAt.c (FnAt.run (by kernel_rfl) (T := ⟨[], []⟩) ⟨trivial, trivial⟩ Tryd.func39 sw39 fun ho hh => ?_)
  unfold w39
  by_cases h1 : 97 ≤ c <;> by_cases h2 : c ≤ 102 <;> by_cases h3 : 48 ≤ c <;> by_cases h4 : c ≤ 57 <;>
   (simp only [XSG, YPr, XUb, KIu, Xgj, if_true, if_false, ↓reduceIte, Nat.reduceAdd, Nat.reduceSub, Nat.reduceLeDiff, Nat.reduceEqDiff, Nat.reduceMul, Nat.reduceLT, Int.reduceLT, Int.reduceLE, Int.reduceEq, CO.tmps, Opd.tmps, optT, Nat.reducePow, Nat.reduceDiv, Nat.reduceMod, h1, h2, h3, h4, decide_true, decide_false]; exact Bt.dropB _ hh (by simp [hexP, h1, h2, h3, h4]))
 ·cases e
abbrev QX := List UInt8 × Nat
def YfK (q : QX) (c : Int) : Option QX :=
 match q.1 with
 | x :: w => if c = (x.toNat : Int) ∧ c < 128 then some (w, q.2) else none
 | [] => if 0 < q.2 ∧ hexP c then some ([], q.2 - 1) else none
def Y9b (q : QX) : Bool := match q.1 with
 | _ :: _ => false
 | [] => decide (q.2 = 0)
theorem qBA (q : QX) (c : Int) (h : 128 ≤ c) : YfK q c = none := by
 unfold YfK
 split
 ·exact if_neg (by omega)
 ·exact if_neg (by unfold hexP; omega)
def digB (n : Nat) (k : Int) : List AB := [.blk true true [.i .i64 k], .blk false true [.f (.func 38) [] [.p (n + 0) 0], .b (decide (k = 0))]]
def KdF : List AV → List AB → Option (AV × List AB)
 | [.i .i64 k], h => some (.p (h.length + 1) 0, h ++ digB h.length k)
 | _, _ => none
theorem J14 : Spec Tryd.prog 25 KdF := by
 intro args h v h' e
 unfold KdF at e
 split at e
 ·rename_i k
  cases e
  refine FnAt.c (FnAt.run (by kernel_rfl) (T := ⟨[], []⟩) ⟨trivial, trivial⟩ Tryd.func25 sw25 fun ho hh => ?_)
  unfold w25 digB
  simp only [XSG, YPr, XUb, KIu, Xgj, if_true, if_false, ↓reduceIte, Nat.reduceAdd, Nat.reduceSub, Nat.reduceLeDiff, Nat.reduceEqDiff, Nat.reduceMul, Nat.reduceLT, Int.reduceLT, Int.reduceLE, Int.reduceEq, CO.tmps, Opd.tmps, optT, Nat.reducePow, Nat.reduceDiv, Nat.reduceMod]
  exact Bt.wk1 (Wk.refl _)
 ·cases e
def zse : List AV → List AB → Option (AV × List AB)
 | [.i .i32 c, .p b 0], h => match ldV h none (.p b 0) with
  | some (.i .i64 k) => if 0 ≤ k ∧ k ≤ 1000 then (if 0 < k ∧ hexP c then some (.p (h.length + 1) 0, h ++ digB h.length (k - 1)) else some (.np, h)) else none
  | _ => none
 | _, _ => none
theorem zv5 : Spec Tryd.prog 38 zse := by
 intro args h v h' e
 unfold zse at e
 split at e
 ·rename_i c b
  split at e
  ·rename_i k l1
   split at e
   ·rename_i hk
    have m1 : ldV (h ++ []) none (.p b 0) = some (.i .i64 k) := by rw [List.append_nil]; exact l1
    have w1 : IntKind.i64.wrap (k - 1) = k - 1 := Jeb (by unfold In64; omega)
    refine FnAt.c (FnAt.run (by kernel_rfl) (T := ⟨[⟨39, Jtp, fun _ => []⟩, ⟨25, KdF, fun _ => []⟩], []⟩) ⟨⟨Qfm, J14, trivial⟩, trivial⟩ Tryd.func38 sw38 fun ho hh => ?_)
    unfold w38
    by_cases h0 : 0 < k
    ·by_cases hc : hexP c
     ·rw [if_pos ⟨h0, hc⟩] at e
      cases e
      simp only [XSG, YPr, XUb, KIu, Xgj, if_true, if_false, ↓reduceIte, Nat.reduceAdd, Nat.reduceSub, Nat.reduceLeDiff, Nat.reduceEqDiff, Nat.reduceMul, Nat.reduceLT, Int.reduceLT, Int.reduceLE, Int.reduceEq, CO.tmps, Opd.tmps, optT, Nat.reducePow, Nat.reduceDiv, Nat.reduceMod, Jtp, KdF, m1, w1, eq_true h0, eq_true hc, decide_true, decide_false, ne_eq, not_false_eq_true, not_true_eq_false, false_implies, forall_const, and_true, true_and]
      exact Bt.wk1 (Wk.refl _)
     ·rw [if_neg (fun z => hc z.2)] at e
      cases e
      simp only [XSG, YPr, XUb, KIu, Xgj, if_true, if_false, ↓reduceIte, Nat.reduceAdd, Nat.reduceSub, Nat.reduceLeDiff, Nat.reduceEqDiff, Nat.reduceMul, Nat.reduceLT, Int.reduceLT, Int.reduceLE, Int.reduceEq, CO.tmps, Opd.tmps, optT, Nat.reducePow, Nat.reduceDiv, Nat.reduceMod, Jtp, KdF, m1, w1, eq_true h0, eq_false hc, decide_true, decide_false, ne_eq, not_false_eq_true, not_true_eq_false, false_implies, forall_const, and_true, true_and]
      exact zKe
    ·rw [if_neg (fun z => h0 z.1)] at e
     cases e
     simp only [XSG, YPr, XUb, KIu, Xgj, if_true, if_false, ↓reduceIte, Nat.reduceAdd, Nat.reduceSub, Nat.reduceLeDiff, Nat.reduceEqDiff, Nat.reduceMul, Nat.reduceLT, Int.reduceLT, Int.reduceLE, Int.reduceEq, CO.tmps, Opd.tmps, optT, Nat.reducePow, Nat.reduceDiv, Nat.reduceMod, Jtp, KdF, m1, w1, eq_false h0, decide_true, decide_false, ne_eq, not_false_eq_true, not_true_eq_false, false_implies, forall_const, and_true, true_and]
     exact zKe
   ·cases e
  ·cases e
 ·cases e
def preB (n : Nat) (w : List UInt8) (j : Nat) : List AB := [.blk true true [.s w], .blk false true [.p j 0], .blk false true [.f (.func 37) [] [.p (n + 0) 0, .p (n + 1) 0], .b false]]
def preV (w : List UInt8) (j : Nat) (h : List AB) : AV × List AB := match w with
 | [] => (.p j 0, h)
 | _ :: _ => (.p (h.length + 2) 0, h ++ preB h.length w j)
def YBP : List AV → List AB → Option (AV × List AB)
 | [.s w, .p j 0], h => if j < h.length then some (preV w j h) else none
 | _, _ => none
theorem zmz : Spec Tryd.prog 24 YBP := by
 intro args h v h' e
 unfold YBP at e
 split at e
 ·rename_i w j
  split at e
  ·rename_i hj
   refine FnAt.c (FnAt.run (by kernel_rfl) (T := ⟨[], []⟩) ⟨trivial, trivial⟩ Tryd.func24 sw24 fun ho hh => ?_)
   unfold w24
   cases w with
   | nil =>
    cases e
    have hnil : (([] : List UInt8) = []) = True := eq_true rfl
    simp only [XSG, YPr, XUb, KIu, Xgj, if_true, if_false, ↓reduceIte, Nat.reduceAdd, Nat.reduceSub, Nat.reduceLeDiff, Nat.reduceEqDiff, Nat.reduceMul, Nat.reduceLT, Int.reduceLT, Int.reduceLE, Int.reduceEq, CO.tmps, Opd.tmps, optT, Nat.reducePow, Nat.reduceDiv, Nat.reduceMod, KHr, hnil, decide_true, decide_false, ne_eq, not_false_eq_true, not_true_eq_false, false_implies, forall_const, and_true, true_and]
    exact Bt.drop _ hh rfl (by simp [AV.ok, hj])
   | cons x w =>
    cases e
    have hnil : (x :: w = ([] : List UInt8)) = False := eq_false (by simp)
    simp only [XSG, YPr, XUb, KIu, Xgj, if_true, if_false, ↓reduceIte, Nat.reduceAdd, Nat.reduceSub, Nat.reduceLeDiff, Nat.reduceEqDiff, Nat.reduceMul, Nat.reduceLT, Int.reduceLT, Int.reduceLE, Int.reduceEq, CO.tmps, Opd.tmps, optT, Nat.reducePow, Nat.reduceDiv, Nat.reduceMod, KHr, hnil, decide_true, decide_false, ne_eq, not_false_eq_true, not_true_eq_false, false_implies, forall_const, and_true, true_and]
    exact Bt.wk1 (Wk.refl _)
  ·cases e
 ·cases e
def zKq : List AV → List AB → Option (AV × List AB)
 | [.i .i32 c, .p b1 0, .p b2 0], h => match ldV h none (.p b1 0), ldV h none (.p b2 0) with
  | some (.s (x :: w)), some (.p j 0) => if j < h.length then (if c = (x.toNat : Int) then some (preV w j h) else some (.np, h)) else none
  | _, _ => none
 | _, _ => none
theorem que (h : List AB) (o : Option Nat) (v : AV) : ldV (h.map AB.freeze) o v = ldV h o v := by
 have hr : ∀ i, JZy (h.map AB.freeze) i = JZy h i := fun i => by
  unfold JZy
  rw [List.getElem?_map]
  cases h[i]? with
  | none => rfl
  | some B => cases B <;> rfl
 unfold ldV
 simp only [hr]
theorem zEW (x : UInt8) (w : List UInt8) : slS (x :: w) (some (.i .i64 1)) none = some (.s w) := KeA (l := x :: w) (n := 1) .i64 (by simp)
theorem qjC (w : List UInt8) (j : Nat) (h : List AB) : ∃ v n, preV w j h = (v, h ++ n) ∧ ∀ h0 : List AB, h0.length = h.length → preV w j h0 = (v, h0 ++ n) := by
 cases w with
 | nil => exact ⟨.p j 0, [], by simp [preV], fun h0 _ => by simp [preV]⟩
 | cons x w => exact ⟨.p (h.length + 2) 0, preB h.length (x :: w) j, rfl, fun h0 e => by simp only [preV, e]⟩
theorem ZVZ {h : List AB} {i o : Nat} {v : AV} (e : ldV h none (.p i o) = some v) : i < h.length := by
 simp only [ldV, JZy] at e
 by_cases hi : i < h.length
 ·exact hi
 ·rw [List.getElem?_eq_none (by omega)] at e
  cases e
theorem QS8 {h : List AB} (hz : h.map AB.freeze = h) {c : Int} {b1 b2 j : Nat} {x : UInt8} {w : List UInt8} (l1 : ldV h none (.p b1 0) = some (.s (x :: w))) (l2 : ldV h none (.p b2 0) = some (.p j 0)) (hj : j < h.length) {v : AV} {n : List AB}
  (e : (if c = (x.toNat : Int) then preV w j h else (.np, h)) = (v, h ++ n)) : FnAt Tryd.prog 37 [.i .i32 c, .p b1 0, .p b2 0] h v (h ++ n) := by
 have m1 : ldV (h ++ []) none (.p b1 0) = some (.s (x :: w)) := by rw [List.append_nil]; exact l1
 have m2 : ldV (h ++ []) none (.p b2 0) = some (.p j 0) := by rw [List.append_nil]; exact l2
 have x1 : ixsV (.s (x :: w)) (.i .i64 0) = some (.i .u8 (x.toNat : Int)) := z29 (l := x :: w) (n := 0) .i64 (by simp)
 have e32 : IntKind.i32.wrap (x.toNat : Int) = (x.toNat : Int) := YuS (by omega) (by have := x.toNat_lt; omega)
 have hj' : (j < h.length + 0) = True := eq_true hj
 have o1 : (b1 < h.length + 0) = True := eq_true (ZVZ l1)
 have o2 : (b2 < h.length + 0) = True := eq_true (ZVZ l2)
 refine FnAt.run (by kernel_rfl) (T := ⟨[⟨24, YBP, fun _ => []⟩], []⟩) ⟨⟨zmz, trivial⟩, trivial⟩ Tryd.func37 sw37 fun ho hh => ?_
 unfold w37
 by_cases hc : c = (x.toNat : Int)
 ·rw [if_pos hc] at e
  cases w with
  | nil =>
   have hp : ∀ H, preV [] j H = (.p j 0, H) := fun _ => rfl
   rw [hp] at e
   obtain ⟨rfl, e2⟩ := Prod.mk.inj e
   have : n = [] := by simpa using e2
   subst this
   simp only [XSG, YPr, XUb, KIu, Xgj, if_true, if_false, ↓reduceIte, Nat.reduceAdd, Nat.reduceSub, Nat.reduceLeDiff, Nat.reduceEqDiff, Nat.reduceMul, Nat.reduceLT, Int.reduceLT, Int.reduceLE, Int.reduceEq, CO.tmps, Opd.tmps, optT, Nat.reducePow, Nat.reduceDiv, Nat.reduceMod, QgH, qTS, zEW, Y1l, e32, x1, m1, m2, YBP, hj', o1, o2, hp, eq_true hc, K8I hh, KAP hz, qnX hz, Jod hz, Option.map_some, Option.map_none, decide_true, decide_false, ne_eq, not_false_eq_true, not_true_eq_false, false_implies, forall_const, and_true, true_and, if_true]
   exact Bt.wk1 (Wk.refl _)
  | cons y w =>
   have hp : ∀ anc past, preV (y :: w) j (h ++ mskQ h.length 0 anc past []) = (.p (h.length + 2) 0, h ++ (mskQ h.length 0 anc past [] ++ preB h.length (y :: w) j)) := fun anc past => by
    simp only [preV, List.length_append, Yho, List.length_nil, Nat.add_zero, List.append_assoc]
   have e2 : (.p (h.length + 2) 0, h ++ preB h.length (y :: w) j) = (v, h ++ n) := e
   obtain ⟨e3, e4⟩ := Prod.mk.inj e2
   subst e3
   have : n = preB h.length (y :: w) j := (List.append_cancel_left e4).symm
   subst this
   simp only [XSG, YPr, XUb, KIu, Xgj, if_true, if_false, ↓reduceIte, Nat.reduceAdd, Nat.reduceSub, Nat.reduceLeDiff, Nat.reduceEqDiff, Nat.reduceMul, Nat.reduceLT, Int.reduceLT, Int.reduceLE, Int.reduceEq, CO.tmps, Opd.tmps, optT, Nat.reducePow, Nat.reduceDiv, Nat.reduceMod, QgH, qTS, zEW, Y1l, e32, x1, m1, m2, YBP, hj', o1, o2, hp, preB, eq_true hc, K8I hh, KAP hz, qnX hz, Jod hz, Option.map_some, Option.map_none, decide_true, decide_false, ne_eq, not_false_eq_true, not_true_eq_false, false_implies, forall_const, and_true, true_and, if_true]
   exact Bt.wk1 (Wk.refl _)
 ·rw [if_neg hc] at e
  obtain ⟨rfl, e2⟩ := Prod.mk.inj e
  have : n = [] := by simpa using e2
  subst this
  simp only [XSG, YPr, XUb, KIu, Xgj, if_true, if_false, ↓reduceIte, Nat.reduceAdd, Nat.reduceSub, Nat.reduceLeDiff, Nat.reduceEqDiff, Nat.reduceMul, Nat.reduceLT, Int.reduceLT, Int.reduceLE, Int.reduceEq, CO.tmps, Opd.tmps, optT, Nat.reducePow, Nat.reduceDiv, Nat.reduceMod, QgH, qTS, Y1l, e32, x1, m1, m2, YBP, hj', eq_false hc, Option.map_some, Option.map_none, decide_true, decide_false, ne_eq, not_false_eq_true, not_true_eq_false, false_implies, forall_const, and_true, true_and]
  exact Bt.wk1 (Wk.refl _)
theorem YA9 : Spec Tryd.prog 37 zKq := by
 intro args h v h' e
 unfold zKq at e
 split at e
 ·rename_i c b1 b2
  split at e
  ·rename_i x w j l1 l2
   split at e
   ·rename_i hj
    obtain ⟨v0, n, q1, q2⟩ := qjC w j h
    have q3 := q2 (h.map AB.freeze) (List.length_map _)
    have hj' : j < (h.map AB.freeze).length := by rw [List.length_map]; exact hj
    by_cases hc : c = (x.toNat : Int)
    ·rw [if_pos hc, q1] at e
     cases e
     exact FnAt.c (FnAt.frz fun hz => QS8 hz (by rw [que]; exact l1) (by rw [que]; exact l2) hj' (by rw [if_pos hc, q3]))
    ·rw [if_neg hc] at e
     cases e
     have := FnAt.frz (P := Tryd.prog) (g := 37) (args := [.i .i32 c, .p b1 0, .p b2 0]) (h := h) (a := .np) (new := []) fun hz => QS8 hz (by rw [que]; exact l1) (by rw [que]; exact l2) hj' (by rw [if_neg hc, List.append_nil])
     rw [List.append_nil] at this
     exact FnAt.c this
   ·cases e
  ·cases e
 ·cases e
def KQs : Tab := [⟨37, zKq, fun _ => []⟩, ⟨38, zse, fun _ => []⟩]
theorem YPg : Qkp (Spec Tryd.prog) KQs := ⟨YA9, zv5, trivial⟩
def RepN (h : List AB) (j n : Nat) : Prop := n ≤ 1000 ∧ ∃ b, JZy h j = some [.f (.func 38) [] [.p b 0], .b (decide ((n : Int) = 0))] ∧ JZy h b = some [.i .i64 n]
def repX (h : List AB) (j : Nat) (q : QX) : Prop := match q.1 with
 | [] => RepN h j q.2
 | x :: w => (∀ b ∈ x :: w, b.toNat < 128) ∧ ∃ b1 b2 j', JZy h j = some [.f (.func 37) [] [.p b1 0, .p b2 0], .b false] ∧ JZy h b1 = some [.s (x :: w)] ∧ JZy h b2 = some [.p j' 0] ∧ RepN h j' q.2
theorem RepN.mono {H H' : List AB} {j n : Nat} (hs : SameRd H H') (h : RepN H j n) : RepN H' j n := by
 obtain ⟨h0, b, q1, q2⟩ := h
 exact ⟨h0, b, hs _ _ q1, hs _ _ q2⟩
theorem RepN.lt {H : List AB} {j n : Nat} (h : RepN H j n) : j < H.length := by
 obtain ⟨_, b, q1, _⟩ := h
 unfold JZy at q1
 by_cases hi : j < H.length
 ·exact hi
 ·rw [List.getElem?_eq_none (by omega)] at q1; cases q1
theorem RepN.new (H : List AB) (n : Nat) (hn : n ≤ 1000) : RepN (H ++ digB H.length n) (H.length + 1) n := ⟨hn, H.length + 0, zYT _ _ 1 _ _ _ rfl, zYT _ _ 0 _ _ _ rfl⟩
theorem zmx {H : List AB} {j n : Nat} (w : List UInt8) (ha : ∀ b ∈ w, b.toNat < 128) (h : RepN H j n) : ∃ j' L, preV w j H = (.p j' 0, H ++ L) ∧ repX (H ++ L) j' (w, n) := by
 cases w with
 | nil => exact ⟨j, [], by simp [preV], by rw [List.append_nil]; exact h⟩
 | cons x w => exact ⟨H.length + 2, preB H.length (x :: w) j, rfl, ha, H.length + 0, H.length + 1, j, zYT _ _ 2 _ _ _ rfl, zYT _ _ 0 _ _ _ rfl, zYT _ _ 1 _ _ _ rfl, h.mono (SameRd.app _ _)⟩
theorem ZCb {H : List AB} {b : Nat} {v : AV} (h : JZy H b = some [v]) : ldV H none (.p b 0) = some v := by
 simp only [ldV, h, Option.bind_some]
 rfl
def autX : Aut KQs QX where
 step := YfK
 ends := Y9b
 Rep := repX
 big := qBA
 mono {H H' j q} hs h := by
  obtain ⟨w, n⟩ := q
  cases w
  ·exact RepN.mono hs h
  ·obtain ⟨h0, b1, b2, j', q1, q2, q3, q4⟩ := h
   exact ⟨h0, b1, b2, j', hs _ _ q1, hs _ _ q2, hs _ _ q3, q4.mono hs⟩
 cel {H j q} h := by
  obtain ⟨w, n⟩ := q
  cases w with
  | nil =>
   obtain ⟨hn, b, q1, q2⟩ := h
   dsimp only at hn q1 q2
   have hn : n ≤ 1000 := hn
   have l1 := ZCb q2
   have hends : decide ((n : Int) = 0) = Y9b ([], n) := decide_eq_decide.2 (by dsimp only; omega)
   have hT : ∀ c, zse [.i .i32 c, .p b 0] H = if 0 < n ∧ hexP c then some (.p (H.length + 1) 0, H ++ digB H.length ((n - 1 : Nat) : Int)) else some (.np, H) := fun c => by
    have z1 : (0 ≤ (n : Int) ∧ (n : Int) ≤ 1000) := by omega
    simp only [zse, l1, if_pos z1]
    by_cases hc : 0 < n ∧ hexP c
    ·rw [if_pos hc, if_pos ⟨by omega, hc.2⟩, show ((n : Int) - 1) = ((n - 1 : Nat) : Int) from by omega]
    ·rw [if_neg hc, if_neg (fun z => hc ⟨by omega, z.2⟩)]
   refine ⟨_, _, _, by rw [q1, hends], fun c => ⟨fun e => ?_, fun q' e => ?_⟩⟩
   ·by_cases hc : 0 < n ∧ hexP c
    ·rw [show YfK ([], n) c = some ([], n - 1) from if_pos hc] at e; cases e
    ·have := hT c
     rw [if_neg hc] at this
     exact this
   ·by_cases hc : 0 < n ∧ hexP c
    ·rw [show YfK ([], n) c = some ([], n - 1) from if_pos hc] at e
     cases e
     have := hT c
     rw [if_pos hc] at this
     exact ⟨_, _, this, RepN.new H (n - 1) (by omega)⟩
    ·rw [show YfK ([], n) c = none from if_neg hc] at e; cases e
  | cons x w =>
   obtain ⟨h0, b1, b2, j', q1, q2, q3, q4⟩ := h
   have l1 := ZCb q2
   have l2 := ZCb q3
   have ha := h0 x List.mem_cons_self
   obtain ⟨j2, L, p1, p2⟩ := zmx (H := H) w (fun b hb => h0 b (List.mem_cons_of_mem _ hb)) q4
   have hT : ∀ c, zKq [.i .i32 c, .p b1 0, .p b2 0] H = if c = (x.toNat : Int) then some (.p j2 0, H ++ L) else some (.np, H) := fun c => by
    simp only [zKq, l1, l2, if_pos q4.lt, p1]
   refine ⟨_, _, _, q1, fun c => ⟨fun e => ?_, fun q' e => ?_⟩⟩
   ·by_cases hc : c = (x.toNat : Int)
    ·rw [show YfK (x :: w, n) c = some (w, n) from if_pos ⟨hc, by omega⟩] at e; cases e
    ·have := hT c
     rw [if_neg hc] at this
     exact this
   ·by_cases hc : c = (x.toNat : Int)
    ·rw [show YfK (x :: w, n) c = some (w, n) from if_pos ⟨hc, by omega⟩] at e
     cases e
     have := hT c
     rw [if_pos hc] at this
     exact ⟨j2, L, this, p2⟩
    ·rw [show YfK (x :: w, n) c = none from if_neg (fun z => hc z.1)] at e; cases e
open Classical in
noncomputable def Kzt (q : QX) : List AV → List AB → Option (AV × List AB)
 | [.s s, .p j 0, .i .i64 e], h => if repX h j q ∧ s.length ≤ 1000000 then some (fltA e (runB YfK Y9b s 0 q), h) else none
 | _, _ => none
theorem YMG (q : QX) : Spec Tryd.prog 23 (Kzt q) := by
 intro args h v h' e
 unfold Kzt at e
 split at e
 ·split at e
  ·rename_i hc
   cases e
   exact FnAt.c (runA YPg autX (q0 := q) hc.1 hc.2)
  ·cases e
 ·cases e
end Go.Proofs.YthhghdebjiiliaaDoor
end
section
namespace Go.Proofs.YthhghdebjiiliaaDoor
set_option maxRecDepth 100000
def hexD (b : UInt8) : Nat := if b.toNat ≤ 57 then b.toNat - 48 else b.toNat - 87
theorem zwt {b : UInt8} (h : hexP (b.toNat : Int)) : hexD b < 16 := by unfold hexP at h; unfold hexD; split <;> omega
def QlD : List UInt8 := [115, 104, 97, 50, 53, 54, 58]
def idBs (s : List UInt8) : List UInt8 := (List.range 32).map fun i => UInt8.ofNat (hexD (s.getD (7 + 2 * i) 0) * 16 + hexD (s.getD (8 + 2 * i) 0))
theorem X7v (s : List UInt8) : (idBs s).length = 32 := by simp [idBs]
theorem JpI (s : List UInt8) {i : Nat} (h : i < 32) : (idBs s).getD i 0 = UInt8.ofNat (hexD (s.getD (7 + 2 * i) 0) * 16 + hexD (s.getD (8 + 2 * i) 0)) := by
 rw [List.getD_eq_getElem?_getD, idBs, List.getElem?_map, List.getElem?_range h]
 rfl
def idF (s : List UInt8) : Option Nat := runB YfK Y9b s 0 (QlD, 64)
theorem Jte : ∀ (s w : List UInt8) (n pos : Nat), runB YfK Y9b s pos (w, n) = none → ∃ t, s = w ++ t ∧ t.length = n ∧ ∀ b ∈ t, hexP (b.toNat : Int) := by
 intro s
 induction s with
 | nil =>
  intro w n pos h
  cases w with
  | nil =>
   by_cases hn : n = 0
   ·exact ⟨[], rfl, hn.symm, by simp⟩
   ·simp [runB, Y9b, hn] at h
  | cons x w => simp [runB, Y9b] at h
 | cons b s ih =>
  intro w n pos h
  cases w with
  | nil =>
   simp only [runB, YfK] at h
   by_cases hb : b.toNat < 128
   ·rw [if_pos hb] at h
    by_cases hc : 0 < n ∧ hexP (b.toNat : Int)
    ·rw [if_pos hc] at h
     obtain ⟨t, e1, e2, e3⟩ := ih [] (n - 1) (pos + 1) h
     refine ⟨b :: t, by rw [e1]; rfl, by simp [e2]; omega, fun y hy => ?_⟩
     rcases List.mem_cons.1 hy with rfl | hy
     ·exact hc.2
     ·exact e3 y hy
    ·rw [if_neg hc] at h; cases h
   ·rw [if_neg hb] at h; cases h
  | cons x w =>
   simp only [runB, YfK] at h
   by_cases hb : b.toNat < 128
   ·rw [if_pos hb] at h
    by_cases hc : ((b.toNat : Int) = (x.toNat : Int) ∧ (b.toNat : Int) < 128)
    ·rw [if_pos hc] at h
     obtain ⟨t, e1, e2, e3⟩ := ih w n (pos + 1) h
     have : b = x := UInt8.toNat_inj.1 (by omega)
     subst this
     exact ⟨t, by rw [e1]; rfl, e2, e3⟩
    ·rw [if_neg hc] at h; cases h
   ·rw [if_neg hb] at h; cases h
theorem qVI {s : List UInt8} (h : idF s = none) : s.length = 71 ∧ ∀ i, i < 64 → hexP ((s.getD (7 + i) 0).toNat : Int) := by
 obtain ⟨t, e1, e2, e3⟩ := Jte s QlD 64 0 h
 subst e1
 refine ⟨by simp [QlD, e2], fun i hi => ?_⟩
 have : (QlD ++ t).getD (7 + i) 0 = t.getD i 0 := by
  rw [List.getD_eq_getElem?_getD, List.getElem?_append_right (by simp [QlD]), List.getD_eq_getElem?_getD]
  simp [QlD]
 rw [this, List.getD_eq_getElem?_getD, List.getElem?_eq_getElem (by omega)]
 exact e3 _ (List.getElem_mem _)
def idC (s : List UInt8) : List AV := if idF s = none then (idBs s).map u8A else List.replicate 32 (.i .u8 0)
def idV (s : List UInt8) : AV := .tu [.ag (idC s), fltA 8 (idF s)]
noncomputable def T_ID : List AV → List AB → Option (AV × List AB)
 | [.s s], h => if s.length ≤ 1000000 then some (idV s, h) else none
 | _, _ => none
def QMW (l : List UInt8) (k : Nat) : List AV := (l.take k).map u8A ++ List.replicate (32 - k) (.i .u8 0)
def qZZ (l : List UInt8) (k : Nat) (v : Nat) : List AV := (l.take k).map u8A ++ .i .u8 (v : Int) :: List.replicate (31 - k) (.i .u8 0)
theorem XPP (l : List UInt8) {k : Nat} (h : k < 32) : QMW l k = qZZ l k 0 := by
 unfold QMW qZZ
 rw [show 32 - k = (31 - k) + 1 from by omega, List.replicate_succ]
 rfl
theorem zoY (l : List UInt8) {k : Nat} (h : k < 32) (hl : l.length = 32) : qZZ l k (l.getD k 0).toNat = QMW l (k + 1) := by
 unfold QMW qZZ
 rw [show 32 - (k + 1) = 31 - k from by omega, List.take_succ_eq_append_getElem (by omega), List.map_append, List.append_assoc, List.getD_eq_getElem?_getD, List.getElem?_eq_getElem (by omega)]
 rfl
theorem JW7 (l : List UInt8) (hl : l.length = 32) : QMW l 32 = l.map u8A := by
 unfold QMW
 rw [List.take_of_length_le (by omega), Nat.sub_self, List.replicate_zero, List.append_nil]
theorem qcX (l : List UInt8) {k v : Nat} (h : k < 32) (hl : l.length = 32) : (qZZ l k v).length = 32 := by
 unfold qZZ
 rw [List.length_append, List.length_map, List.length_take, List.length_cons, List.length_replicate]
 omega
theorem J09 (l : List UInt8) {k v : Nat} (h : k < 32) (hl : l.length = 32) : (qZZ l k v)[k]? = some (.i .u8 (v : Int)) := by
 unfold qZZ
 have h1 : ((l.take k).map u8A).length = k := by rw [List.length_map, List.length_take]; omega
 rw [List.getElem?_append_right (by omega), h1, Nat.sub_self]
 rfl
theorem JPE (l : List UInt8) {k v v' : Nat} (h : k < 32) (hl : l.length = 32) : over (qZZ l k v) k [.i .u8 (v' : Int)] = qZZ l k v' := by
 unfold qZZ over
 have h1 : ((l.take k).map u8A).length = k := by rw [List.length_map, List.length_take]; omega
 rw [List.take_append_of_le_length (by omega), List.take_of_length_le (by omega), List.drop_append, List.drop_eq_nil_of_le (by rw [h1]; omega), h1, List.length_singleton, show k + 1 - k = 1 from by omega, List.append_assoc]
 rfl
theorem Ydm (q : Nat → Bool) : ∀ l : List UInt8, okL q (l.map u8A) = true
 | [] => rfl
 | _ :: l => by
  have := Ydm q l
  simp only [List.map_cons, okL, this, Bool.and_true]
  rfl
theorem qiS {l : List UInt8} (h : l.length = 32) : (l.map u8A).length = 32 ∧ (l.map u8A).take 32 = l.map u8A ∧ (l.map u8A).all (wrOk true) = true ∧ (∀ q, okL q (l.map u8A) = true) ∧ over (l.map u8A) 0 (l.map u8A) = l.map u8A := by
 have e : (l.map u8A).length = 32 := by rw [List.length_map, h]
 refine ⟨e, List.take_of_length_le (by omega), List.all_eq_true.2 fun a ha => ?_, fun q => Ydm q l, ?_⟩
 ·obtain ⟨b, _, rfl⟩ := List.mem_map.1 ha
  rfl
 ·simp only [over, List.take_zero, List.nil_append, Nat.zero_add]
  rw [List.drop_eq_nil_of_le (by omega), List.append_nil]
end Go.Proofs.YthhghdebjiiliaaDoor
end
section
namespace Go.Proofs.YthhghdebjiiliaaDoor
def iaaV (k sz : Nat) (x i : AV) : Option AV := match x, i with
 | .p id off, .i _ n => if 0 ≤ n ∧ n < k then some (.p id (off + n.toNat * sz)) else none
 | _, _ => none
theorem JLg {T : Env} {fr : List AV} {h : List AB} (k sz : Nat) (x i : Opd) : opR T (.iaa k sz x i) fr h = (iaaV k sz (x.ev fr) (i.ev fr)).map (·, h) := by
 show (match x.ev fr, i.ev fr with
  | .p id off, .i _ n => if 0 ≤ n ∧ n < k then some (AV.p id (off + n.toNat * sz), h) else none
  | _, _ => none) = _
 unfold iaaV
 split
 ·split <;> rfl
 ·rfl
theorem Yf9 (k sz id off : Nat) (kk : IntKind) (n : Nat) (hn : n < k) : iaaV k sz (.p id off) (.i kk (n : Int)) = some (.p id (off + n * sz)) := by
 unfold iaaV
 simp only [Int.toNat_natCast]
 rw [if_pos ⟨by omega, by omega⟩]
end Go.Proofs.YthhghdebjiiliaaDoor
end
section
namespace Go.Proofs.YthhghdebjiiliaaDoor
set_option maxRecDepth 100000
set_option maxHeartbeats 4000000
def qDK : List AV → List AB → Option (AV × List AB)
 | [.s l, .i .u8 n], h => some (.i .i64 (bixV l n), h)
 | _, _ => none
theorem q1k : Spec Tryd.prog 50 qDK := by
 intro args h v h' e
 unfold qDK at e
 split at e
 ·rename_i l n
  cases e
  refine FnAt.c (FnAt.run (by kernel_rfl) (T := ⟨[], []⟩) ⟨trivial, trivial⟩ Tryd.func50 sw50 fun ho hh => ?_)
  unfold w50
  simp only [XSG, YPr, XUb, KIu, Xgj, if_true, if_false, ↓reduceIte, Nat.reduceAdd, Nat.reduceSub, Nat.reduceLeDiff, Nat.reduceEqDiff, Nat.reduceMul, Nat.reduceLT, Int.reduceLT, Int.reduceLE, Int.reduceEq, CO.tmps, Opd.tmps, optT, Nat.reducePow, Nat.reduceDiv, Nat.reduceMod, qRe]
  exact Bt.drop _ hh rfl rfl
 ·cases e
theorem z8J : Spec Tryd.prog 40 qDK := by
 intro args h v h' e
 unfold qDK at e
 split at e
 ·rename_i l n
  cases e
  refine FnAt.c (FnAt.run (by kernel_rfl) (T := ⟨[⟨50, qDK, fun _ => []⟩], []⟩) ⟨⟨q1k, trivial⟩, trivial⟩ Tryd.func40 sw40 fun ho hh => ?_)
  unfold w40
  simp only [XSG, YPr, XUb, KIu, Xgj, if_true, if_false, ↓reduceIte, Nat.reduceAdd, Nat.reduceSub, Nat.reduceLeDiff, Nat.reduceEqDiff, Nat.reduceMul, Nat.reduceLT, Int.reduceLT, Int.reduceLE, Int.reduceEq, CO.tmps, Opd.tmps, optT, Nat.reducePow, Nat.reduceDiv, Nat.reduceMod, qDK]
  exact Bt.drop _ hh rfl rfl
 ·cases e
def ZLS : List AV → List AB → Option (AV × List AB)
 | [.s l, .i .i32 c], h => if 0 ≤ c ∧ c < 128 then some (.i .i64 (bixV l c), h) else none
 | _, _ => none
theorem KLb {x : Int} (h1 : 0 ≤ x) (h2 : x ≤ 255) : IntKind.u8.wrap x = x := by
 simp [IntKind.wrap, IntKind.bits, IntKind.signed]
 omega
theorem Ky4 : Spec Tryd.prog 26 ZLS := by
 intro args h v h' e
 unfold ZLS at e
 split at e
 ·rename_i l c
  split at e
  ·rename_i hc
   cases e
   refine FnAt.c (FnAt.run (by kernel_rfl) (T := ⟨[⟨40, qDK, fun _ => []⟩], []⟩) ⟨⟨z8J, trivial⟩, trivial⟩ Tryd.func26 sw26 fun ho hh => ?_)
   unfold w26
   have c1 : (0 ≤ c) = True := eq_true hc.1
   have c2 : (c < 128) = True := eq_true hc.2
   have w1 : IntKind.u8.wrap c = c := KLb hc.1 (by omega)
   simp only [XSG, YPr, XUb, KIu, Xgj, if_true, if_false, ↓reduceIte, Nat.reduceAdd, Nat.reduceSub, Nat.reduceLeDiff, Nat.reduceEqDiff, Nat.reduceMul, Nat.reduceLT, Int.reduceLT, Int.reduceLE, Int.reduceEq, CO.tmps, Opd.tmps, optT, Nat.reducePow, Nat.reduceDiv, Nat.reduceMod, qDK, c1, c2, w1, Y1l, Option.map_some, decide_true, decide_false, ne_eq, not_false_eq_true, not_true_eq_false, false_implies, forall_const, and_true, true_and]
   exact Bt.drop _ hh rfl rfl
  ·cases e
 ·cases e
def hexS : List UInt8 := [48, 49, 50, 51, 52, 53, 54, 55, 56, 57, 97, 98, 99, 100, 101, 102]
theorem QQw : ∀ n : _root_.Fin 128, hexP (n.val : Int) → bixV hexS (n.val : Int) = (hexD (UInt8.ofNat n.val) : Int) := by decide +kernel
theorem KnQ {b : UInt8} (h : hexP (b.toNat : Int)) : bixV hexS (b.toNat : Int) = (hexD b : Int) := by
 have hb : b.toNat < 128 := by unfold hexP at h; omega
 have := QQw ⟨b.toNat, hb⟩ h
 rw [UInt8.ofNat_toNat] at this
 exact this
theorem YoI {d : Nat} (h : d < 16) : binV .shl (.i .u8 (d : Int)) (.i .u64 4) = some (.i .u8 ((d * 16 : Nat) : Int)) := by
 have e : binV .shl (.i .u8 (d : Int)) (.i .u64 4) = some (.i .u8 (IntKind.u8.wrap ((d : Int) * 16))) := rfl
 rw [e, KLb (by omega) (by omega)]
 rfl
theorem X73 : ∀ d e : _root_.Fin 16, IntKind.u8.wrap (BitVec.ofInt IntKind.u8.bits ((d.val * 16 : Nat) : Int) ||| BitVec.ofInt IntKind.u8.bits (e.val : Int)).toNat = ((d.val * 16 + e.val : Nat) : Int) := by decide +kernel
theorem XSD {d e : Nat} (h : d < 16) (h2 : e < 16) : binV .or (.i .u8 ((d * 16 : Nat) : Int)) (.i .u8 (e : Int)) = some (.i .u8 ((d * 16 + e : Nat) : Int)) := by
 have e1 : binV .or (.i .u8 ((d * 16 : Nat) : Int)) (.i .u8 (e : Int)) = some (.i .u8 (IntKind.u8.wrap (BitVec.ofInt IntKind.u8.bits ((d * 16 : Nat) : Int) ||| BitVec.ofInt IntKind.u8.bits (e : Int)).toNat)) := by simp [binV, binI]
 rw [e1, X73 ⟨d, h⟩ ⟨e, h2⟩]
theorem Kat {fr : List AV} {h : List AB} {P : Program} {p n m : Nat} {sz sz' : Option Nat} {a : AV} {h' : List AB} : (∃ v, resV fr h [RC.cell n sz, RC.cell m sz'] = some v ∧ Bt P p [v] h [a] h') = FinO P p ((ldV h sz (pl fr n)).bind fun x => (ldV h sz' (pl fr m)).map fun y => .tu [x, y]) h a h' := by
 have e : resV fr h [RC.cell n sz, RC.cell m sz'] = (ldV h sz (pl fr n)).bind fun x => (ldV h sz' (pl fr m)).map fun y => .tu [x, y] := by
  simp only [resV, JBx, qdM, Jnt, Option.bind_some]
  cases ldV h sz (pl fr n) with
  | none => rfl
  | some x =>
   cases ldV h sz' (pl fr m) <;> rfl
 rw [e]
 rfl
theorem JTS {h : List AB} (hz : h.map AB.freeze = h) {s : List UInt8} (hs : s.length ≤ 1000000) : FnAt Tryd.prog 9 [.s s] h (idV s) h := by
 refine FnAt.run (by kernel_rfl) (T := ⟨[⟨25, KdF, fun _ => []⟩, ⟨24, YBP, fun _ => []⟩, ⟨23, Kzt (QlD, 64), fun _ => []⟩, ⟨26, ZLS, fun _ => []⟩], []⟩) ⟨⟨J14, zmz, YMG _, Ky4, trivial⟩, trivial⟩ Tryd.func9 sw9 fun ho hh => ?_
 unfold w9 idV idC
 have hd : ∀ H, KdF [.i .i64 64] H = some (.p (H.length + 1) 0, H ++ digB H.length 64) := fun _ => rfl
 have hpre : ∀ j H, preV [115, 104, 97, 50, 53, 54, 58] j H = (.p (H.length + 2) 0, H ++ preB H.length QlD j) := fun _ _ => rfl
 have hr : ∀ A B, repX (h ++ [A, B, .blk true true [.i .i64 64], .blk false true [.f (.func 38) [] [.p (h.length + 2) 0], .b false], .blk true true [.s [115, 104, 97, 50, 53, 54, 58]], .blk false true [.p (h.length + 3) 0], .blk false true [.f (.func 37) [] [.p (h.length + 4) 0, .p (h.length + 5) 0], .b false]]) (h.length + 6) ([115, 104, 97, 50, 53, 54, 58], 64) = True := fun A B =>
  eq_true ⟨by decide, h.length + 4, h.length + 5, h.length + 3, zYT _ _ 6 _ _ _ rfl, zYT _ _ 4 _ _ _ rfl, zYT _ _ 5 _ _ _ rfl, by decide, h.length + 2, zYT _ _ 3 _ _ _ rfl, zYT _ _ 2 _ _ _ rfl⟩
 have hs' := eq_true hs
 cases hf : idF s with
 | some p =>
  have hq : runB YfK Y9b s 0 ([115, 104, 97, 50, 53, 54, 58], 64) = some p := hf
  rw [if_neg (by simp)]
  have qe : qE2 [CK.i, CK.i] [.i .i64 8, .i .i64 (p : Int)] [.i .i64 0, .i .i64 0] = some false := by
   simp [qE2, YLt]
  simp only [XSG, YPr, XUb, KIu, Xgj, if_true, if_false, ↓reduceIte, Nat.reduceAdd, Nat.reduceSub, Nat.reduceLeDiff, Nat.reduceEqDiff, Nat.reduceMul, Nat.reduceLT, Int.reduceLT, Int.reduceLE, Int.reduceEq, CO.tmps, Opd.tmps, optT, Nat.reducePow, Nat.reduceDiv, Nat.reduceMod, hd, hpre, digB, preB, QlD, YBP, Kzt, hr, hs', hq, fltA, qe, K8I hh, KAP hz, qnX hz, Jod hz, Kat, decide_true, decide_false, ne_eq, not_false_eq_true, not_true_eq_false, false_implies, forall_const, and_true, true_and]
  exact Bt.drop _ hh rfl rfl
 | none =>
  have hq : runB YfK Y9b s 0 ([115, 104, 97, 50, 53, 54, 58], 64) = none := hf
  have qe : qE2 [CK.i, CK.i] [.i .i64 0, .i .i64 0] [.i .i64 0, .i .i64 0] = some true := rfl
  rw [if_pos rfl]
  obtain ⟨hlen, hhex⟩ := qVI hf
  simp only [XSG, YPr, XUb, KIu, Xgj, if_true, if_false, ↓reduceIte, Nat.reduceAdd, Nat.reduceSub, Nat.reduceLeDiff, Nat.reduceEqDiff, Nat.reduceMul, Nat.reduceLT, Int.reduceLT, Int.reduceLE, Int.reduceEq, CO.tmps, Opd.tmps, optT, Nat.reducePow, Nat.reduceDiv, Nat.reduceMod, hd, hpre, digB, preB, QlD, YBP, Kzt, hr, hs', hq, fltA, qe, K8I hh, KAP hz, qnX hz, Jod hz, Kat, decide_true, decide_false, ne_eq, not_false_eq_true, not_true_eq_false, false_implies, forall_const, and_true, true_and]
  refine q2Y (S := Nat) (fun k => 32 - k) (fun k => [.s s] ++ tp 1 ++ [.p (h.length + 0) 0, .p (h.length + 1) 0] ++ tp 12 ++ [.i .i64 (k : Int)] ++ tp 28) (fun k => h ++ [.blk true true (QMW (idBs s) k), .blk true true [.i .i64 0, .i .i64 0]]) (fun k => k ≤ 32) 0 (Nat.zero_le _) ?_ fun k hk => ?_
  ·show Bt _ _ _ _ ([.s s] ++ tp 1 ++ [.p (h.length + 0) 0, .p (h.length + 1) 0] ++ tp 12 ++ [.i .i64 0] ++ tp 28) (h ++ [.blk true true [.i .u8 0, .i .u8 0, .i .u8 0, .i .u8 0, .i .u8 0, .i .u8 0, .i .u8 0, .i .u8 0, .i .u8 0, .i .u8 0, .i .u8 0, .i .u8 0, .i .u8 0, .i .u8 0, .i .u8 0, .i .u8 0, .i .u8 0, .i .u8 0, .i .u8 0, .i .u8 0, .i .u8 0, .i .u8 0, .i .u8 0, .i .u8 0, .i .u8 0, .i .u8 0, .i .u8 0, .i .u8 0, .i .u8 0, .i .u8 0, .i .u8 0, .i .u8 0], .blk true true [.i .i64 0, .i .i64 0]])
   exact Bt.sel [0, 1] hh (by decide) (by simp only [YvX, FrSel, BlkSel, AV.ren, renL, AV.ok, okL, Option.some.injEq, exists_eq_left', List.length_cons, List.length_nil, Nat.reduceAdd, Nat.reduceLT, reduceCtorEq, implies_true, exists_eq']) (by simp only [tp_0, tp_s, List.cons_append, List.nil_append, YvX, FrSel, BlkSel, AV.ren, renL, AV.ok, okL, Option.some.injEq, exists_eq_left', List.length_cons, List.length_nil, Nat.reduceAdd, Nat.reduceLT, reduceCtorEq, implies_true, exists_eq'])
  by_cases g5 : k < 32
  ·have g5' : ((k : Int) < 32) = True := eq_true (by omega)
   have w3 : IntKind.i64.wrap ((k : Int) + 1) = ((k + 1 : Nat) : Int) := Jeb (by unfold In64; omega)
   have w4 : IntKind.i64.wrap (2 * (k : Int)) = ((2 * k : Nat) : Int) := by rw [Jeb (by unfold In64; omega)]; omega
   have w5 : IntKind.i64.wrap (7 + ((2 * k : Nat) : Int)) = ((7 + 2 * k : Nat) : Int) := by rw [Jeb (by unfold In64; omega)]; omega
   have w6 : IntKind.i64.wrap (((7 + 2 * k : Nat) : Int) + 2) = ((7 + (2 * k + 2) : Nat) : Int) := by rw [Jeb (by unfold In64; omega)]; omega
   have bm : binV .mul (.i .i64 2) (.i .i64 (k : Int)) = some (.i .i64 (IntKind.i64.wrap (2 * (k : Int)))) := rfl
   have hsl := ZPX (l := s) (n := 7 + 2 * k) (m := 7 + (2 * k + 2)) .i64 .i64 (by omega) (by omega)
   have hL := X7v s
   have hI := JpI s g5
   obtain ⟨a, ha⟩ : ∃ a, s.getD (7 + 2 * k) 0 = a := ⟨_, rfl⟩
   obtain ⟨b, hb⟩ : ∃ b, s.getD (8 + 2 * k) 0 = b := ⟨_, rfl⟩
   have xa : hexP (a.toNat : Int) := by rw [← ha]; exact hhex (2 * k) (by omega)
   have xb : hexP (b.toNat : Int) := by rw [← hb, show 8 + 2 * k = 7 + (2 * k + 1) from by omega]; exact hhex (2 * k + 1) (by omega)
   rw [ha, hb] at hI
   have hab : (s.take (7 + (2 * k + 2))).drop (7 + 2 * k) = [a, b] := by
    have e1 : s[7 + 2 * k]'(by omega) = a := by rw [← ha, List.getD_eq_getElem?_getD, List.getElem?_eq_getElem (by omega)]; rfl
    have e2 : s[7 + 2 * k + 1]'(by omega) = b := by rw [← hb, List.getD_eq_getElem?_getD, show 8 + 2 * k = 7 + 2 * k + 1 from by omega, List.getElem?_eq_getElem (by omega)]; rfl
    rw [List.drop_take, List.drop_eq_getElem_cons (by omega), List.drop_eq_getElem_cons (by omega), e1, e2, show 7 + (2 * k + 2) - (7 + 2 * k) = 2 from by omega]
    rfl
   rw [hab] at hsl
   rw [XPP _ g5]
   simp only [XUb, KIu, Xgj, if_true, if_false, ↓reduceIte, Nat.reduceAdd, Nat.reduceSub, Nat.reduceLeDiff, Nat.reduceEqDiff, Nat.reduceMul, Nat.reduceLT, Int.reduceLT, Int.reduceLE, Int.reduceEq, CO.tmps, Opd.tmps, optT, Nat.reducePow, Nat.reduceDiv, Nat.reduceMod, g5', bm, w3, w4, w5, w6, hsl, qTS, qlo, Option.map_some, decide_true, decide_false, ne_eq, not_false_eq_true, not_true_eq_false, false_implies, forall_const, and_true, true_and]
   refine q2Y (S := Nat × Nat) (fun σ => 2 - σ.1) (fun σ => [.s s] ++ tp 1 ++ [.p (h.length + 0) 0, .p (h.length + 1) 0, .i .i64 (k : Int)] ++ tp 11 ++ [.i .i64 (k : Int)] ++ tp 11 ++ [.p (h.length + 2) 0] ++ tp 16) (fun σ => h ++ [.blk true true (qZZ (idBs s) k σ.2), .blk true true [.i .i64 0, .i .i64 0], itr [a, b] σ.1]) (fun σ => (σ.1 = 0 ∧ σ.2 = 0) ∨ (σ.1 = 1 ∧ σ.2 = hexD a) ∨ (σ.1 = 2 ∧ σ.2 = hexD a * 16 + hexD b)) (0, 0) (.inl ⟨rfl, rfl⟩) (Bt.wk (by simp only [XUb, Xgj, if_true, if_false, reduceIte, Nat.reduceAdd, Nat.reduceSub, Nat.reduceLeDiff, Nat.reduceEqDiff, Nat.reduceMul, Nat.reduceLT, Int.reduceLT, Int.reduceLE, Int.reduceEq])) fun σ hσ => ?_
   obtain ⟨p, v⟩ := σ
   dsimp only at hσ ⊢
   have la := zwt xa
   have lb := zwt xb
   have hn : ∀ A B : AB, nxV (h ++ [A, B, itr [a, b] p]) (.p (h.length + 2) 0) = if p < 2 then some (.tu [.b true, .i .i64 (p : Int), .i .i32 ((Utf8.decode ⟨[a, b].toArray⟩ p).1 : Int)], h ++ [A, B, itr [a, b] (p + (Utf8.decode ⟨[a, b].toArray⟩ p).2)]) else some (.tu [.b false], h ++ [A, B, itr [a, b] p]) := fun A B => Jhu [A, B, itr [a, b] p] 2 [a, b] p rfl
   by_cases p2 : p < 2
   ·obtain ⟨c, hc, xc, hv, hnx⟩ : ∃ c : UInt8, Utf8.decode ⟨[a, b].toArray⟩ p = (c.toNat, 1) ∧ hexP (c.toNat : Int) ∧ v < 16 ∧ ((p + 1 = 0 ∧ v * 16 + hexD c = 0) ∨ (p + 1 = 1 ∧ v * 16 + hexD c = hexD a) ∨ (p + 1 = 2 ∧ v * 16 + hexD c = hexD a * 16 + hexD b)) := by
     rcases hσ with ⟨rfl, rfl⟩ | ⟨rfl, rfl⟩ | ⟨rfl, rfl⟩
     ·exact ⟨a, ZLa (l := [a, b]) (pos := 0) (by simp) (by show a.toNat < 128; unfold hexP at xa; omega), xa, by omega, .inr (.inl ⟨rfl, by omega⟩)⟩
     ·exact ⟨b, ZLa (l := [a, b]) (pos := 1) (by simp) (by show b.toNat < 128; unfold hexP at xb; omega), xb, la, .inr (.inr ⟨rfl, rfl⟩)⟩
     ·omega
    have lc := zwt xc
    have c128 : ((0 : Int) ≤ (c.toNat : Int) ∧ (c.toNat : Int) < 128) = True := eq_true (by unfold hexP at xc; omega)
    have hbx : bixV [48, 49, 50, 51, 52, 53, 54, 55, 56, 57, 97, 98, 99, 100, 101, 102] (c.toNat : Int) = (hexD c : Int) := KnQ xc
    have w8 : IntKind.u8.wrap (hexD c : Int) = (hexD c : Int) := KLb (by omega) (by omega)
    have f1 := YoI hv
    have f2 := XSD hv lc
    have f3 := J09 (v := v) (idBs s) g5 hL
    have f4 := JPE (v := v) (v' := v * 16 + hexD c) (idBs s) g5 hL
    have f5 := qcX (v := v) (idBs s) g5 hL
    have f6 : (k + 1 ≤ 32) = True := eq_true (by omega)
    have p2' := eq_true p2
    simp only [XUb, KIu, Xgj, if_true, if_false, ↓reduceIte, Nat.reduceAdd, Nat.reduceSub, Nat.reduceLeDiff, Nat.reduceEqDiff, Nat.reduceMul, Nat.reduceLT, Int.reduceLT, Int.reduceLE, Int.reduceEq, CO.tmps, Opd.tmps, optT, Nat.reducePow, Nat.reduceDiv, Nat.reduceMod, Y1Q, hn, p2', hc, JLg, Yf9, g5, ZLS, c128, hbx, w8, Y1l, f1, f2, f3, f4, f5, f6, Nat.mul_one, Nat.zero_add, Option.map_some, K8I hh, KAP hz, qnX hz, Jod hz, decide_true, decide_false, ne_eq, not_false_eq_true, not_true_eq_false, false_implies, forall_const, and_true, true_and]
    exact ⟨(of_eq_true c128).2, rfl, rfl, (p + 1, v * 16 + hexD c), hnx, by dsimp only; omega, Bt.wk (by simp only [XUb, Xgj, if_true, if_false, reduceIte, Nat.reduceAdd, Nat.reduceSub, Nat.reduceLeDiff, Nat.reduceEqDiff, Nat.reduceMul, Nat.reduceLT, Int.reduceLT, Int.reduceLE, Int.reduceEq])⟩
   ·have hv : v = ((idBs s).getD k 0).toNat := by
     have : v = hexD a * 16 + hexD b := by rcases hσ with ⟨q, _⟩ | ⟨q, _⟩ | ⟨_, q⟩ <;> omega
     rw [hI, this, UInt8.toNat_ofNat', Nat.mod_eq_of_lt (by omega)]
    have p2' := eq_false p2
    rw [hv, zoY _ g5 hL]
    simp only [XUb, KIu, Xgj, if_true, if_false, ↓reduceIte, Nat.reduceAdd, Nat.reduceSub, Nat.reduceLeDiff, Nat.reduceEqDiff, Nat.reduceMul, Nat.reduceLT, Int.reduceLT, Int.reduceLE, Int.reduceEq, CO.tmps, Opd.tmps, optT, Nat.reducePow, Nat.reduceDiv, Nat.reduceMod, Y1Q, hn, p2', w3, decide_true, decide_false, ne_eq, not_false_eq_true, not_true_eq_false, false_implies, forall_const, and_true, true_and]
    refine ⟨k + 1, g5, by dsimp only; omega, ?_⟩
    exact Bt.sel [0, 1] hh (by decide) (by simp only [YvX, FrSel, BlkSel, AV.ren, renL, AV.ok, okL, Option.some.injEq, exists_eq_left', List.length_cons, List.length_nil, Nat.reduceAdd, Nat.reduceLT, reduceCtorEq, implies_true, exists_eq']) (by simp only [tp_0, tp_s, List.cons_append, List.nil_append, YvX, FrSel, BlkSel, AV.ren, renL, AV.ok, okL, Option.some.injEq, exists_eq_left', List.length_cons, List.length_nil, Nat.reduceAdd, Nat.reduceLT, reduceCtorEq, implies_true, exists_eq'])
  ·have g5' : ((k : Int) < 32) = False := eq_false (by omega)
   obtain rfl : k = 32 := by omega
   rw [JW7 _ (X7v s)]
   obtain ⟨b1, b2, b3, b4, b5⟩ := qiS (X7v s)
   have b6 : ((32 : Nat) ≤ 32) = True := eq_true (Nat.le_refl _)
   simp only [XUb, KIu, Xgj, if_true, if_false, ↓reduceIte, Nat.reduceAdd, Nat.reduceSub, Nat.reduceLeDiff, Nat.reduceEqDiff, Nat.reduceMul, Nat.reduceLT, Int.reduceLT, Int.reduceLE, Int.reduceEq, CO.tmps, Opd.tmps, optT, Nat.reducePow, Nat.reduceDiv, Nat.reduceMod, g5', b1, b2, b3, b4, b5, b6, Knd, K8I hh, KAP hz, qnX hz, Jod hz, Kat, decide_true, decide_false, ne_eq, not_false_eq_true, not_true_eq_false, false_implies, forall_const, and_true, true_and]
   exact Bt.drop _ hh rfl (by simp [AV.ok, okL, b4])
theorem QKC : Spec Tryd.prog 9 T_ID := by
 intro args h v h' e
 unfold T_ID at e
 split at e
 ·split at e
  ·rename_i hs
   cases e
   exact FnAt.c (FnAt.frz0 fun hz => JTS hz hs)
  ·cases e
 ·cases e
end Go.Proofs.YthhghdebjiiliaaDoor
end
section
namespace Go.Proofs.YthhghdebjiiliaaDoor
set_option maxRecDepth 100000
set_option maxHeartbeats 4000000
def hexC (n : Nat) : UInt8 := hexS.getD n 0
def txB (l : List UInt8) : List UInt8 := QlD ++ l.flatMap fun b => [hexC (b.toNat / 16), hexC (b.toNat % 16)]
theorem X1L : ∀ (l : List UInt8), (txB l).length = 7 + 2 * l.length
 | [] => rfl
 | b :: l => by
  have := X1L l
  unfold txB at this ⊢
  rw [List.length_append] at this
  rw [List.flatMap_cons, List.length_append, List.length_append]
  simp only [List.length_cons, List.length_nil] at this ⊢
  omega
theorem qOT (l : List UInt8) (b : UInt8) : txB (l ++ [b]) = txB l ++ [hexC (b.toNat / 16), hexC (b.toNat % 16)] := by
 unfold txB
 rw [List.flatMap_append, List.append_assoc, List.flatMap_cons, List.flatMap_nil, List.append_nil]
def txV (id k : Nat) : AV := .sl id 0 (7 + 2 * k) (7 + 2 * k) (if k = 0 then none else some 1)
def txK (l : List UInt8) (k : Nat) : AB := .blk true (!(k == 0)) ((txB (l.take k)).map u8A)
theorem txW {h L : List AB} {i k : Nat} {l : List UInt8} (hk : k < 32) (hl : l.length = 32) (hL : L[i]? = some (txK l k)) (x y : UInt8) :
  ∃ L', appW (h ++ L) true 1 1 (txV (h.length + i) k) 2 [.i .u8 (x.toNat : Int), .i .u8 (y.toNat : Int)] = some (.sl (h.length + L.length) 0 (7 + 2 * k + 2) (7 + 2 * k + 2) (some 1), h ++ (L' ++ [.blk true true ((txB (l.take k)).map u8A ++ [.i .u8 (x.toNat : Int), .i .u8 (y.toNat : Int)])])) ∧ L'.length = L.length ∧ L' = (if k = 0 then L else L.set i .dead) := by
 have hlen : ((txB (l.take k)).map u8A).length = 7 + 2 * k := by rw [List.length_map, X1L, List.length_take]; omega
 have hi : i < L.length := (List.getElem?_eq_some_iff.1 hL).1
 have hg : (h ++ L)[h.length + i]? = some (txK l k) := by rw [zu6]; exact hL
 unfold txV appW
 dsimp only
 rw [if_neg (by decide), if_neg (by omega), hg]
 unfold txK
 dsimp only
 rw [if_pos ⟨rfl, by omega, by omega, by unfold maxLen; omega⟩]
 have ht : (((txB (l.take k)).map u8A).drop 0).take ((7 + 2 * k) * 1) = (txB (l.take k)).map u8A := by rw [List.drop_zero, List.take_of_length_le (by omega)]
 by_cases k0 : k = 0
 ·subst k0
  rw [if_pos rfl, if_pos rfl, if_pos rfl, ht]
  exact ⟨L, by rw [List.length_append, List.append_assoc], rfl, rfl⟩
 ·rw [if_neg k0, if_neg k0, if_neg (by simp), if_pos ⟨rfl, by decide, by simpa using k0, by omega⟩, List.drop_zero, List.set_append_right _ _ (by omega), Nat.add_sub_cancel_left, List.append_assoc, List.length_append]
  exact ⟨_, rfl, List.length_set .., rfl⟩
theorem Q7L {l : List UInt8} {k : Nat} (hk : k < 32) (hl : l.length = 32) {b : UInt8} (hb : l.getD k 0 = b) : AB.blk true true ((txB (l.take k)).map u8A ++ [.i .u8 ((hexC (b.toNat / 16)).toNat : Int), .i .u8 ((hexC (b.toNat % 16)).toNat : Int)]) = txK l (k + 1) := by
 have : l.take (k + 1) = l.take k ++ [b] := by
  rw [List.take_succ_eq_append_getElem (by omega), ← hb, List.getD_eq_getElem?_getD, List.getElem?_eq_getElem (by omega)]
  rfl
 unfold txK
 rw [this, qOT, List.map_append]
 rfl
def ixaN (k sz : Nat) (agg : Bool) : AV → AV → Option AV
 | .ag l, .i _ n => if 0 ≤ n ∧ n < k then (if agg then some (.ag ((l.drop (n.toNat * sz)).take sz)) else l[n.toNat * sz]?) else none
 | _, _ => none
theorem ZSF {T : Env} {fr : List AV} {h : List AB} (k sz : Nat) (agg : Bool) (x i : Opd) : opR T (.ixa k sz agg x i) fr h = (ixaN k sz agg (x.ev fr) (i.ev fr)).map (·, h) := by
 show (match x.ev fr, i.ev fr with | .ag l, .i _ n => _ | _, _ => _) = _
 unfold ixaN
 split
 ·split
  ·split <;> rfl
  ·rfl
 ·rfl
theorem zDp {d : Dg} {k : Nat} (hk : k < 32) {b : UInt8} (hb : d.l.getD k 0 = b) : (idR.f d)[k]? = some (.i .u8 (b.toNat : Int)) := by
 show (d.l.map u8A)[k]? = _
 have hl := d.h
 rw [List.getElem?_map, List.getElem?_eq_getElem (by omega), ← hb, List.getD_eq_getElem?_getD, List.getElem?_eq_getElem (by omega)]
 rfl
theorem qzn {d : Dg} {k : Nat} (hk : k < 32) {b : UInt8} (hb : d.l.getD k 0 = b) (kk : IntKind) : ixaN 32 1 false (.ag (idR.f d)) (.i kk (k : Int)) = some (.i .u8 (b.toNat : Int)) := by
 unfold ixaN
 dsimp only
 rw [if_pos (by omega), if_neg (by decide), Int.toNat_natCast, Nat.mul_one]
 exact zDp hk hb
open Classical in
noncomputable def dgOf (a : AV) : Option Dg := if e : ∃ y, a = .ag (idR.f y) then some e.choose else none
theorem JnU (y : Dg) : dgOf (.ag (idR.f y)) = some y := by
 unfold dgOf
 have hx : ∃ z, AV.ag (idR.f y) = .ag (idR.f z) := ⟨y, rfl⟩
 rw [dif_pos hx]
 have := hx.choose_spec
 injection this with h
 rw [idR.inj _ _ h.symm]
theorem KQu {a : AV} {y : Dg} (e : dgOf a = some y) : a = .ag (idR.f y) := by
 unfold dgOf at e
 split at e
 ·rename_i h
  cases e
  exact h.choose_spec
 ·cases e
noncomputable def zW2 : List AV → List AB → Option (AV × List AB)
 | [a], h => (dgOf a).map fun d => (.s (txB d.l), h)
 | _, _ => none
def s2sW (h : List AB) : AV → Option (AV × List AB)
 | .sl id off n c k => if n = 0 then none else match h[id]? with
   | some (.blk fl true xs) => some (.sl id off n c k, h.set id (.blk fl false xs))
   | _ => none
 | _ => none
theorem zE5 {T : Env} {fr : List AV} {h : List AB} (x : Opd) : opR T (.s2s x) fr h = s2sW h (x.ev fr) := by
 rw [QS3]
 generalize x.ev fr = v
 cases v <;> rfl
theorem qLz (L : List AB) (i off n c : Nat) (k : Option Nat) (fl : Bool) (xs : List AV) (hn : n ≠ 0) (hL : L[i]? = some (.blk fl true xs)) (h : List AB) : s2sW (h ++ L) (.sl (h.length + i) off n c k) = some (.sl (h.length + i) off n c k, h ++ L.set i (.blk fl false xs)) := by
 unfold s2sW
 dsimp only
 rw [if_neg hn, zu6, hL]
 dsimp only
 rw [List.set_append_right _ _ (by omega), Nat.add_sub_cancel_left]
theorem KvG (A : AB) (h : List AB) (xs : List AV) : s2sW (h ++ [A, .blk true true xs]) (.sl (h.length + 1) 0 7 7 none) = some (.sl (h.length + 1) 0 7 7 none, h ++ [A, .blk true false xs]) :=
 qLz [A, .blk true true xs] 1 0 7 7 none true xs (by decide) rfl h
theorem QbS (b : UInt8) : binV .shr (.i .u8 (b.toNat : Int)) (.i .u64 4) = some (.i .u8 ((b.toNat / 16 : Nat) : Int)) := by
 have e : binV .shr (.i .u8 (b.toNat : Int)) (.i .u64 4) = some (.i .u8 ((b.toNat : Int).fdiv 16)) := rfl
 rw [e, Int.fdiv_eq_ediv_of_nonneg _ (by decide)]
 rfl
theorem Zxr : ∀ n : _root_.Fin 256, IntKind.u8.wrap (BitVec.ofInt IntKind.u8.bits (n.val : Int) &&& BitVec.ofInt IntKind.u8.bits 15).toNat = ((n.val % 16 : Nat) : Int) := by decide +kernel
theorem qxQ (b : UInt8) : binV .and (.i .u8 (b.toNat : Int)) (.i .u8 15) = some (.i .u8 ((b.toNat % 16 : Nat) : Int)) := by
 have e1 : binV .and (.i .u8 (b.toNat : Int)) (.i .u8 15) = some (.i .u8 (IntKind.u8.wrap (BitVec.ofInt IntKind.u8.bits (b.toNat : Int) &&& BitVec.ofInt IntKind.u8.bits 15).toNat)) := by simp [binV, binI]
 have := Zxr ⟨b.toNat, b.toNat_lt⟩
 dsimp only at this
 rw [e1, this]
theorem JP6 {n : Nat} (h : n < 16) : ixsV (.s [48, 49, 50, 51, 52, 53, 54, 55, 56, 57, 97, 98, 99, 100, 101, 102]) (.i .u8 (n : Int)) = some (.i .u8 ((hexC n).toNat : Int)) := z29 (l := hexS) (n := n) .u8 h
theorem XCT (q : Nat → Bool) (id k : Nat) (h : q id = true) : (txV id k).ok q = true := by unfold txV; simp [AV.ok, h]
theorem YoK (f : Nat → Nat) (id k : Nat) : (txV id k).ren f = txV (f id) k := _root_.id rfl
theorem QTq (id k : Nat) : idOf (txV id k) = [id] := _root_.id rfl
theorem QQD (q : Nat → Bool) (l : List UInt8) (k : Nat) : (txK l k).ok q = true := _root_.id rfl
theorem Xlj (f : Nat → Nat) (d : Dg) : renL f (idR.f d) = idR.f d := by
 show renL f (d.l.map u8A) = d.l.map u8A
 generalize d.l = l
 induction l with
 | nil => rfl
 | cons a l ih => simp only [List.map_cons, renL, ih]; rfl
theorem zbD (q : Nat → Bool) (f : Nat → Nat) (l : List UInt8) (k : Nat) : BWk q f (txK l k) (txK l k) = True := eq_true ⟨fun h => h, rfl⟩
theorem zFE {T : Env} {fr : List AV} {h : List AB} (x : Opd) : opR T (.b2s x) fr h = if (x.ev fr).isStr then none else (srcV h 1 (x.ev fr)).bind fun p => (bytesOf p.2).map fun l => (.s l, h) := _root_.id rfl
theorem KBT (h : List AB) (A : AB) {l : List UInt8} (hl : l.length = 32) : srcV (h ++ [A, txK l 32]) 1 (txV (h.length + 1) 32) = some (71, (txB l).map u8A) := by
 have hg : JZy (h ++ [A, txK l 32]) (h.length + 1) = some ((txB (l.take 32)).map u8A) := by
  unfold JZy
  rw [zu6]
  rfl
 have hx := X1L l
 unfold txV srcV
 dsimp only
 rw [List.take_of_length_le (by omega)] at hg
 rw [if_neg (by decide), hg, Option.bind_some, if_pos (by rw [List.length_map]; omega), List.drop_zero, List.take_of_length_le (by rw [List.length_map]; omega)]
theorem Y7p {h : List AB} (hz : h.map AB.freeze = h) (d : Dg) : FnAt Tryd.prog 11 [.ag (idR.f d)] h (.s (txB d.l)) h := by
 refine FnAt.run (by kernel_rfl) (T := ⟨[], []⟩) ⟨trivial, trivial⟩ Tryd.func11 sw11 fun ho hh => ?_
 unfold w11
 have hL := d.h
 have f1 : (idR.f d).length = 32 := idR.len d
 have f2 := QGw d
 have f3 := fun q => XiP q d
 have f4 : (idR.f d).take 32 = idR.f d := List.take_of_length_le (by omega)
 simp only [XSG, YPr, XUb, KIu, Xgj, if_true, if_false, ↓reduceIte, Nat.reduceAdd, Nat.reduceSub, Nat.reduceLeDiff, Nat.reduceEqDiff, Nat.reduceMul, Nat.reduceLT, Int.reduceLT, Int.reduceLE, Int.reduceEq, CO.tmps, Opd.tmps, optT, Nat.reducePow, Nat.reduceDiv, Nat.reduceMod, zE5, KvG, f1, f2, f3, f4, decide_true, decide_false, ne_eq, not_false_eq_true, not_true_eq_false, false_implies, forall_const, and_true, true_and]
 refine q2Y (S := Nat) (fun k => 32 - k) (fun k => [.ag (idR.f d), .p (h.length + 0) 0, .s [], txV (h.length + 1) k] ++ tp 4 ++ [.ag (idR.f d), .i .i64 (k : Int)] ++ tp 14) (fun k => h ++ [.blk true true (idR.f d), txK d.l k]) (fun k => k ≤ 32) 0 (Nat.zero_le _) ?_ fun k hk => ?_
 ·show Bt _ _ _ _ ([.ag (idR.f d), .p (h.length + 0) 0, .s [], .sl (h.length + 1) 0 7 7 none] ++ tp 4 ++ [.ag (idR.f d), .i .i64 0] ++ tp 14) (h ++ [.blk true true (idR.f d), .blk true false [.i .u8 115, .i .u8 104, .i .u8 97, .i .u8 50, .i .u8 53, .i .u8 54, .i .u8 58]])
  exact Bt.sel [0, 1] hh (by decide) (by simp only [f3, Xlj, YvX, FrSel, BlkSel, AV.ren, renL, AV.ok, okL, Option.some.injEq, exists_eq_left', List.length_cons, List.length_nil, Nat.reduceAdd, Nat.reduceLT, reduceCtorEq, implies_true, exists_eq']) (by simp only [tp_0, tp_s, List.cons_append, List.nil_append, f3, Xlj, YvX, FrSel, BlkSel, AV.ren, renL, AV.ok, okL, Option.some.injEq, exists_eq_left', List.length_cons, List.length_nil, Nat.reduceAdd, Nat.reduceLT, reduceCtorEq, implies_true, exists_eq'])
 by_cases g5 : k < 32
 ·have g5' : ((k : Int) < 32) = True := eq_true (by omega)
  have w1 : IntKind.i64.wrap ((k : Int) + 1) = ((k + 1 : Nat) : Int) := Jeb (by unfold In64; omega)
  obtain ⟨b, hb⟩ : ∃ b, d.l.getD k 0 = b := ⟨_, rfl⟩
  have x1 := qzn (d := d) g5 hb .i64
  have x2 := QbS b
  have x3 := qxQ b
  have x4 := JP6 (n := b.toNat / 16) (by have := b.toNat_lt; omega)
  have x5 := JP6 (n := b.toNat % 16) (by omega)
  have x6 := Q7L g5 hL hb
  have x7 : ∀ A B : AB, appW (h ++ [A, txK d.l k, B]) true 1 1 (txV (h.length + 1) k) 2 [.i .u8 ((hexC (b.toNat / 16)).toNat : Int), .i .u8 ((hexC (b.toNat % 16)).toNat : Int)] = some (.sl (h.length + 3) 0 (7 + 2 * k + 2) (7 + 2 * k + 2) (some 1), h ++ [A, (if k = 0 then txK d.l k else .dead), B, txK d.l (k + 1)]) := fun A B => by
   obtain ⟨L', e, _, e2⟩ := txW (h := h) (L := [A, txK d.l k, B]) (i := 1) g5 hL rfl (hexC (b.toNat / 16)) (hexC (b.toNat % 16))
   rw [e, x6, e2]
   split <;> rfl
  simp only [XUb, KIu, Xgj, if_true, if_false, ↓reduceIte, Nat.reduceAdd, Nat.reduceSub, Nat.reduceLeDiff, Nat.reduceEqDiff, Nat.reduceMul, Nat.reduceLT, Int.reduceLT, Int.reduceLE, Int.reduceEq, CO.tmps, Opd.tmps, optT, Nat.reducePow, Nat.reduceDiv, Nat.reduceMod, g5', w1, x1, x2, x3, x4, x5, x7, QgH, ZSF, XCT, YoK, QTq, QQD, K8I hh, KAP hz, qnX hz, Jod hz, Option.map_some, decide_true, decide_false, ne_eq, not_false_eq_true, not_true_eq_false, false_implies, forall_const, and_true, true_and]
  refine ⟨by split <;> rfl, k + 1, g5, by dsimp only; omega, ?_⟩
  dsimp only
  rw [show (AV.sl (h.length + 3) 0 (7 + (2 * k + 2)) (7 + (2 * k + 2)) (some 1)) = txV (h.length + 3) (k + 1) from rfl]
  split
  ·exact Bt.sel [0, 3] hh (by decide) (by simp only [f3, Xlj, QQD, zbD, YvX, FrSel, BlkSel, AV.ren, renL, AV.ok, okL, Option.some.injEq, exists_eq_left', List.length_cons, List.length_nil, Nat.reduceAdd, Nat.reduceLT, reduceCtorEq, implies_true, exists_eq']) (by simp only [tp_0, tp_s, List.cons_append, List.nil_append, f3, Xlj, YoK, XCT, YvX, FrSel, BlkSel, AV.ren, renL, AV.ok, okL, Option.some.injEq, exists_eq_left', List.length_cons, List.length_nil, Nat.reduceAdd, Nat.reduceLT, reduceCtorEq, implies_true, exists_eq'])
  ·exact Bt.sel [0, 3] hh (by decide) (by simp only [f3, Xlj, QQD, zbD, YvX, FrSel, BlkSel, AV.ren, renL, AV.ok, okL, Option.some.injEq, exists_eq_left', List.length_cons, List.length_nil, Nat.reduceAdd, Nat.reduceLT, reduceCtorEq, implies_true, exists_eq']) (by simp only [tp_0, tp_s, List.cons_append, List.nil_append, f3, Xlj, YoK, XCT, YvX, FrSel, BlkSel, AV.ren, renL, AV.ok, okL, Option.some.injEq, exists_eq_left', List.length_cons, List.length_nil, Nat.reduceAdd, Nat.reduceLT, reduceCtorEq, implies_true, exists_eq'])
 ·obtain rfl : k = 32 := by omega
  have g5' : (((32 : Nat) : Int) < 32) = False := eq_false (by decide)
  have y1 : ∀ id, (txV id 32).isStr = false := fun _ => rfl
  have y2 := KBT h (.blk true true (idR.f d)) hL
  have y3 := XED (txB d.l)
  simp only [XUb, KIu, Xgj, if_true, if_false, ↓reduceIte, Nat.reduceAdd, Nat.reduceSub, Nat.reduceLeDiff, Nat.reduceEqDiff, Nat.reduceMul, Nat.reduceLT, Int.reduceLT, Int.reduceLE, Int.reduceEq, CO.tmps, Opd.tmps, optT, Nat.reducePow, Nat.reduceDiv, Nat.reduceMod, g5', y1, y2, y3, zFE, XCT, YoK, QTq, QQD, K8I hh, Option.map_some, decide_true, decide_false, ne_eq, not_false_eq_true, not_true_eq_false, false_implies, forall_const, and_true, true_and]
  exact Bt.drop _ hh rfl rfl
theorem Jpw : Spec Tryd.prog 11 zW2 := by
 intro args h v h' e
 unfold zW2 at e
 split at e
 ·obtain ⟨d, hd, e⟩ := Option.map_eq_some_iff.1 e
  cases e
  obtain rfl := KQu hd
  exact FnAt.c (FnAt.frz0 fun hz => Y7p hz d)
 ·cases e
end Go.Proofs.YthhghdebjiiliaaDoor
end
section
namespace Go.Proofs.YthhghdebjiiliaaDoor
open Go.RowKit Go.Lib
def isPr (c : Int) : Bool := (Lib.propertiesTab.getD c.toNat 0).toNat &&& 128 != 0
theorem Jrc (q : Nat) : ((q : Int) != 0) = (q != 0) := by
 by_cases hq : q = 0
 ·subst hq; rfl
 ·have h1 : ((q : Int) != 0) = true := by simp; omega
  have h2 : (q != 0) = true := by simp; omega
  rw [h1, h2]
set_option maxHeartbeats 2000000 in
set_option maxRecDepth 1000000 in
theorem JzZ (c : Nat) (w : World) (hc : c < 256) (hcell : w.cell? ⟨0, c, none⟩ = some (.int .u8 (Lib.propertiesTab.getD c 0))) :
  Calls Tryd.prog 35 #[.int .i32 c] w fun e w' => e = .returned (.bool (isPr c)) ∧ w' = w := by
 obtain ⟨-, -, -, p4, p5⟩ := Lib.props_all ⟨c, hc⟩
 simp only at p4 p5
 unfold isPr
 rw [Int.toNat_natCast]
 generalize Lib.propertiesTab.getD c 0 = pv at *
 have hand : bits .and .u8 pv 128 = ((pv.toNat &&& 128 : Nat) : Int) := u8_and pv 128 p4 p5 (by decide) (by decide)
 generalize pv.toNat &&& 128 = q at *
 have hcz : (c : Int) ≤ 255 := by omega
 have hcz2 : (c : Int) < 256 := by omega
 go_enter Tryd.func35, Tryd.ntmps35
 go_wp2
 all_goals (go_ret; refine ⟨congrArg Ending.returned ?_, rfl⟩; show Value.bool _ = Value.bool _; refine congrArg Value.bool ?_; exact Jrc q)
theorem K1u {N : Nat} {w : World} (g : GG N w) {c : Nat} (hc : c < 256) : w.cell? ⟨0, c, none⟩ = some (.int .u8 (Lib.propertiesTab.getD c 0)) := by
 obtain ⟨_, _, cs, e, fz, h1, h2⟩ := g
 unfold World.cell?
 simp only [h1, Option.isSome_none, Bool.false_eq_true, if_false]
 exact h2 c hc
theorem Xoq {h : List AB} (c : Nat) (hc : c < 256) : FnC Tryd.prog 35 [.i .i32 c] h (.b (isPr c)) h := by
 refine ⟨⟨_, _, Tryd.func35, by decide, rfl⟩, fun ρ w vals hr hv => ?_⟩
 obtain ⟨N, g⟩ := hr.gl.some
 obtain ⟨hs, hvv⟩ := hv
 obtain ⟨l⟩ := vals
 match l, hs, hvv with
 | [x], _, hvv =>
  have hx := hvv 0 _ x rfl rfl
  cases hx
  refine (JzZ c w hc (K1u g hc)).mono ?_
  rintro e' w' ⟨rfl, rfl⟩
  exact ⟨_, ρ, rfl, .b _, hr, (Eff.refl ρ h w').p (Ext.refl _) (by rw [hr.len]; exact Nat.le_refl _)⟩
def JXM (args : List AV) (_ : GT) (_ : Nat) : Option (AV × HE) :=
 match args with
 | [.i .i32 c] => match c with
  | .ofNat n => match Nat.blt n 256 with
   | true => some (.b (isPr (.ofNat n)), .z)
   | false => none
  | .negSucc _ => none
 | _ => none
theorem YL7 : NvOk Tryd.prog 35 JXM := fun args g h v e hg q => by
 unfold JXM at q
 split at q
 ·split at q
  ·rename_i n
   split at q
   ·rename_i hn
    cases q
    exact ⟨Xoq n (by rw [Nat.blt_eq] at hn; exact hn), trivial⟩
   ·cases q
  ·cases q
 ·cases q
end Go.Proofs.YthhghdebjiiliaaDoor
end
