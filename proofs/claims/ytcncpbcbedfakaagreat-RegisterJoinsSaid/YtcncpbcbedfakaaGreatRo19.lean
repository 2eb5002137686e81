/- Part 19 of what the laws' proofs rest on. No condition. -/
import Derived.Test.YtcncpbcbedfakaaGreatRo18
set_option linter.all false
section
namespace Go.Proofs.YtcncpbcbedfakaaGreat
set_option maxRecDepth 100000
set_option maxHeartbeats 4000000
def Xvn : Dots → Int × Int → Nat
 | [], _ => 0
 | x :: l, d => if JaS x d then Xvn l d + 1 else 0
theorem Xn6 : ∀ (l : Dots) (d : Int × Int), Xvn l d ≤ l.length
 | [], _ => Nat.zero_le _
 | x :: l, d => by
  have := Xn6 l d
  unfold Xvn
  show _ ≤ l.length + 1
  split <;> omega
theorem Zy4 : ∀ (l : Dots) (d y : Int × Int) (i : Nat), i ≤ Xvn l d → i < l.length → (JaS (l.getD i y) d ↔ i + 1 ≤ Xvn l d)
 | [], _, _, _, _, h => absurd h (Nat.not_lt_zero _)
 | x :: l, d, y, 0, _, _ => by
  unfold Xvn
  simp only [List.getD_cons_zero]
  split <;> simp_all
 | x :: l, d, y, i + 1, h1, h2 => by
  unfold Xvn at h1 ⊢
  simp only [List.getD_cons_succ]
  split
  ·rename_i h
   rw [if_pos h] at h1
   have := Zy4 l d y i (by omega) (Nat.lt_of_succ_lt_succ h2)
   rw [this]
   omega
  ·rename_i h
   rw [if_neg h] at h1
   omega
def qqa (l : Dots) (d : Int × Int) : Dots := l.take (Xvn l d) ++ d :: l.drop (Xvn l d)
def Y41 (l : Dots) (d : Int × Int) : Prop := Xvn l d < l.length ∧ l.getD (Xvn l d) dotR.d = d
instance (l : Dots) (d : Int × Int) : Decidable (Y41 l d) := by unfold Y41; infer_instance
theorem YaK : (1 ≤ maxLen) = True := eq_true (by unfold maxLen; omega)
noncomputable def KTT : List AV → List AB → Option (AV × List AB)
 | [s, .ag [.i .i64 a, .i .i64 b]], h => (getS dotR h s).bind fun l => if s.capOk = true ∧ l.length ≤ 1000000 then (if Y41 l (a, b) then some (s, h) else some (rsl dotR h.length (qqa l (a, b)), h ++ [resB dotR true (qqa l (a, b))])) else none
 | _, _ => none
theorem XYt : Spec Tryz.prog 136 KTT := by
 intro args h v h' e
 unfold KTT at e
 split at e
 ·rename_i s a b
  obtain ⟨l, hs, e⟩ := zZA e
  split at e
  ·rename_i hc
   obtain ⟨hc, hl⟩ := hc
   by_cases hin : Y41 l (a, b)
   ·rw [if_pos hin] at e
    cases e
    refine FnAt.c (FnAt.frz0 fun hz => ?_)
    replace hs := hs.frz
    generalize h.map AB.freeze = h at *
    refine FnAt.run (by kernel_rfl) (T := ⟨[⟨162, K2w, fun _ => []⟩], []⟩) ⟨⟨qUV, trivial⟩, trivial⟩ Tryz.func136 YAc fun ho hh => ?_
    simp only [XDC, Bool.and_eq_true] at ho
    have f1 := hs.fx ho.1 (sz := 2) rfl
    unfold w136
    simp only [QhW, YqD, z18, Xq8, if_true, if_false, reduceIte, Nat.reduceAdd, Nat.reduceSub, Nat.reduceLeDiff, Nat.reduceEqDiff, Nat.reduceMul, Nat.reduceLT, Int.reduceLT, Int.reduceLE, Int.reduceEq, f1]
    refine zXO (S := Nat) (fun i => l.length - i) (fun i => [v] ++ tp 2 ++ [.p (h.length + 0) 0] ++ tp 1 ++ [.i .i64 i] ++ tp 41) (fun i => i ≤ Xvn l (a, b)) 0 (Nat.zero_le _) (by simp only [z18, Xq8, if_true, if_false, reduceIte, Nat.reduceAdd, Nat.reduceSub, Nat.reduceLeDiff, Nat.reduceEqDiff, Nat.reduceMul, Nat.reduceLT, Int.reduceLT, Int.reduceLE, Int.reduceEq]) fun i hi => ?_
    by_cases g1 : i < l.length
    ·have g2 := Zy4 l (a, b) dotR.d i hi g1
     have e1 : IntKind.i64.wrap ((i : Int) + 1) = ((i + 1 : Nat) : Int) := ZWo (by unfold In64; omega)
     have eq2 : ∀ w : Int × Int, qN9 [.i, .i] [.i .i64 w.1, .i .i64 w.2] [.i .i64 a, .i .i64 b] = some (decide (w = (a, b))) := fun w => eqc2 w (a, b)
     simp only [z18, qdf, Xq8, if_true, if_false, reduceIte, Nat.reduceAdd, Nat.reduceSub, Nat.reduceLeDiff, Nat.reduceEqDiff, Nat.reduceMul, Nat.reduceLT, Int.reduceLT, Int.reduceLE, Int.reduceEq, CO.tmps, Opd.tmps, optT, Nat.reducePow, Nat.reduceDiv, Nat.reduceMod, f1, g1, zBW, e1, eq2, Ke9, K2w, qDR hz, XUt hh]
     refine ⟨fun g3 => ⟨i + 1, g2.1 g3, by omega, Wk.refl _⟩, fun g3 => ?_⟩
     have hi2 : i = Xvn l (a, b) := by have := mt g2.2 g3; omega
     refine ⟨fun g4 => ?_, fun g4 => absurd (by rw [hi2]; exact hin.2) g4⟩
     exact Bt.drop _ hh rfl ho.1
    ·exact absurd hin.1 (by omega)
   ·rw [if_neg hin] at e
    cases e
    refine FnAt.c (FnAt.frz fun hz => ?_)
    rw [show h.length = (h.map AB.freeze).length from (List.length_map _).symm]
    replace hs := hs.frz
    generalize h.map AB.freeze = h at *
    refine FnAt.run (by kernel_rfl) (T := ⟨[⟨162, K2w, fun _ => []⟩], []⟩) ⟨⟨qUV, trivial⟩, trivial⟩ Tryz.func136 YAc fun ho hh => ?_
    simp only [XDC, Bool.and_eq_true] at ho
    have f1 := hs.fx ho.1 (sz := 2) rfl
    unfold w136
    simp only [QhW, YqD, z18, Xq8, if_true, if_false, reduceIte, Nat.reduceAdd, Nat.reduceSub, Nat.reduceLeDiff, Nat.reduceEqDiff, Nat.reduceMul, Nat.reduceLT, Int.reduceLT, Int.reduceLE, Int.reduceEq, f1]
    refine zXO (S := Nat) (fun i => l.length - i) (fun i => [s] ++ tp 2 ++ [.p (h.length + 0) 0] ++ tp 1 ++ [.i .i64 i] ++ tp 41) (fun i => i ≤ Xvn l (a, b)) 0 (Nat.zero_le _) (by simp only [z18, Xq8, if_true, if_false, reduceIte, Nat.reduceAdd, Nat.reduceSub, Nat.reduceLeDiff, Nat.reduceEqDiff, Nat.reduceMul, Nat.reduceLT, Int.reduceLT, Int.reduceLE, Int.reduceEq]) fun i hi => ?_
    by_cases g1 : i < l.length
    ·have g2 := Zy4 l (a, b) dotR.d i hi g1
     have e1 : IntKind.i64.wrap ((i : Int) + 1) = ((i + 1 : Nat) : Int) := ZWo (by unfold In64; omega)
     have eq2 : ∀ w : Int × Int, qN9 [.i, .i] [.i .i64 w.1, .i .i64 w.2] [.i .i64 a, .i .i64 b] = some (decide (w = (a, b))) := fun w => eqc2 w (a, b)
     obtain ⟨s1, p1, p2, p3⟩ := hs.takeS hc (show i ≤ l.length from by omega) (sz := 2) rfl
     obtain ⟨s2, q1, q2, q3⟩ := hs.dropS hc (show i ≤ l.length from by omega) (sz := 2) rfl
     have t1 := p2.fx (p3 _ ho.1) (sz := 2) rfl
     have t2 := q2.fx (q3 _ ho.1) (sz := 2) rfl
     have u1 := p2.src (sz := 2) rfl
     have u2 := q2.src (sz := 2) rfl
     simp only [z18, qdf, Xq8, if_true, if_false, reduceIte, Nat.reduceAdd, Nat.reduceSub, Nat.reduceLeDiff, Nat.reduceEqDiff, Nat.reduceMul, Nat.reduceLT, Int.reduceLT, Int.reduceLE, Int.reduceEq, CO.tmps, Opd.tmps, optT, Nat.reducePow, Nat.reduceDiv, Nat.reduceMod, f1, g1, zBW, e1, eq2, Ke9, K2w, qDR hz, XUt hh, p1, q1, t1, t2, u1, u2]
     refine ⟨fun g3 => ⟨i + 1, g2.1 g3, by omega, Wk.refl _⟩, fun g3 => ?_⟩
     have hi2 : i = Xvn l (a, b) := by have := mt g2.2 g3; omega
     refine ⟨fun g4 => absurd ⟨hi2 ▸ g1, by rw [← hi2]; exact g4⟩ hin, fun g4 => ?_⟩
     have tl : (l.take i).length = i := by rw [List.length_take]; omega
     have td : (l.drop i).length = l.length - i := List.length_drop
     have tc : (dotR.cells (l.take i)).length = i * 2 := by rw [dotR.cells_len, tl]; rfl
     have tc2 : (dotR.cells (l.take i) ++ [AV.i .i64 a, AV.i .i64 b]).length = (i + 1) * 2 := by rw [List.length_append, tc]; show i * 2 + 2 = _; omega
     have tc3 : (i * 2 + 2 = (i + 1) * 2) = True := eq_true (by omega)
     have b1 : (i * 16 ≤ 140737488355328 ∧ i ≤ maxLen) = True := eq_true ⟨by omega, by unfold maxLen; omega⟩
     have b2 : ((i + 1) * 16 ≤ 140737488355328) = True := eq_true (by omega)
     have b3 : (i + 1 ≤ maxLen) = True := eq_true (by unfold maxLen; omega)
     have b4 : ((i + (1 + (l.length - i))) * 16 ≤ 140737488355328) = True := eq_true (by omega)
     have b5 : (i + (1 + (l.length - i)) ≤ maxLen) = True := eq_true (by unfold maxLen; omega)
     have ll : (qqa l (a, b)).length = l.length + 1 := by unfold qqa; rw [← hi2, List.length_append, List.length_cons, tl, td]; omega
     have lc : dotR.cells (qqa l (a, b)) = dotR.cells (l.take i) ++ AV.i .i64 a :: AV.i .i64 b :: dotR.cells (l.drop i) := by unfold qqa; rw [← hi2]; simp [Row.cells, dotR]
     have b6 : ((1 + (l.length - i)) * 16 ≤ 140737488355328) = True := eq_true (by omega)
     have b7 : (1 + (l.length - i) ≤ maxLen) = True := eq_true (by unfold maxLen; omega)
     have td1 : (l.length - i = 0) = False := eq_false (by omega)
     by_cases i0 : i = 0
     ·have i1 : (i = 0) = True := eq_true i0
      simp only [z18, qdf, Xq8, if_true, if_false, reduceIte, Nat.reduceAdd, Nat.reduceSub, Nat.reduceLeDiff, Nat.reduceEqDiff, Nat.reduceMul, Nat.reduceLT, Int.reduceLT, Int.reduceLE, Int.reduceEq, CO.tmps, Opd.tmps, optT, Nat.reducePow, Nat.reduceDiv, Nat.reduceMod, Zwl, ne_eq, zlc, JJe, Z8u, QTt, tc, tc2, tc3, i1, tl, td, td1, b1, b2, b3, b4, b5, b6, b7, u1, u2, f1, q1, t1, t2, YaK, qDR hz, XUt hh]
      refine Bt.one 4 hh (fun q => absurd q (by omega)) (by simp) (fun _ => ⟨by rw [ll]; exact by rw [show l.length + 1 = 1 + (l.length - i) from by omega]; rfl, ?_⟩)
      rw [lc, show l.take i = [] from by rw [i0]; rfl]
      rfl
     ·have i1 : (i = 0) = False := eq_false i0
      simp only [z18, qdf, Xq8, if_true, if_false, reduceIte, Nat.reduceAdd, Nat.reduceSub, Nat.reduceLeDiff, Nat.reduceEqDiff, Nat.reduceMul, Nat.reduceLT, Int.reduceLT, Int.reduceLE, Int.reduceEq, CO.tmps, Opd.tmps, optT, Nat.reducePow, Nat.reduceDiv, Nat.reduceMod, Zwl, ne_eq, zlc, JJe, Z8u, QTt, tc, tc2, tc3, i1, tl, td, td1, b1, b2, b3, b4, b5, b6, b7, u1, u2, f1, q1, t1, t2, qDR hz, XUt hh]
      refine Bt.one 5 hh (fun q => absurd q (by omega)) (by simp) (fun _ => ⟨by rw [ll]; exact by rw [show l.length + 1 = i + (1 + (l.length - i)) from by omega]; rfl, ?_⟩)
      rw [lc, List.append_assoc]
      rfl
    ·have hi2 : i = Xvn l (a, b) := by have := Xn6 l (a, b); omega
     have hile : i ≤ l.length := hi2 ▸ Xn6 l (a, b)
     have g1' : (i < l.length) = False := eq_false g1
     have e1 : IntKind.i64.wrap ((i : Int) + 1) = ((i + 1 : Nat) : Int) := ZWo (by unfold In64; omega)
     have eq2 : ∀ w : Int × Int, qN9 [.i, .i] [.i .i64 w.1, .i .i64 w.2] [.i .i64 a, .i .i64 b] = some (decide (w = (a, b))) := fun w => eqc2 w (a, b)
     obtain ⟨s1, p1, p2, p3⟩ := hs.takeS hc (show i ≤ l.length from by omega) (sz := 2) rfl
     obtain ⟨s2, q1, q2, q3⟩ := hs.dropS hc (show i ≤ l.length from by omega) (sz := 2) rfl
     have t1 := p2.fx (p3 _ ho.1) (sz := 2) rfl
     have t2 := q2.fx (q3 _ ho.1) (sz := 2) rfl
     have u1 := p2.src (sz := 2) rfl
     have u2 := q2.src (sz := 2) rfl
     have tl : (l.take i).length = i := by rw [List.length_take]; omega
     have td : (l.drop i).length = l.length - i := List.length_drop
     have tc : (dotR.cells (l.take i)).length = i * 2 := by rw [dotR.cells_len, tl]; rfl
     have tc2 : (dotR.cells (l.take i) ++ [AV.i .i64 a, AV.i .i64 b]).length = (i + 1) * 2 := by rw [List.length_append, tc]; show i * 2 + 2 = _; omega
     have tc3 : (i * 2 + 2 = (i + 1) * 2) = True := eq_true (by omega)
     have b1 : (i * 16 ≤ 140737488355328 ∧ i ≤ maxLen) = True := eq_true ⟨by omega, by unfold maxLen; omega⟩
     have b2 : ((i + 1) * 16 ≤ 140737488355328) = True := eq_true (by omega)
     have b3 : (i + 1 ≤ maxLen) = True := eq_true (by unfold maxLen; omega)
     have b4 : ((i + (1 + (l.length - i))) * 16 ≤ 140737488355328) = True := eq_true (by omega)
     have b5 : (i + (1 + (l.length - i)) ≤ maxLen) = True := eq_true (by unfold maxLen; omega)
     have ll : (qqa l (a, b)).length = l.length + 1 := by unfold qqa; rw [← hi2, List.length_append, List.length_cons, tl, td]; omega
     have lc : dotR.cells (qqa l (a, b)) = dotR.cells (l.take i) ++ AV.i .i64 a :: AV.i .i64 b :: dotR.cells (l.drop i) := by unfold qqa; rw [← hi2]; simp [Row.cells, dotR]
     have b6 : ((1 + (l.length - i)) * 16 ≤ 140737488355328) = True := eq_true (by omega)
     have b7 : (1 + (l.length - i) ≤ maxLen) = True := eq_true (by unfold maxLen; omega)
     have td1 : l.length - i = 0 := by omega
     have dn : l.drop i = [] := List.drop_eq_nil_of_le (by omega)
     by_cases i0 : i = 0
     ·have i1 : (i = 0) = True := eq_true i0
      simp only [z18, qdf, Xq8, if_true, if_false, reduceIte, Nat.reduceAdd, Nat.reduceSub, Nat.reduceLeDiff, Nat.reduceEqDiff, Nat.reduceMul, Nat.reduceLT, Int.reduceLT, Int.reduceLE, Int.reduceEq, CO.tmps, Opd.tmps, optT, Nat.reducePow, Nat.reduceDiv, Nat.reduceMod, g1', f1, p1, Zwl, KYR, ne_eq, zlc, JJe, Z8u, QTt, tc, tc2, tc3, i1, tl, td, td1, b1, b2, b3, u1, u2, q1, t1, t2, YaK, qDR hz, XUt hh]
      refine Bt.one 3 hh (fun q => absurd q (by omega)) (by simp) (fun _ => ⟨by rw [ll, show l.length + 1 = 1 from by omega]; rfl, ?_⟩)
      rw [lc, dn, show l.take i = [] from by rw [i0]; rfl]
      rfl
     ·have i1 : (i = 0) = False := eq_false i0
      simp only [z18, qdf, Xq8, if_true, if_false, reduceIte, Nat.reduceAdd, Nat.reduceSub, Nat.reduceLeDiff, Nat.reduceEqDiff, Nat.reduceMul, Nat.reduceLT, Int.reduceLT, Int.reduceLE, Int.reduceEq, CO.tmps, Opd.tmps, optT, Nat.reducePow, Nat.reduceDiv, Nat.reduceMod, g1', f1, p1, Zwl, KYR, ne_eq, zlc, JJe, Z8u, QTt, tc, tc2, tc3, i1, tl, td, td1, b1, b2, b3, u1, u2, q1, t1, t2, YaK, qDR hz, XUt hh]
      refine Bt.one 4 hh (fun q => absurd q (by omega)) (by simp) (fun _ => ⟨by rw [ll, show l.length + 1 = i + 1 from by omega]; rfl, ?_⟩)
      rw [lc, dn]
      rfl
  ·cases e
 ·cases e
end Go.Proofs.YtcncpbcbedfakaaGreat
end
section
namespace Go.Proofs.YtcncpbcbedfakaaGreat
set_option maxRecDepth 100000
set_option maxHeartbeats 4000000
def YmQ (v : List Int) (i : Nat) : List Int := v.take i ++ List.replicate (16 - i) 0
theorem Zux (v : List Int) {i : Nat} (h : i ≤ v.length) (h2 : v.length ≤ 16) : (YmQ v i).length = 16 := by
 simp only [YmQ, List.length_append, List.length_take, List.length_replicate]
 omega
theorem XSz (v : List Int) {i : Nat} (h : i < v.length) (h2 : v.length ≤ 16) : (YmQ v i).set i (v.getD i 0) = YmQ v (i + 1) := by
 unfold YmQ
 have e1 : (v.take i).length = i := by rw [List.length_take]; omega
 rw [List.set_append_right _ _ (by omega), e1, Nat.sub_self, List.take_succ_eq_append_getElem h, List.getD_eq_getElem?_getD, List.getElem?_eq_getElem h, show 16 - i = (16 - (i + 1)) + 1 from by omega, Option.getD_some, List.replicate_succ, List.set_cons_zero, List.append_assoc]
 rfl
def layS (l : Dots) (d : Int × Int) : Dots := if Y41 l d then l else qqa l d
def layR (ds : Dots) : Dots := ds.foldl layS []
theorem zn1 {ds : Dots} {i : Nat} (h : i < ds.length) : layR (ds.take (i + 1)) = layS (layR (ds.take i)) (ds.getD i dotR.d) := by
 unfold layR
 rw [List.take_succ_eq_append_getElem h, List.foldl_append, List.getD_eq_getElem?_getD, List.getElem?_eq_getElem h]
 rfl
theorem Xl4 (l : Dots) (d : Int × Int) : (layS l d).length ≤ l.length + 1 := by
 unfold layS
 split
 ·omega
 ·unfold qqa
  have := Xn6 l d
  simp only [List.length_append, List.length_cons, List.length_take, List.length_drop]
  omega
theorem XuI {l : Dots} {d x : Int × Int} (h : x ∈ layS l d) : x ∈ l ∨ x = d := by
 unfold layS at h
 split at h
 ·exact .inl h
 ·unfold qqa at h
  rcases List.mem_append.1 h with h | h
  ·exact .inl (List.mem_of_mem_take h)
  ·rcases List.mem_cons.1 h with h | h
   ·exact .inr h
   ·exact .inl (List.mem_of_mem_drop h)
theorem zyz (ds : Dots) : ∀ x ∈ layR ds, x ∈ ds := by
 have : ∀ (ds l : Dots), ∀ x ∈ ds.foldl layS l, x ∈ l ∨ x ∈ ds := fun ds => by
  induction ds with
  | nil => exact fun l x h => .inl h
  | cons d ds ih =>
   intro l x h
   rcases ih _ x h with h | h
   ·exact (XuI h).imp (fun z => z) fun q => by rw [q]; exact List.mem_cons_self
   ·exact .inr (List.mem_cons_of_mem _ h)
 exact fun x h => (this ds [] x h).elim (fun h => by cases h) id
theorem Ktc (ds : Dots) : (layR ds).length ≤ ds.length := by
 have : ∀ (ds l : Dots), (ds.foldl layS l).length ≤ l.length + ds.length := fun ds => by
  induction ds with
  | nil => exact fun l => Nat.le_refl _
  | cons d ds ih =>
   intro l
   have h1 := ih (layS l d)
   have h2 := Xl4 l d
   simp only [List.foldl_cons, List.length_cons]
   omega
 have := this ds []
 simp only [List.length_nil] at this
 unfold layR
 omega
def fmD (s : List Int × Dots) (d : Int × Int) : List Int × Dots :=
 if d.2 = s.1.getD (d.1 - 1).toNat 0 + 1 then (s.1.set (d.1 - 1).toNat (s.1.getD (d.1 - 1).toNat 0 + 1), s.2)
 else if s.1.getD (d.1 - 1).toNat 0 < d.2 then (s.1, s.2 ++ [d]) else s
def fmR (v : List Int) (l : Dots) : List Int × Dots := l.foldl fmD (YmQ v v.length, [])
theorem K9V (v : List Int) {l : Dots} {i : Nat} (h : i < l.length) : fmR v (l.take (i + 1)) = fmD (fmR v (l.take i)) (l.getD i dotR.d) := by
 unfold fmR
 rw [List.take_succ_eq_append_getElem h, List.foldl_append, List.getD_eq_getElem?_getD, List.getElem?_eq_getElem h]
 rfl
def topI (sn : List Int) : Nat → Nat
 | 0 => 0
 | n + 1 => if sn.getD n 0 = 0 then topI sn n else n + 1
theorem Qvk (sn : List Int) : ∀ n, topI sn n ≤ n
 | 0 => Nat.le_refl _
 | n + 1 => by
  have := Qvk sn n
  unfold topI
  split <;> omega
theorem Jik (s : List Int × Dots) {d : Int × Int} (hd : qfE d) (h1 : s.1.length = 16) (h2 : ∀ k, 0 ≤ s.1.getD k 0 ∧ s.1.getD k 0 ≤ 1048576) : (fmD s d).1.length = 16 ∧ (fmD s d).2.length ≤ s.2.length + 1 ∧ ∀ k, 0 ≤ (fmD s d).1.getD k 0 ∧ (fmD s d).1.getD k 0 ≤ 1048576 := by
 unfold fmD
 obtain ⟨a1, a2, a3, a4⟩ := hd
 split
 ·rename_i e
  refine ⟨by simp only [List.length_set, h1], by dsimp only; omega, fun k => ?_⟩
  dsimp only
  rw [List.getD_eq_getElem?_getD, List.getElem?_set]
  split
  ·have := h2 (d.1 - 1).toNat
   rw [if_pos (by omega), Option.getD_some]
   omega
  ·rw [← List.getD_eq_getElem?_getD]
   exact h2 k
 ·split
  ·exact ⟨h1, by simp, h2⟩
  ·exact ⟨h1, by omega, h2⟩
theorem zEy (v : List Int) (i k : Nat) (h : ∀ n ∈ v, 0 ≤ n ∧ n ≤ 1048576) : 0 ≤ (YmQ v i).getD k 0 ∧ (YmQ v i).getD k 0 ≤ 1048576 := by
 rw [List.getD_eq_getElem?_getD]
 cases e : (YmQ v i)[k]? with
 | none => simp
 | some x =>
  have hx := List.mem_of_getElem? e
  unfold YmQ at hx
  rcases List.mem_append.1 hx with hx | hx
  ·exact h x (List.mem_of_mem_take hx)
  ·have := (List.mem_replicate.1 hx).2
   subst this
   simp
theorem KYS (v : List Int) (hv : v.length ≤ 16) (hr : ∀ n ∈ v, 0 ≤ n ∧ n ≤ 1048576) {l : Dots} (hl : ∀ d ∈ l, qfE d) : ∀ {i : Nat}, i ≤ l.length → (fmR v (l.take i)).1.length = 16 ∧ (fmR v (l.take i)).2.length ≤ i ∧ ∀ k, 0 ≤ (fmR v (l.take i)).1.getD k 0 ∧ (fmR v (l.take i)).1.getD k 0 ≤ 1048576
 | 0, _ => ⟨Zux v (Nat.le_refl _) hv, Nat.le_refl _, fun k => zEy v _ k hr⟩
 | i + 1, h => by
  obtain ⟨h1, h2, h3⟩ := KYS v hv hr hl (Nat.le_of_succ_le h)
  rw [K9V v h]
  obtain ⟨b1, b2, b3⟩ := Jik (fmR v (l.take i)) (hl (l.getD i dotR.d) (by rw [List.getD_eq_getElem?_getD, List.getElem?_eq_getElem h]; exact List.getElem_mem h)) h1 h3
  exact ⟨b1, by omega, b3⟩
theorem WkL.get : ∀ {l' l : List AV}, WkL l' l → l'.length = l.length ∧ ∀ (j : Nat) (a' a : AV), l'[j]? = some a' → l[j]? = some a → Wk a' a
 | [], [], _ => ⟨rfl, fun j a' a h _ => by simp at h⟩
 | b' :: l', b :: l, h => by
  obtain ⟨h1, h2⟩ := WkL.get h.2
  refine ⟨by simp [h1], fun j a' a e1 e2 => ?_⟩
  cases j with
  | zero =>
   cases e1
   cases e2
   exact h.1
  | succ j => exact h2 j a' a (by simpa using e1) (by simpa using e2)
 | [], _ :: _, h => h.elim
 | _ :: _, [], h => h.elim
theorem Kql {l' l : List AV} (h : WkL l' l) : Wk (.ag l') (.ag l) := fun ρ c v => by
 cases v with
 | ag _ cs hn hv =>
  obtain ⟨h1, h2⟩ := h.get
  refine .ag l' cs (by rw [h1]; exact hn) fun j a' c e1 e2 => ?_
  have hj : j < l.length := by rw [← h1]; exact (List.getElem?_eq_some_iff.1 e1).1
  exact h2 j a' l[j] e1 (List.getElem?_eq_getElem hj) ρ c (hv j _ c (List.getElem?_eq_getElem hj) e2)
theorem J8P (l : Dots) (d : Int × Int) : (qqa l d).length ≠ 0 := by
 unfold qqa
 simp
theorem zxU {α : Type} {r : Row α} {h : List AB} (L : List AB) (k : Nat) (l : List α) (e : ownR r l L k) (hl : l.length ≤ maxLen) : getS r (h ++ L) (apS r (h.length + k) l) = some l := by
 by_cases h0 : l.length = 0
 ·have : l = [] := List.eq_nil_of_length_eq_zero h0
  subst this
  exact Yot r _
 ·rw [YM2 _ h0]
  exact YJk L k l e hl
theorem zrj {α : Type} {r : Row α} (id : Nat) (l : List α) : (apS r id l).capOk = true := by
 unfold apS
 split <;> simp [AV.capOk]
noncomputable def QvJ : List AV → List AB → Option (AV × List AB)
 | [s, t], h => (getS intR h s).bind fun v => (getS dotR h t).bind fun ds => if qD3 v ds ∧ ds.length ≤ 1000000 then
   some (.ag [.sl h.length 0 (topI (fmR v (layR ds)).1 16) 16 none, rsl dotR (h.length + 1) (fmR v (layR ds)).2], h ++ [.blk true true (intR.cells (fmR v (layR ds)).1), resB dotR true (fmR v (layR ds)).2]) else none
 | _, _ => none
theorem Qb6 : Spec Tryz.prog 104 QvJ := by
 intro args h v h' e
 unfold QvJ at e
 split at e
 ·rename_i s t
  obtain ⟨vs, hs, e⟩ := zZA e
  obtain ⟨ds, ht, e⟩ := zZA e
  split at e
  ·rename_i hc
   obtain ⟨⟨hv, hvr, hdr⟩, hl⟩ := hc
   cases e
   refine FnAt.c (FnAt.frz fun hz => ?_)
   rw [show h.length = (h.map AB.freeze).length from (List.length_map _).symm]
   replace hs := hs.frz
   replace ht := ht.frz
   generalize h.map AB.freeze = h at *
   refine FnAt.run (by kernel_rfl) (T := ⟨[⟨136, KTT, fun _ => []⟩], []⟩) ⟨⟨XYt, trivial⟩, trivial⟩ Tryz.func104 Jej fun ho hh => ?_
   simp only [XDC, Bool.and_eq_true] at ho
   have f1 := hs.fx ho.1 (sz := 1) rfl
   have f2 := ht.fx ho.2.1 (sz := 2) rfl
   unfold w104
   simp only [QhW, YqD, z18, Xq8, if_true, if_false, reduceIte, Nat.reduceAdd, Nat.reduceSub, Nat.reduceLeDiff, Nat.reduceEqDiff, Nat.reduceMul, Nat.reduceLT, Int.reduceLT, Int.reduceLE, Int.reduceEq, f1, f2]
   have c1 : (List.replicate 16 [AV.i .i64 0]).flatten = intR.cells (YmQ vs 0) := XvT intR 16 0
   have c2 : ((8 : Int) * 16 ≤ 2 ^ 47 ∧ (16 : Int) ≤ (maxLen : Int)) = True := eq_true ⟨by decide, by unfold maxLen; omega⟩
   have c3 : Int.toNat 16 = 16 := rfl
   have fo3 : ∀ c, t.ok (fun i => decide (i < h.length + c)) = true := fun c => AV.ok_mono (fun i q => by simp only [decide_eq_true_eq] at q ⊢; omega) _ ho.2.1
   have fr2 : ∀ sel, Wk (t.ren (selN h.length sel)) t := fun sel => Wk.ren (fun i hi => ZiG hi) ho.2.1
   have m1 := hs.2
   have m2 := ht.2
   unfold maxLen at m1 m2
   simp only [z18, Xq8, if_true, if_false, reduceIte, Nat.reduceAdd, Nat.reduceSub, Nat.reduceLeDiff, Nat.reduceEqDiff, Nat.reduceMul, Nat.reduceLT, Int.reduceLT, Int.reduceLE, Int.reduceEq, c1, c2, c3, f1, f2]
   refine q2X (S := Nat) (fun i => vs.length - i) (fun i => [s, t] ++ tp 2 ++ [.p (h.length + 0) 0, .sl (h.length + 1) 0 16 16 none, .i .i64 i] ++ tp 94) (fun i => h ++ [.blk false true [.ns, .ns], .blk true true (intR.cells (YmQ vs i))]) (fun i => i ≤ vs.length) 0 (Nat.zero_le _) ?_ fun i hi => ?_
   ·exact Bt.wk (by simp only [z18, Xq8, if_true, if_false, reduceIte, Nat.reduceAdd, Nat.reduceSub, Nat.reduceLeDiff, Nat.reduceEqDiff, Nat.reduceMul, Nat.reduceLT, Int.reduceLT, Int.reduceLE, Int.reduceEq])
   simp only [z18, Xq8, if_true, if_false, reduceIte, Nat.reduceAdd, Nat.reduceSub, Nat.reduceLeDiff, Nat.reduceEqDiff, Nat.reduceMul, Nat.reduceLT, Int.reduceLT, Int.reduceLE, Int.reduceEq, f1, f2, XCZ]
   refine ⟨fun g1 => ?_, fun g1 => ?_⟩
   ·have e1 : IntKind.i64.wrap ((i : Int) + 1) = ((i + 1 : Nat) : Int) := ZWo (by unfold In64; omega)
    have e2 : ((i : Int) < 16) = True := eq_true (by omega)
    have e3 : (0 + (i * 1 + 1) ≤ (intR.cells (YmQ vs i)).length) = True := eq_true (by rw [Row.cells_len, Zux vs hi hv, K4b]; omega)
    have e4 : over (intR.cells (YmQ vs i)) (0 + i * 1) [AV.i .i64 (vs.getD i intR.d)] = intR.cells (YmQ vs (i + 1)) := by
     rw [Nat.zero_add, Nat.mul_one, YNF _ _ _ (by rw [Zux vs hi hv]; omega)]
     exact congrArg intR.cells (XSz vs g1 hv)
    simp only [z18, Xq8, if_true, if_false, reduceIte, Nat.reduceAdd, Nat.reduceSub, Nat.reduceLeDiff, Nat.reduceEqDiff, Nat.reduceMul, Nat.reduceLT, Int.reduceLT, Int.reduceLE, Int.reduceEq, f1, f2, XCZ, e1, e2, e3, e4, g1, Zr2]
    exact ⟨i + 1, g1, by dsimp only; omega, Bt.wk (by simp only [z18, Xq8, if_true, if_false, reduceIte, Nat.reduceAdd, Nat.reduceSub, Nat.reduceLeDiff, Nat.reduceEqDiff, Nat.reduceMul, Nat.reduceLT, Int.reduceLT, Int.reduceLE, Int.reduceEq])⟩
   obtain rfl : i = vs.length := by omega
   have ns : (YmQ vs vs.length).length = 16 := Zux vs (Nat.le_refl _) hv
   refine q2X (S := Nat) (fun j => ds.length - j) (fun j => tp 1 ++ [t] ++ tp 2 ++ [.p (h.length + 0) 0, .sl (h.length + 1) 0 16 16 none] ++ tp 1 ++ [apS dotR (h.length + 2) (layR (ds.take j)), .i .i64 j] ++ tp 92) (fun j => h ++ [.blk false true [.ns, .ns], .blk true true (intR.cells (YmQ vs vs.length)), resB dotR true (layR (ds.take j))]) (fun j => j ≤ ds.length) 0 (Nat.zero_le _) ?_ fun j hj => ?_
   ·show Bt _ _ _ _ _ (h ++ [.blk false true [.ns, .ns], .blk true true (intR.cells (YmQ vs vs.length)), .dead])
    rw [show h ++ [AB.blk false true [.ns, .ns], .blk true true (intR.cells (YmQ vs vs.length)), .dead] = (h ++ [AB.blk false true [.ns, .ns], .blk true true (intR.cells (YmQ vs vs.length))]) ++ List.replicate 1 .dead from by rw [List.append_assoc]; rfl]
    refine Bt.trans (Bt.wk ?_) (Bt.pad _ _ 1)
    rw [show apS dotR (h.length + 2) (layR (ds.take 0)) = .ns from rfl]
    simp only [z18, Xq8, if_true, if_false, reduceIte, Nat.reduceAdd, Nat.reduceSub, Nat.reduceLeDiff, Nat.reduceEqDiff, Nat.reduceMul, Nat.reduceLT, Int.reduceLT, Int.reduceLE, Int.reduceEq]
   simp only [z18, Xq8, if_true, if_false, reduceIte, Nat.reduceAdd, Nat.reduceSub, Nat.reduceLeDiff, Nat.reduceEqDiff, Nat.reduceMul, Nat.reduceLT, Int.reduceLT, Int.reduceLE, Int.reduceEq, f2]
   refine ⟨fun g1 => ?_, fun g1 => ?_⟩
   ·have e1 : IntKind.i64.wrap ((j : Int) + 1) = ((j + 1 : Nat) : Int) := ZWo (by unfold In64; omega)
    have hst := zn1 g1
    have hll : (layR (ds.take j)).length ≤ 1000000 := Nat.le_trans (Ktc _) (by rw [List.length_take]; omega)
    generalize hld : layR (ds.take j) = l at hst hll
    generalize hdj : ds.getD j dotR.d = d at hst
    have e2 : (l.length ≤ maxLen) = True := eq_true (by unfold maxLen; omega)
    have e3 : (l.length ≤ 1000000) = True := eq_true hll
    by_cases gi : Y41 l d
    ·simp only [z18, Xq8, if_true, if_false, reduceIte, Nat.reduceAdd, Nat.reduceSub, Nat.reduceLeDiff, Nat.reduceEqDiff, Nat.reduceMul, Nat.reduceLT, Int.reduceLT, Int.reduceLE, Int.reduceEq, f2, e1, e2, e3, g1, gi, hdj, zBW, KTT, zxU, zrj, z1k, zuK, Ke9]
     refine ⟨j + 1, g1, by dsimp only; omega, ?_⟩
     simp only [hst, show layS l d = l from if_pos gi]
     exact Bt.wk (by simp only [z18, Xq8, if_true, if_false, reduceIte, Nat.reduceAdd, Nat.reduceSub, Nat.reduceLeDiff, Nat.reduceEqDiff, Nat.reduceMul, Nat.reduceLT, Int.reduceLT, Int.reduceLE, Int.reduceEq])
    ·simp only [z18, Xq8, if_true, if_false, reduceIte, Nat.reduceAdd, Nat.reduceSub, Nat.reduceLeDiff, Nat.reduceEqDiff, Nat.reduceMul, Nat.reduceLT, Int.reduceLT, Int.reduceLE, Int.reduceEq, f2, e1, e2, e3, g1, gi, hdj, zBW, KTT, zxU, zrj, z1k, zuK, Ke9]
     refine ⟨j + 1, g1, by dsimp only; omega, ?_⟩
     simp only [hst, show layS l d = qqa l d from if_neg gi, YM2 _ (J8P l d)]
     exact Bt.sel [0, 1, 3] hh (by decide) (by simp only [KlE, FrSel, BlkSel, AV.ren, renL, AV.ok, okL, Option.some.injEq, exists_eq_left', List.length_cons, List.length_nil, Nat.reduceAdd, Nat.reduceLT, reduceCtorEq, implies_true, exists_eq']) (by simp only [KlE, FrSel, BlkSel, AV.ren, renL, AV.ok, okL, Option.some.injEq, exists_eq_left', List.length_cons, List.length_nil, Nat.reduceAdd, Nat.reduceLT, reduceCtorEq, implies_true, exists_eq', fo3, fr2])
   obtain rfl : j = ds.length := by omega
   rw [List.take_length]
   have hll : (layR ds).length ≤ 1000000 := Nat.le_trans (Ktc _) hl
   have hlm : ∀ d ∈ layR ds, qfE d := fun d hd => hdr d (zyz ds d hd)
   generalize hld : layR ds = l at *
   have e2 : (l.length ≤ maxLen) = True := eq_true (by unfold maxLen; omega)
   refine q2X (S := Nat) (fun j => l.length - j) (fun j => tp 4 ++ [.p (h.length + 0) 0, .sl (h.length + 1) 0 16 16 none] ++ tp 1 ++ [apS dotR (h.length + 2) l] ++ tp 1 ++ [.p (h.length + 3) 0, .i .i64 j] ++ tp 90) (fun j => h ++ [.blk false true [.ns, .ns], .blk true true (intR.cells (fmR vs (l.take j)).1), resB dotR true l, .blk false true [.ns, apS dotR (h.length + 4) (fmR vs (l.take j)).2], resB dotR true (fmR vs (l.take j)).2]) (fun j => j ≤ l.length) 0 (Nat.zero_le _) ?_ fun j hj => ?_
   ·show Bt _ _ _ _ _ (h ++ [.blk false true [.ns, .ns], .blk true true (intR.cells (YmQ vs vs.length)), resB dotR true l, .blk false true [.ns, .ns], .dead])
    rw [show h ++ [AB.blk false true [.ns, .ns], .blk true true (intR.cells (YmQ vs vs.length)), resB dotR true l, .blk false true [.ns, .ns], .dead] = (h ++ [AB.blk false true [.ns, .ns], .blk true true (intR.cells (YmQ vs vs.length)), resB dotR true l, .blk false true [.ns, .ns]]) ++ List.replicate 1 .dead from by rw [List.append_assoc]; rfl]
    exact Bt.trans (Bt.wk (by simp only [z18, Xq8, if_true, if_false, reduceIte, Nat.reduceAdd, Nat.reduceSub, Nat.reduceLeDiff, Nat.reduceEqDiff, Nat.reduceMul, Nat.reduceLT, Int.reduceLT, Int.reduceLE, Int.reduceEq])) (Bt.pad _ _ 1)
   have hin := KYS vs hv hvr hlm hj
   have hst := fun g1 : j < l.length => K9V vs g1
   generalize hfm : fmR vs (l.take j) = st at *
   obtain ⟨sn, ol⟩ := st
   obtain ⟨n1, n2, n3⟩ := hin
   dsimp only at n1 n2 n3
   simp only [z18, Xq8, if_true, if_false, reduceIte, Nat.reduceAdd, Nat.reduceSub, Nat.reduceLeDiff, Nat.reduceEqDiff, Nat.reduceMul, Nat.reduceLT, Int.reduceLT, Int.reduceLE, Int.reduceEq, f2, hld]
   refine ⟨fun g1 => ?_, fun g1 => ?_⟩
   ·have e1 : IntKind.i64.wrap ((j : Int) + 1) = ((j + 1 : Nat) : Int) := ZWo (by unfold In64; omega)
    have hst := hst g1
    have hdm : qfE (l.getD j dotR.d) := hlm _ (by rw [List.getD_eq_getElem?_getD, List.getElem?_eq_getElem g1]; exact List.getElem_mem g1)
    have fl := fun L k n => YME (h := h) (r := dotR) (sz := 2) rfl L k l n
    have hl0 : l.length ≠ 0 := by omega
    have gr : ∀ id, apS dotR id l = rsl dotR id l := fun id => YM2 _ hl0
    generalize hdj : l.getD j dotR.d = d at *
    have ⟨d1, d2, d3, d4⟩ := hdm
    have hk : (d.1 - 1).toNat < 16 := by omega
    have q1 : IntKind.i64.wrap (d.1 - 1) = d.1 - 1 := ZWo (by unfold In64; omega)
    have q2 : (0 ≤ d.1 - 1 ∧ d.1 - 1 < 16) = True := eq_true (by omega)
    have q3 : (intR.cells sn)[0 + (d.1 - 1).toNat * 1]? = some (.i .i64 (sn.getD (d.1 - 1).toNat 0)) := by
     have := intR.cells_get sn (d.1 - 1).toNat 0 (by omega) (by decide)
     rw [Nat.zero_add, Nat.mul_one]
     rw [K4b, Nat.mul_one, Nat.add_zero] at this
     exact this
    have q4 := n3 (d.1 - 1).toNat
    have q5 : IntKind.i64.wrap (sn.getD (d.1 - 1).toNat 0 + 1) = sn.getD (d.1 - 1).toNat 0 + 1 := ZWo (by unfold In64; omega)
    have q6 : (0 + ((d.1 - 1).toNat * 1 + 1) ≤ (intR.cells sn).length) = True := eq_true (by rw [Row.cells_len, n1, K4b]; omega)
    have q7 : ∀ y, over (intR.cells sn) (0 + (d.1 - 1).toNat * 1) [AV.i .i64 y] = intR.cells (sn.set (d.1 - 1).toNat y) := fun y => by
     rw [Nat.zero_add, Nat.mul_one, YNF _ _ _ (by omega)]
    have fa := fun L k ys hb => YEH (h := h) (r := dotR) (sz := 2) rfl L k ol 16 1 ys hb (by decide) (by omega) (by unfold maxLen; omega)
    have ao : (apS dotR (h.length + 4) ol).ok (fun i => decide (i < h.length + 5)) = true := by unfold apS; split <;> simp [AV.ok]
    have g1' : ((j : Int) < (l.length : Int)) = True := eq_true (by omega)
    simp only [z18, qdf, Xq8, if_true, if_false, reduceIte, Nat.reduceAdd, Nat.reduceSub, Nat.reduceLeDiff, Nat.reduceEqDiff, Nat.reduceMul, Nat.reduceLT, Int.reduceLT, Int.reduceLE, Int.reduceEq, CO.tmps, Opd.tmps, optT, Nat.reducePow, Nat.reduceDiv, Nat.reduceMod, gr, YC4 (r := dotR) (sz := 2) rfl, fl, g1, hdj, zBW, e1, q1, q2, q3, q5, q6, q7, fa, XCZ, qDR hz, XUt hh]
    refine ⟨fun g2 => ?_, fun g2 => ⟨fun g3 => ?_, fun g3 => ?_⟩⟩
    ·refine ⟨j + 1, g1, by dsimp only; omega, ?_⟩
     simp only [hst, show fmD (sn, ol) d = (sn.set (d.1 - 1).toNat (sn.getD (d.1 - 1).toNat 0 + 1), ol) from by simp only [fmD, if_pos g2]]
     exact Bt.sel [0, 1, 2, 3, 4] hh (by decide) (by simp only [KlE, FrSel, BlkSel, AV.ren, renL, AV.ok, okL, Option.some.injEq, exists_eq_left', List.length_cons, List.length_nil, Nat.reduceAdd, Nat.reduceLT, reduceCtorEq, implies_true, exists_eq', ao]) (by simp only [KlE, FrSel, BlkSel, AV.ren, renL, AV.ok, okL, Option.some.injEq, exists_eq_left', List.length_cons, List.length_nil, Nat.reduceAdd, Nat.reduceLT, reduceCtorEq, implies_true, exists_eq'])
    ·refine ⟨j + 1, g1, by dsimp only; omega, ?_⟩
     simp only [hst, show fmD (sn, ol) d = (sn, ol ++ [d]) from by simp only [fmD, if_neg g2, if_pos g3], ZTM, YEn]
     exact Bt.sel [0, 1, 2, 3, 7] hh (by decide) (by simp only [KlE, FrSel, BlkSel, AV.ren, renL, AV.ok, okL, Option.some.injEq, exists_eq_left', List.length_cons, List.length_nil, Nat.reduceAdd, Nat.reduceLT, reduceCtorEq, implies_true, exists_eq']) (by simp only [KlE, FrSel, BlkSel, AV.ren, renL, AV.ok, okL, Option.some.injEq, exists_eq_left', List.length_cons, List.length_nil, Nat.reduceAdd, Nat.reduceLT, reduceCtorEq, implies_true, exists_eq'])
    ·refine ⟨j + 1, g1, by dsimp only; omega, ?_⟩
     simp only [hst, show fmD (sn, ol) d = (sn, ol) from by simp only [fmD, if_neg g2, if_neg g3]]
     exact Bt.sel [0, 1, 2, 3, 4] hh (by decide) (by simp only [KlE, FrSel, BlkSel, AV.ren, renL, AV.ok, okL, Option.some.injEq, exists_eq_left', List.length_cons, List.length_nil, Nat.reduceAdd, Nat.reduceLT, reduceCtorEq, implies_true, exists_eq', ao]) (by simp only [KlE, FrSel, BlkSel, AV.ren, renL, AV.ok, okL, Option.some.injEq, exists_eq_left', List.length_cons, List.length_nil, Nat.reduceAdd, Nat.reduceLT, reduceCtorEq, implies_true, exists_eq'])
   ·obtain rfl : j = l.length := by omega
    rw [List.take_length] at hfm
    rw [hfm]
    dsimp only
    have aw : ∀ i x, Wk (.ag [x, rsl dotR i ol]) (.ag [x, apS dotR i ol]) = True := fun i x => eq_true (Kql ⟨Wk.refl _, XIf i ol, trivial⟩)
    refine zXO (S := Nat) (fun n => n) (fun n => tp 4 ++ [.p (h.length + 0) 0, .sl (h.length + 1) 0 16 16 none] ++ tp 3 ++ [.p (h.length + 3) 0] ++ tp 2 ++ [.i .i64 n] ++ tp 88) (fun n => n ≤ 16 ∧ topI sn 16 = topI sn n) 16 ⟨Nat.le_refl _, rfl⟩ (by simp only [z18, Xq8, if_true, if_false, reduceIte, Nat.reduceAdd, Nat.reduceSub, Nat.reduceLeDiff, Nat.reduceEqDiff, Nat.reduceMul, Nat.reduceLT, Int.reduceLT, Int.reduceLE, Int.reduceEq]) fun n hn => ?_
    cases n with
    | zero =>
     have z1 : slL 1 (.sl (h.length + 1) 0 16 16 none) none (some (.i .i64 0)) none = some (.sl (h.length + 1) 0 0 16 none) := rfl
     simp only [z18, Xq8, if_true, if_false, reduceIte, Nat.reduceAdd, Nat.reduceSub, Nat.reduceLeDiff, Nat.reduceEqDiff, Nat.reduceMul, Nat.reduceLT, Int.reduceLT, Int.reduceLE, Int.reduceEq, z1]
     refine ⟨fun q => q.elim, ?_⟩
     rw [hn.2]
     exact Bt.sel [1, 4] hh (by decide) (by simp only [KlE, FrSel, BlkSel, AV.ren, renL, AV.ok, okL, Option.some.injEq, exists_eq_left', List.length_cons, List.length_nil, Nat.reduceAdd, Nat.reduceLT, reduceCtorEq, implies_true, exists_eq']) (by simp only [KlE, FrSel, BlkSel, AV.ren, renL, AV.ok, okL, Option.some.injEq, exists_eq_left', List.length_cons, List.length_nil, Nat.reduceAdd, Nat.reduceLT, reduceCtorEq, implies_true, exists_eq', aw, topI])
    | succ m =>
     have e1 : IntKind.i64.wrap (((m + 1 : Nat) : Int) - 1) = (m : Int) := by rw [show ((m + 1 : Nat) : Int) - 1 = (m : Int) from by omega]; exact ZWo (by unfold In64; omega)
     have e2 : (0 < ((m + 1 : Nat) : Int)) = True := eq_true (by omega)
     have e3 : ((m : Int) < 16) = True := eq_true (by omega)
     have e4 : (intR.cells sn)[0 + m * 1]? = some (.i .i64 (sn.getD m 0)) := by
      have := intR.cells_get sn m 0 (by omega) (by decide)
      rw [Nat.zero_add, Nat.mul_one]
      rw [K4b, Nat.mul_one, Nat.add_zero] at this
      exact this
     have z1 : slL 1 (.sl (h.length + 1) 0 16 16 none) none (some (.i .i64 ((m + 1 : Nat) : Int))) none = some (.sl (h.length + 1) 0 (m + 1) 16 none) := by
      simp only [slL, bnd]
      rw [if_pos (by omega)]
      rfl
     simp only [z18, Xq8, if_true, if_false, reduceIte, Nat.reduceAdd, Nat.reduceSub, Nat.reduceLeDiff, Nat.reduceEqDiff, Nat.reduceMul, Nat.reduceLT, Int.reduceLT, Int.reduceLE, Int.reduceEq, e1, e2, e3, e4, z1, XCZ]
     refine ⟨⟨fun g2 => ⟨m, ⟨by omega, ?_⟩, by omega, Wk.refl _⟩, fun g2 => ?_⟩, fun q => q.elim⟩
     ·rw [hn.2]
      simp only [topI, if_pos g2]
     ·rw [hn.2, show topI sn (m + 1) = m + 1 from by simp only [topI, if_neg g2]]
      exact Bt.sel [1, 4] hh (by decide) (by simp only [KlE, FrSel, BlkSel, AV.ren, renL, AV.ok, okL, Option.some.injEq, exists_eq_left', List.length_cons, List.length_nil, Nat.reduceAdd, Nat.reduceLT, reduceCtorEq, implies_true, exists_eq']) (by simp only [KlE, FrSel, BlkSel, AV.ren, renL, AV.ok, okL, Option.some.injEq, exists_eq_left', List.length_cons, List.length_nil, Nat.reduceAdd, Nat.reduceLT, reduceCtorEq, implies_true, exists_eq', aw])
  ·cases e
 ·cases e
end Go.Proofs.YtcncpbcbedfakaaGreat
end
section
namespace Go.Proofs.YtcncpbcbedfakaaGreat
set_option maxRecDepth 100000
set_option maxHeartbeats 4000000
def fmO (v : List Int) (ds : Dots) : List Int × Dots := ((fmR v (layR ds)).1.take (topI (fmR v (layR ds)).1 16), (fmR v (layR ds)).2)
theorem ZCP {α : Type} {r : Row α} {h L : List AB} {k c n : Nat} {kk : Option Nat} {l : List α} (hb : ownC L k = some (r.cells l)) (hl : l.length ≤ maxLen) (hn : n ≤ l.length) : Rd r (h ++ L) (.sl (h.length + k) 0 n c kk) (l.take n) := by
 have e : (l.take n).length = n := by rw [List.length_take]; omega
 refine Rd.mk_sl (xs := r.cells l) (by rw [QP4]; exact hb) e.symm ?_ ?_ (by omega)
 ·rw [e, r.cells_len, Nat.zero_add]
  exact Nat.mul_le_mul_right _ hn
 ·rw [e, List.drop_zero, r.cells_take]
def zEL (v : List Int) (ds : Dots) : Int := if ¬ qD3 v ds then 3 else if 4096 < ds.length then 10 else if fmO v ds = (v, ds) then 0 else 2
noncomputable def ZRQ : List AV → List AB → Option (AV × List AB)
 | [.ag [s, t]], h => (getS intR h s).bind fun v => (getS dotR h t).bind fun ds => some (.i .i64 (zEL v ds), h)
 | _, _ => none
theorem Yr1 : Spec Tryz.prog 61 ZRQ := by
 intro args h v h' e
 unfold ZRQ at e
 split at e
 ·rename_i s t
  obtain ⟨vs, hs, e⟩ := zZA e
  obtain ⟨ds, ht, e⟩ := zZA e
  cases e
  refine FnAt.c (FnAt.frz0 fun hz => ?_)
  replace hs := hs.frz
  replace ht := ht.frz
  generalize h.map AB.freeze = h at *
  refine FnAt.run (by kernel_rfl) (T := ⟨[⟨102, qPX, fun _ => []⟩, ⟨104, QvJ, fun _ => []⟩, ⟨103, Y7O, fun _ => []⟩], []⟩) ⟨⟨Kyz, Qb6, KLB, trivial⟩, trivial⟩ Tryz.func61 sw61 fun ho hh => ?_
  simp only [XDC, Y8A, Bool.and_eq_true] at ho
  have f1 := hs.fx ho.1.1 (sz := 1) rfl
  have f2 := ht.fx ho.1.2.1 (sz := 2) rfl
  unfold w61
  simp only [QhW, YqD, z18, Xq8, if_true, if_false, reduceIte, Nat.reduceAdd, Nat.reduceSub, Nat.reduceLeDiff, Nat.reduceEqDiff, Nat.reduceMul, Nat.reduceLT, Int.reduceLT, Int.reduceLE, Int.reduceEq, f1, f2, qPX]
  refine ⟨fun g1 => ?_, fun g1 => ⟨fun g2 => ?_, fun g2 => ?_⟩⟩
  ·exact Bt.dropI _ hh (by simp only [zEL, if_pos g1])
  ·exact Bt.dropI _ hh (by simp only [zEL, if_neg g1]; rw [if_pos (by omega)])
  ·have g1' := Decidable.not_not.1 g1
   have hl : ds.length ≤ 1000000 := by omega
   have gc : (qD3 vs ds ∧ ds.length ≤ 1000000) = True := eq_true ⟨g1', hl⟩
   have inv := KYS vs g1'.1 g1'.2.1 (fun d hd => g1'.2.2 d (zyz ds d hd)) (Nat.le_refl (layR ds).length)
   rw [List.take_length] at inv
   have hll := Nat.le_trans (Ktc ds) hl
   have t1 := Qvk (fmR vs (layR ds)).1 16
   have g3 : ∀ (L : List AB) (k : Nat), ownC L k = some (intR.cells (fmR vs (layR ds)).1) → getS intR (h ++ L) (.sl (h.length + k) 0 (topI (fmR vs (layR ds)).1 16) 16 none) = some (fmO vs ds).1 := fun L k hL => (ZCP hL (by unfold maxLen; omega) (by omega)).get
   have g4 : ((fmR vs (layR ds)).2.length ≤ maxLen) = True := eq_true (by unfold maxLen; omega)
   have g5 : (fmR vs (layR ds)).2 = (fmO vs ds).2 := rfl
   simp only [z18, qdf, Xq8, if_true, if_false, reduceIte, Nat.reduceAdd, Nat.reduceSub, Nat.reduceLeDiff, Nat.reduceEqDiff, Nat.reduceMul, Nat.reduceLT, Int.reduceLT, Int.reduceLE, Int.reduceEq, CO.tmps, Opd.tmps, optT, Nat.reducePow, Nat.reduceDiv, Nat.reduceMod, f1, f2, QvJ, Y7O, gc, g3, g4, YJk, z1k, zuK, qDR hz, XUt hh]
   have g6 : (fmO vs ds = (vs, ds)) ↔ ((fmO vs ds).1 = vs ∧ (fmR vs (layR ds)).2 = ds) := Prod.ext_iff
   have g7 : ¬ (4096 : Nat) < ds.length := by omega
   refine ⟨fun q => Bt.dropI _ hh ?_, fun q => Bt.dropI _ hh ?_⟩
   ·simp only [zEL, if_neg g1, if_neg g7, if_neg (mt g6.1 q)]
   ·simp only [zEL, if_neg g1, if_neg g7, if_pos (g6.2 (Decidable.not_not.1 q))]
 ·cases e
noncomputable def ZSq : List AV → List AB → Option (AV × List AB)
 | [s, t], h => (getS intR h s).bind fun v => (getS dotR h t).bind fun ds => if ds.length ≤ 1000000 then
   if qD3 v ds then
    if (fmO v ds).2.length ≤ 4096 then some (.tu [.ag [.sl h.length 0 (topI (fmR v (layR ds)).1 16) 16 none, rsl dotR (h.length + 1) (fmR v (layR ds)).2], .i .i64 0], h ++ [.blk true true (intR.cells (fmR v (layR ds)).1), resB dotR true (fmR v (layR ds)).2])
    else some (.tu [.ag [.ns, .ns], .i .i64 10], h)
   else some (.tu [.ag [.ns, .ns], .i .i64 3], h)
  else none
 | _, _ => none
theorem XD2 : Spec Tryz.prog 63 ZSq := by
 intro args h v h' e
 unfold ZSq at e
 split at e
 ·rename_i s t
  obtain ⟨vs, hs, e⟩ := zZA e
  obtain ⟨ds, ht, e⟩ := zZA e
  split at e
  ·rename_i hl
   by_cases hr : qD3 vs ds
   ·have g4 : ((fmR vs (layR ds)).2.length ≤ maxLen) = True := by
     have inv := KYS vs hr.1 hr.2.1 (fun d hd => hr.2.2 d (zyz ds d hd)) (Nat.le_refl (layR ds).length)
     rw [List.take_length] at inv
     have hll := Nat.le_trans (Ktc ds) hl
     exact eq_true (by unfold maxLen; omega)
    by_cases h4 : (fmO vs ds).2.length ≤ 4096
    ·rw [if_pos hr, if_pos h4] at e
     cases e
     refine FnAt.c (FnAt.run (by kernel_rfl) (T := ⟨[⟨102, qPX, fun _ => []⟩, ⟨104, QvJ, fun _ => []⟩], []⟩) ⟨⟨Kyz, Qb6, trivial⟩, trivial⟩ Tryz.func63 sw63 fun ho hh => ?_)
     simp only [XDC, Bool.and_eq_true] at ho
     have f1 := hs.fx ho.1 (sz := 1) rfl
     have f2 := ht.fx ho.2.1 (sz := 2) rfl
     unfold w63
     simp only [QhW, YqD, z18, Xq8, if_true, if_false, reduceIte, Nat.reduceAdd, Nat.reduceSub, Nat.reduceLeDiff, Nat.reduceEqDiff, Nat.reduceMul, Nat.reduceLT, Int.reduceLT, Int.reduceLE, Int.reduceEq, f1, f2, qPX, QvJ, hr, hl]
     refine ⟨fun q => q.elim, fun q => absurd h4 (by show ¬ (fmR vs (layR ds)).2.length ≤ 4096; omega), fun _ => ?_⟩
     exact Bt.sel [1, 2] hh (by decide) (by simp only [KlE, FrSel, BlkSel, AV.ren, renL, AV.ok, okL, Option.some.injEq, exists_eq_left', List.length_cons, List.length_nil, Nat.reduceAdd, Nat.reduceLT, reduceCtorEq, implies_true, exists_eq']) (by simp only [KlE, FrSel, BlkSel, AV.ren, renL, AV.ok, okL, Option.some.injEq, exists_eq_left', List.length_cons, List.length_nil, Nat.reduceAdd, Nat.reduceLT, reduceCtorEq, implies_true, exists_eq'])
    ·rw [if_pos hr, if_neg h4] at e
     cases e
     refine FnAt.c (FnAt.run (by kernel_rfl) (T := ⟨[⟨102, qPX, fun _ => []⟩, ⟨104, QvJ, fun _ => []⟩], []⟩) ⟨⟨Kyz, Qb6, trivial⟩, trivial⟩ Tryz.func63 sw63 fun ho hh => ?_)
     simp only [XDC, Bool.and_eq_true] at ho
     have f1 := hs.fx ho.1 (sz := 1) rfl
     have f2 := ht.fx ho.2.1 (sz := 2) rfl
     unfold w63
     simp only [QhW, YqD, z18, Xq8, if_true, if_false, reduceIte, Nat.reduceAdd, Nat.reduceSub, Nat.reduceLeDiff, Nat.reduceEqDiff, Nat.reduceMul, Nat.reduceLT, Int.reduceLT, Int.reduceLE, Int.reduceEq, f1, f2, qPX, QvJ, hr, hl]
     refine ⟨fun q => q.elim, fun _ => ?_, fun q => absurd (show (fmO vs ds).2.length ≤ 4096 from by show (fmR vs (layR ds)).2.length ≤ 4096; omega) h4⟩
     exact Bt.drop _ hh rfl rfl
   ·rw [if_neg hr] at e
    cases e
    refine FnAt.c (FnAt.run (by kernel_rfl) (T := ⟨[⟨102, qPX, fun _ => []⟩, ⟨104, QvJ, fun _ => []⟩], []⟩) ⟨⟨Kyz, Qb6, trivial⟩, trivial⟩ Tryz.func63 sw63 fun ho hh => ?_)
    simp only [XDC, Bool.and_eq_true] at ho
    have f1 := hs.fx ho.1 (sz := 1) rfl
    have f2 := ht.fx ho.2.1 (sz := 2) rfl
    unfold w63
    simp only [QhW, YqD, z18, Xq8, if_true, if_false, reduceIte, Nat.reduceAdd, Nat.reduceSub, Nat.reduceLeDiff, Nat.reduceEqDiff, Nat.reduceMul, Nat.reduceLT, Int.reduceLT, Int.reduceLE, Int.reduceEq, f1, f2, qPX, QvJ, hr, hl]
    exact ⟨Bt.drop _ hh rfl rfl, fun q => q.elim⟩
  ·cases e
 ·cases e
end Go.Proofs.YtcncpbcbedfakaaGreat
end
