/- Part 25 of what the laws' proofs rest on. No condition. -/
import Derived.Test.YtfaccliekejngaaGreatOo24
set_option linter.all false
section
namespace Go.Proofs.YtfaccliekejngaaGreat
set_option maxRecDepth 100000
set_option maxHeartbeats 8000000
def delL (i : Dg) (l : List Hd) : List Hd := l.filter fun y => decide (¬ y.2 = i)
theorem Xc5 (i : Dg) {l : List Hd} {k : Nat} (h : k < l.length) : delL i (l.take (k + 1)) = delL i (l.take k) ++ (if ¬ (l.getD k qjO.d).2 = i then [l.getD k qjO.d] else []) := by
 unfold delL
 rw [List.take_succ_eq_append_getElem h, List.filter_append, List.getD_eq_getElem?_getD, List.getElem?_eq_getElem h]
 simp only [Option.getD_some, List.filter_cons, List.filter_nil, decide_eq_true_eq]
theorem Yfa (i : Dg) (l : List Hd) : (delL i l).length ≤ l.length := List.length_filter_le _ _
theorem YA6 {i : Dg} {l : List Hd} (h : ¬ ∃ x ∈ l, x.2 = i) : delL i l = l := List.filter_eq_self.2 fun y hy => decide_eq_true fun q => h ⟨y, hy, q⟩
theorem qUn (i : Dg) : ∀ (l : List Hd) (n : Nat), 0 ≤ XBh (fun y : Hd => y.2 = i) l n → ∃ j, j < l.length ∧ XBh (fun y : Hd => y.2 = i) l n = ((n + j : Nat) : Int) ∧ delL i (l.take (j + 1)) = l.take j
 | [], n, h => by simp [XBh] at h
 | a :: l, n, h => by
  unfold XBh at h ⊢
  split
  ·rename_i q
   exact ⟨0, by simp, by simp, by simp [delL, q]⟩
  ·rename_i q
   rw [if_neg q] at h
   obtain ⟨j, h1, h2, h3⟩ := qUn i l (n + 1) h
   refine ⟨j + 1, by simpa using h1, by rw [h2]; congr 1; omega, ?_⟩
   rw [List.take_succ_cons, List.take_succ_cons, ← h3]
   unfold delL
   rw [List.filter_cons, if_pos (decide_eq_true q)]
noncomputable def JBi : List AV → List AB → Option (AV × List AB)
 | [y, .p b 0], h => (XAh h b).bind fun c => (getI (.ag c)).bind fun i => (getH y).bind fun x => some (.b (decide (x.2 = i)), h)
 | _, _ => none
theorem ztO {h : List AB} {i : Nat} {c : List AV} {x : Dg} (e : XAh h i = some c) (hx : getI (.ag c) = some x) : XAh h i = some (idR.f x) := by
 unfold getI at hx
 split at hx
 ·rename_i q
  cases hx
  have := q.choose_spec
  rw [AV.ag.injEq] at this
  rw [e, ← this]
 ·cases hx
theorem Xeh : Spec Tryz.prog 78 JBi := by
 intro args h v h' e
 unfold JBi at e
 split at e
 ·rename_i y b
  obtain ⟨c, hc, e⟩ := Option.bind_eq_some_iff.1 e
  obtain ⟨i, hi, e⟩ := Option.bind_eq_some_iff.1 e
  obtain ⟨x, hx, e2⟩ := KFu e
  clear e
  subst hx
  cases e2
  have f1 := qee (ztO hc hi)
  refine FnAt.c (FnAt.run (by kernel_rfl) (T := ⟨[], []⟩) ⟨trivial, trivial⟩ Tryz.func78 sw78 fun ho hh => ?_)
  unfold w78
  simp only [XH8, QN9, X1r, X5W, zVq, simprocAttr, CO.tmps, Opd.tmps, optT, Nat.reducePow, Nat.reduceDiv, Nat.reduceMod, f1, qfY, XwU, Kb6, XEe, zp7, ZOt, Ke3, QLO]
  exact Bt.dropB _ hh rfl
 ·cases e
noncomputable def KYg : List AV → List AB → Option (AV × List AB)
 | [s, .f (.func 78) [] [.p b 0]], h => (XAh h b).bind fun c => (getI (.ag c)).bind fun i => (getS qjO h s).bind fun l => some (.i .i64 (idx (fun y : Hd => y.2 = i) l), h)
 | _, _ => none
theorem YgJ : Spec Tryz.prog 123 KYg := by
 intro args h v h' e
 unfold KYg at e
 split at e
 ·rename_i s b
  obtain ⟨c, hc, e⟩ := Option.bind_eq_some_iff.1 e
  obtain ⟨i, hi, e⟩ := Option.bind_eq_some_iff.1 e
  obtain ⟨l, hx, e⟩ := YI8 e
  cases e
  have hb := ztO hc hi
  refine FnAt.c (FnAt.run (by kernel_rfl) (T := ⟨[⟨78, JBi, fun _ => []⟩], []⟩) ⟨⟨Xeh, trivial⟩, trivial⟩ Tryz.func123 z9j fun ho hh => ?_)
  simp only [qMC, Bool.and_eq_true] at ho
  have f1 := hx.fx ho.1 (sz := 34) rfl
  have k0 : ∀ y, XAh (h ++ y) b = some (idR.f i) := (qee hb).1
  unfold w123
  simp only [XH8, QN9, X1r, zVq, simprocAttr, f1]
  refine YMr (S := Nat) (fun j => l.length - j) (fun j => [s, .f (.func 78) [] [.p b 0]] ++ tp 5 ++ [.i .i64 l.length, .i .i64 j] ++ tp 10) (fun j => j ≤ l.length ∧ idx (fun y : Hd => y.2 = i) l = XBh (fun y : Hd => y.2 = i) (l.drop j) j) 0 ⟨Nat.zero_le _, rfl⟩ (by simp only [X1r, zVq, simprocAttr]) fun j hj => ?_
  simp only [X1r, zVq, simprocAttr, f1]
  refine ⟨fun h2 => ?_, fun h2 => ?_⟩
  ·have e1 : IntKind.i64.wrap ((j : Int) + 1) = ((j + 1 : Nat) : Int) := ZL4 (by have := hx.2; unfold maxLen at this; unfold In64; omega)
   have e2 := qVK (fun y : Hd => y.2 = i) qjO.d j h2
   simp only [X1r, zVq, simprocAttr, f1, h2, e1, JBi, KDg, ZK2, k0]
   refine ⟨fun h3 => Bt.eq (by rw [hj.2, e2, if_pos h3]) (List.append_nil h), fun h3 => ⟨j + 1, ⟨h2, ?_⟩, by omega, Wk.refl _⟩⟩
   rw [hj.2, e2, if_neg h3]
  ·exact Bt.eq (by rw [hj.2, List.drop_eq_nil_of_le (by omega)]; rfl) (List.append_nil h)
 ·cases e
structure DelSt (i : Dg) (l L : List Hd) (j k : Nat) : Prop where
 len : L.length = l.length
 lt : k < j
 le : j ≤ l.length
 hd : L.take k = delL i (l.take j)
 tl : ∀ m, j ≤ m → L.getD m qjO.d = l.getD m qjO.d
theorem DelSt.skip {i : Dg} {l L : List Hd} {j k : Nat} (s : DelSt i l L j k) (hj : j < l.length) (q : (l.getD j qjO.d).2 = i) : DelSt i l L (j + 1) k :=
 ⟨s.len, Nat.lt_succ_of_lt s.lt, hj, by rw [Xc5 i hj, if_neg (not_not_intro q), List.append_nil]; exact s.hd, fun m hm => s.tl m (by omega)⟩
theorem DelSt.keep {i : Dg} {l L : List Hd} {j k : Nat} (s : DelSt i l L j k) (hj : j < l.length) (q : ¬ (l.getD j qjO.d).2 = i) : DelSt i l (L.set k (l.getD j qjO.d)) (j + 1) (k + 1) := by
 have hk : k < L.length := by have := s.len; have := s.lt; omega
 refine ⟨by rw [List.length_set]; exact s.len, Nat.succ_lt_succ s.lt, hj, ?_, fun m hm => ?_⟩
 ·rw [Xc5 i hj, if_pos q, ← s.hd, List.take_succ_eq_append_getElem (by rw [List.length_set]; exact hk), List.getElem_set_self]
  congr 1
  rw [List.take_set, List.set_eq_of_length_le (by rw [List.length_take]; omega)]
 ·rw [List.getD_eq_getElem?_getD, List.getElem?_set_ne (by have := s.lt; omega), ← List.getD_eq_getElem?_getD]
  exact s.tl m (by omega)
open Classical in
noncomputable def qY9 : List AV → List AB → Option (AV × List AB)
 | [s, .f (.func 78) [] [.p b 0]], h => (XAh h b).bind fun c => (getI (.ag c)).bind fun i => (getS qjO h s).bind fun l => match idOf s with
   | [id] => if s = rsl qjO id l ∧ h[id]? = some (resB qjO true l) ∧ b ≠ id ∧ l.length ≤ 1000000 then some (rsl qjO id (delL i l), h.set id (resB qjO true (delL i l))) else none
   | _ => none
 | _, _ => none
theorem XtY : Spec Tryz.prog 77 qY9 := by
 intro args h v h' e
 unfold qY9 at e
 split at e
 ·rename_i s b
  obtain ⟨c, hc, e⟩ := Option.bind_eq_some_iff.1 e
  obtain ⟨i, hi, e⟩ := Option.bind_eq_some_iff.1 e
  obtain ⟨l, hs, e⟩ := YI8 e
  split at e
  ·rename_i id hid
   split at e
   ·rename_i hcc
    cases e
    obtain ⟨h1, h2, hbn, h3⟩ := hcc
    have hb := ztO hc hi
    have hlt := (List.getElem?_eq_some_iff.1 h2).1
    have hS2 : s.isSl = true := hs.isSl
    by_cases hn : idx (fun y : Hd => y.2 = i) l < 0
    ·have hd : delL i l = l := YA6 fun q => by
      have := (zpY (fun y : Hd => y.2 = i) l).2 q
      omega
     have hm1 : idx (fun y : Hd => y.2 = i) l = -1 := by
      have : ∀ (l : List Hd) (n : Nat), XBh (fun y : Hd => y.2 = i) l n < 0 → XBh (fun y : Hd => y.2 = i) l n = -1 := by
       intro l
       induction l with
       | nil => intro n _; rfl
       | cons a l ih =>
        intro n hq
        unfold XBh at hq ⊢
        split
        ·rename_i z
         rw [if_pos z] at hq
         omega
        ·rename_i z
         rw [if_neg z] at hq
         exact ih _ hq
      exact this l 0 hn
     rw [hd, Js6 h2, ← h1]
     refine FnAt.c (FnAt.run (by kernel_rfl) (T := ⟨[⟨123, KYg, fun _ => []⟩], []⟩) ⟨⟨YgJ, trivial⟩, trivial⟩ Tryz.func77 sw77 fun ho hh => ?_)
     simp only [qMC, Bool.and_eq_true] at ho
     have f1 := hs.fx ho.1 (sz := 34) rfl
     have k0 : ∀ y, XAh (h ++ y) b = some (idR.f i) := (qee hb).1
     unfold w77
     simp only [XH8, QN9, X1r, X5W, zVq, simprocAttr, CO.tmps, Opd.tmps, optT, Nat.reducePow, Nat.reduceDiv, Nat.reduceMod, f1, KYg, k0, ZK2, hm1]
     exact Bt.eq rfl (List.append_nil h)
    ·obtain ⟨j0, hj0, hij, hdj⟩ := qUn i l 0 (by unfold idx at hn; omega)
     have hij2 : idx (fun y : Hd => y.2 = i) l = (j0 : Int) := by unfold idx; rw [hij, Nat.zero_add]
     have hpos : 0 < l.length := by omega
     have hS : rsl qjO id l = .sl id 0 l.length l.length (some 34) := by unfold rsl; rw [if_neg (by omega)]; rfl
     have kb0 : ∀ y, XAh (h ++ y) b = some (idR.f i) := (qee hb).1
     have hg : ∀ y, getS qjO (h ++ y) (.sl id 0 l.length l.length (some 34)) = some l := fun y => by rw [← hS, ← h1]; exact (hs.app y).get
     have ho1 : l.length ≠ 0 := by omega
     rw [h1, hS]
     refine FnAt.c (FnAt.run (by kernel_rfl) (T := ⟨[⟨123, KYg, fun _ => []⟩, ⟨78, JBi, fun _ => []⟩], []⟩) ⟨⟨YgJ, Xeh, trivial⟩, trivial⟩ Tryz.func77 sw77 fun ho hh => ?_)
     have nm1 : ((j0 : Int) = -1) = False := eq_false (by omega)
     have e0 : IntKind.i64.wrap ((j0 : Int) + 1) = ((j0 + 1 : Nat) : Int) := ZL4 (by unfold In64; omega)
     have hset : h.set id (resB qjO true l) = h := Js6 h2
     unfold w77
     simp only [XH8, QN9, X1r, X5W, zVq, simprocAttr, CO.tmps, Opd.tmps, optT, Nat.reducePow, Nat.reduceDiv, Nat.reduceMod, lenV, KYg, kb0, hg, ZK2, hij2, nm1, e0, false_implies, true_and]
     refine YHj (S := Nat × Nat × List Hd) (fun s => l.length - s.1) (fun s => [.sl id 0 l.length l.length (some 34), .f (.func 78) [] [.p b 0]] ++ tp 3 ++ [.i .i64 s.2.1, .i .i64 s.1] ++ tp 35) (fun s => h.set id (resB qjO true s.2.2) ++ []) (fun s => DelSt i l s.2.2 s.1 s.2.1) (j0 + 1, j0, l) ⟨rfl, Nat.lt_succ_self _, hj0, hdj.symm, fun _ _ => rfl⟩ (by rw [hset]; exact Bt.wk (by simp only [X1r, zVq, simprocAttr])) fun s hs => ?_
     obtain ⟨j, k, L⟩ := s
     dsimp only at hs ⊢
     have hL := hs.len
     have hk := hs.lt
     have hle := hs.le
     have hi2 : (h.set id (resB qjO true L))[id]? = some (resB qjO true L) := List.getElem?_set_self hlt
     have kb : ∀ y, XAh (h.set id (resB qjO true L) ++ y) b = some (idR.f i) := fun y => by
      have := kb0 []
      rw [List.append_nil] at this
      refine X94 ?_ y
      unfold XAh at this ⊢
      rw [List.getElem?_set_ne (fun q => hbn q.symm)]
      exact this
     by_cases hjl : j < l.length
     ·have g3 : ((j : Int) < (l.length : Int)) = True := eq_true (by omega)
      have g4 : (j < l.length) = True := eq_true hjl
      have g6 : (k < l.length) = True := eq_true (by omega)
      have e3 : IntKind.i64.wrap ((j : Int) + 1) = ((j + 1 : Nat) : Int) := ZL4 (by unfold In64; omega)
      have e5 : IntKind.i64.wrap ((k : Int) + 1) = ((k + 1 : Nat) : Int) := ZL4 (by unfold In64; omega)
      have q1 := fun x => Z2r (r := qjO) (o := 0 + j * 34) (j := j) hi2 (by omega) (by rw [YuL]; omega) x
      simp only [YuL, hs.tl j (Nat.le_refl _)] at q1
      have q3 := fun x => QTq (r := qjO) (o := 0 + k * 34) (j := k) (y := l.getD j qjO.d) hi2 (by omega) (by rw [YuL]; omega) (XEe _) x
      simp only [YuL, List.set_set] at q3
      generalize hx : l.getD j qjO.d = x at *
      simp only [X1r, X5W, zVq, simprocAttr, CO.tmps, Opd.tmps, optT, Nat.reducePow, Nat.reduceDiv, Nat.reduceMod, lenV, g3, g4, g6, iadV, e3, e5, q1, q3, JBi, KDg, ZK2, kb, KJo, XEe, zp7, ZOt, Ke3, List.length_cons, List.length_nil, false_implies]
      have hb2 : b < h.length := JwL hb
      have bk : ∀ (X : List Hd) (fr fr' : List AV), FrSel (h.set id (resB qjO true X)).length [] 0 fr fr' → Bt Tryz.prog h.length fr (h.set id (resB qjO true X) ++ [.blk true true (qjO.f x)]) fr' (h.set id (resB qjO true X) ++ []) := fun X fr fr' hf => by
       have hk := Kdm (r := qjO) hh id true X
       rw [List.append_nil] at hk
       have z := Bt.sel (P := Tryz.prog) (h := h.set id (resB qjO true X)) (l := [.blk true true (qjO.f x)]) (l' := []) [] (hk.mpr trivial) (by decide) (by simp only [q9C, FrSel, BlkSel, AV.ren, renL, AV.ok, okL, Option.some.injEq, exists_eq_left', List.length_cons, List.length_nil, Nat.reduceAdd, Nat.reduceLT, reduceCtorEq, implies_true, exists_eq']) hf
       rwa [List.length_set] at z
      have s1 : ∀ X : List Hd, selN (h.set id (resB qjO true X)).length [] id = id := fun X => Xdk (by rw [List.length_set]; exact hlt)
      have s2 : ∀ X : List Hd, selN (h.set id (resB qjO true X)).length [] b = b := fun X => Xdk (by rw [List.length_set]; exact hb2)
      have s3 : ∀ X : List Hd, (id < (h.set id (resB qjO true X)).length) = True := fun X => eq_true (by rw [List.length_set]; exact hlt)
      have s4 : ∀ X : List Hd, (b < (h.set id (resB qjO true X)).length) = True := fun X => eq_true (by rw [List.length_set]; exact hb2)
      refine ⟨fun q => ⟨(j + 1, k + 1, L.set k x), ?_, by dsimp only; omega, bk _ _ _ (by simp only [q9C, FrSel, BlkSel, AV.ren, renL, AV.ok, okL, Option.some.injEq, exists_eq_left', List.length_cons, List.length_nil, Nat.reduceAdd, Nat.reduceLT, reduceCtorEq, implies_true, exists_eq', s1, s2, s3, s4])⟩, fun q => ⟨(j + 1, k, L), hs.skip hjl (by rw [hx]; exact Classical.not_not.1 q), by dsimp only; omega, bk _ _ _ (by simp only [q9C, FrSel, BlkSel, AV.ren, renL, AV.ok, okL, Option.some.injEq, exists_eq_left', List.length_cons, List.length_nil, Nat.reduceAdd, Nat.reduceLT, reduceCtorEq, implies_true, exists_eq', s1, s2, s3, s4])⟩⟩
      have := hs.keep hjl (by rw [hx]; exact q)
      rw [hx] at this
      exact this
     ·have g3 : ((j : Int) < (l.length : Int)) = False := eq_false (by omega)
      simp only [X1r, zVq, simprocAttr, lenV, g3, false_implies, true_and]
      have g6 : (k < l.length) = True := eq_true (by omega)
      have hkl : k < l.length := by omega
      have sI : slL 34 (.sl id 0 l.length l.length (some 34)) (some (.i .i64 (k : Int))) none none = some (.sl id (0 + k * 34) (l.length - k) (l.length - k) (some 34)) := by
       rcases Nat.eq_zero_or_pos k with k0 | k0
       ·subst k0; simp [slL, bnd]
       ·simp [slL, bnd, kcut, hkl, Nat.le_of_lt hkl, Nat.ne_of_gt k0]
      have sJ : slL 34 (.sl id 0 l.length l.length (some 34)) none (some (.i .i64 (k : Int))) none = some (.sl id 0 k l.length (some 34)) := by
       simp [slL, bnd, kcut, Nat.le_of_lt hkl]
      have zi : ∀ (zl : List AV), zl = qjO.f ((0, 0), KFp) → ∀ x, clrV (h.set id (resB qjO true L) ++ x) zl (.sl id (0 + k * 34) (l.length - k) (l.length - k) (some 34)) = some (.tu [], h.set id (resB qjO true (L.take k ++ List.replicate (l.length - k) ((0, 0), KFp))) ++ x) := fun zl hz x => by
       rw [hz, JdP hi2 (by omega) (by omega), List.set_set]
      have zj := zi _ (show ([.i .i64 0, .i .i64 0] ++ List.replicate 32 (AV.i .u8 0)) = qjO.f ((0, 0), KFp) from rfl)
      simp only [List.replicate, List.cons_append, List.nil_append] at zj
      simp only [X1r, zVq, simprocAttr, sI, sJ, Jss, zj]
      have hm : (L.take k ++ List.replicate (l.length - k) ((0, 0), KFp)).take k = delL i l := by
       rw [List.take_left' (by rw [List.length_take]; omega), hs.hd]
       have : j = l.length := by omega
       rw [this, List.take_length]
      exact q5h hlt (by rw [List.length_append, List.length_take, List.length_replicate]; omega) (by omega) (by omega) hm
   ·cases e
  ·cases e
 ·cases e
theorem Q9A {h : List AB} (L : List AB) (k b : Nat) (l : List Hd) (i : Dg) (hk : ownM qjO l L k) (hb : ownC L b = some (idR.f i)) (n : (b = k) = False) (hl : l.length ≤ 1000000) : qY9 [rsl qjO (h.length + k) l, .f (.func 78) [] [.p (h.length + b) 0]] (h ++ L) = some (rsl qjO (h.length + k) (delL i l), h ++ L.set k (resB qjO true (delL i l))) := by
 have h1 : (h ++ L)[h.length + k]? = some (resB qjO true l) := by rw [Yn6]; exact ZLZ l L k hk
 have g := (zRx h1 (by unfold maxLen; omega)).get
 have hn : ¬ b = k := fun q => by rw [q] at n; simp at n
 simp only [qY9, Q4R, hb, ZK2, g, Option.bind_some, XPg]
 rw [if_pos ⟨rfl, h1, by omega, hl⟩, zpT]
noncomputable def qBn : List AV → List AB → Option (AV × List AB)
 | [.ag [l, s, t], y], h => (getS qjO h l).bind fun hs => (getS intR h s).bind fun v => (getS dotR h t).bind fun ds => (getI y).bind fun i =>
   if hs.length ≤ 100000 ∧ v.length ≤ 1000000 ∧ ds.length ≤ 1000000 then
    if Kq6 hs v ds ≠ 0 then some (.tu [.ag [.ns, .ns, .ns], .i .i64 (Kq6 hs v ds)], h)
    else if ¬ ∃ x ∈ hs, x.2 = i then some (.tu [.ag [.ns, .ns, .ns], .i .i64 15], h)
    else some (.tu [.ag [rsl qjO h.length (delL i hs), rsl intR (h.length + 1) v, rsl dotR (h.length + 2) ds], .i .i64 0], h ++ [resB qjO true (delL i hs), resB intR true v, resB dotR true ds])
   else none
 | _, _ => none
def wsD : List AV → List Nat
 | [s, _] => idOf s
 | _ => []
theorem JOs : Spec Tryz.prog 26 qBn := by
 intro args h v h' e
 unfold qBn at e
 split at e
 ·rename_i l s t y
  obtain ⟨hs, hl, e⟩ := YI8 e
  obtain ⟨xs, hv, e⟩ := YI8 e
  obtain ⟨ds, hd, e⟩ := YI8 e
  obtain ⟨i, hi, e2⟩ := Kky e
  clear e
  subst hi
  split at e2
  ·rename_i hL
   have hR := (⟨⟨zRg, J2q, QZy, XtY, Jqn, trivial⟩, trivial⟩ : Env.Ok Tryz.prog ⟨[⟨31, X7Q, fun _ => []⟩, ⟨33, zSr, fun _ => []⟩, ⟨73, zLz, fun _ => []⟩, ⟨77, qY9, wsD⟩, ⟨60, q7G, fun _ => []⟩], []⟩)
   refine FnAt.c (FnAt.run (by kernel_rfl) hR Tryz.func26 sw26 fun ho hh => ?_)
   simp only [qMC, JAX, Bool.and_eq_true] at ho
   have f1 := hl.fx ho.1.1 (sz := 34) rfl
   have f2 := hv.fx ho.1.2.1 (sz := 1) rfl
   have f3 := hd.fx ho.1.2.2.1 (sz := 2) rfl
   have hL1 : (hs.length ≤ 1000000) = True := eq_true (by omega)
   have hL2 := eq_true hL.1
   have hL3 := eq_true hL.2.1
   have hL4 := eq_true hL.2.2
   unfold w26
   by_cases c0 : Kq6 hs xs ds = 0
   case neg =>
    have c0' := eq_false c0
    rw [if_pos c0] at e2
    cases e2
    simp only [XH8, QN9, X1r, X5W, zVq, simprocAttr, CO.tmps, Opd.tmps, optT, Nat.reducePow, Nat.reduceDiv, Nat.reduceMod, f1, f2, f3, X7Q, c0', hL1, Ydx, XwU, Kb6, Ke3, ne_eq, not_false_eq_true, not_true_eq_false, decide_true, decide_false]
    exact Bt.drop _ hh rfl (by simp only [ZVg, qMC, YI0, JAX, Yiy, ok_i, Bool.and_true])
   rw [if_neg (not_not_intro c0)] at e2
   by_cases c1 : ∃ x ∈ hs, x.2 = i
   case neg =>
    have c1' := eq_false c1
    rw [if_pos c1] at e2
    cases e2
    simp only [XH8, QN9, X1r, X5W, zVq, simprocAttr, CO.tmps, Opd.tmps, optT, Nat.reducePow, Nat.reduceDiv, Nat.reduceMod, f1, f2, f3, X7Q, zSr, ZK2, c0, c1', hL1, hL2, Ydx, XwU, Kb6, Ke3, ne_eq, not_false_eq_true, not_true_eq_false, decide_true, decide_false]
    exact Bt.drop _ hh rfl (by simp only [ZVg, qMC, YI0, JAX, Yiy, ok_i, Bool.and_true])
   have c1' := eq_true c1
   rw [if_neg (not_not_intro c1)] at e2
   cases e2
   have dl := fun L k b hk hb n => Q9A (h := h) L k b hs i hk hb n (by omega)
   have ldl := Yfa i hs
   simp only [XH8, QN9, X1r, X5W, zVq, simprocAttr, CO.tmps, Opd.tmps, optT, Nat.reducePow, Nat.reduceDiv, Nat.reduceMod, f1, f2, f3, X7Q, zSr, zLz, q7G, dl, ZK2, c0, c1', hL1, hL2, hL3, hL4, Ydx, XwU, Kb6, Ke3, ne_eq, not_false_eq_true, not_true_eq_false, decide_true, decide_false]
   exact Bt.sel [3, 4, 5] hh (by decide) (by simp only [q9C, FrSel, BlkSel, AV.ren, renL, AV.ok, okL, Option.some.injEq, exists_eq_left', List.length_cons, List.length_nil, Nat.reduceAdd, Nat.reduceLT, reduceCtorEq, implies_true, exists_eq']) (by simp only [q9C, FrSel, BlkSel, AV.ren, renL, AV.ok, okL, Option.some.injEq, exists_eq_left', List.length_cons, List.length_nil, Nat.reduceAdd, Nat.reduceLT, reduceCtorEq, implies_true, exists_eq'])
  ·cases e2
 ·cases e
end Go.Proofs.YtfaccliekejngaaGreat
end
section
namespace Go.Proofs.YtfaccliekejngaaGreat
set_option maxRecDepth 100000
set_option maxHeartbeats 16000000
def apJ (hs : List Hd) (v : List Int) (ds : Dots) (nw : List Hd) (kp : Dots) (v' : List Int) (ds' : Dots) (hw : List Hd) (vw : List Int) (dw : Dots) : Prop :=
 apE hs v ds nw kp v' ds' = 0 ∧ chL hs v ds nw kp v' ds' = hw ∧ (zbr v v' ds ds').1 = vw ∧ (zbr v v' ds ds').2 = dw
noncomputable instance (hs : List Hd) (v : List Int) (ds : Dots) (nw : List Hd) (kp : Dots) (v' : List Int) (ds' : Dots) (hw : List Hd) (vw : List Int) (dw : Dots) : Decidable (apJ hs v ds nw kp v' ds' hw vw dw) := Classical.propDecidable _
noncomputable def YMR : List AV → List AB → Option (AV × List AB)
 | [.ag [l, s, t], .ag [n, k, s', t'], .ag [lw, sw, tw]], h => (getS qjO h l).bind fun hs => (getS intR h s).bind fun v => (getS dotR h t).bind fun ds => (getS qjO h n).bind fun nw => (getS dotR h k).bind fun kp => (getS intR h s').bind fun v' => (getS dotR h t').bind fun ds' => (getS qjO h lw).bind fun hw => (getS intR h sw).bind fun vw => (getS dotR h tw).bind fun dw =>
   if (hs.length ≤ 1000 ∧ nw.length ≤ 1000 ∧ kp.length ≤ 1000) ∧ t.capOk = true ∧ t'.capOk = true then some (.b (decide (apJ hs v ds nw kp v' ds' hw vw dw)), h) else none
 | _, _ => none
theorem ap_0 {hs : List Hd} {v : List Int} {ds : Dots} {nw : List Hd} {kp : Dots} {v' : List Int} {ds' : Dots} (h : apE hs v ds nw kp v' ds' = 0) : Kq6 hs v ds = 0 ∧ KXy v' ds' = 0 ∧ mayP nw kp v' ds' ∧ zwL hs nw ∧ (zbr v v' ds ds').2.length ≤ 4096 := by
 unfold apE at h
 split at h
 ·rename_i c; exact absurd h c
 ·rename_i c1
  split at h
  ·rename_i c; exact absurd h c
  ·rename_i c2
   split at h
   ·simp at h
   ·rename_i c3
    split at h
    ·simp at h
    ·rename_i c4
     split at h
     ·simp at h
     ·rename_i c5
      exact ⟨Decidable.not_not.1 c1, Decidable.not_not.1 c2, Decidable.not_not.1 c3, Decidable.not_not.1 c4, Decidable.not_not.1 c5⟩
theorem YDF : Spec Tryz.prog 44 YMR := by
 intro args h v h' e
 unfold YMR at e
 split at e
 ·rename_i l s t n k s' t' lw sw tw
  obtain ⟨hs, hl, e⟩ := YI8 e
  obtain ⟨xs, hv, e⟩ := YI8 e
  obtain ⟨ds, hd, e⟩ := YI8 e
  obtain ⟨nw, hn, e⟩ := YI8 e
  obtain ⟨kp, hk, e⟩ := YI8 e
  obtain ⟨xs', hv', e⟩ := YI8 e
  obtain ⟨ds', hd', e⟩ := YI8 e
  obtain ⟨hw, hlw, e⟩ := YI8 e
  obtain ⟨vw, hvw, e⟩ := YI8 e
  obtain ⟨dw, hdw, e⟩ := YI8 e
  split at e
  ·rename_i hc
   obtain ⟨⟨hL, hL', hL2⟩, k1, k2⟩ := hc
   cases e
   refine FnAt.c (FnAt.run (by kernel_rfl) (T := ⟨[⟨38, zgC, fun _ => []⟩, ⟨19, Kdw, fun _ => []⟩], []⟩) ⟨⟨Yhf, QeN, trivial⟩, trivial⟩ Tryz.func44 sw44 fun ho hh => ?_)
   simp only [qMC, JAX, Bool.and_eq_true] at ho
   have f1 := hl.fx ho.1.1 (sz := 34) rfl
   have f2 := hv.fx ho.1.2.1 (sz := 1) rfl
   have f3 := hd.fx ho.1.2.2.1 (sz := 2) rfl
   have f4 := hn.fx ho.2.1.1 (sz := 34) rfl
   have f5 := hk.fx ho.2.1.2.1 (sz := 2) rfl
   have f6 := hv'.fx ho.2.1.2.2.1 (sz := 1) rfl
   have f7 := hd'.fx ho.2.1.2.2.2.1 (sz := 2) rfl
   have f8 := hlw.fx ho.2.2.1.1 (sz := 34) rfl
   have f9 := hvw.fx ho.2.2.1.2.1 (sz := 1) rfl
   have f10 := hdw.fx ho.2.2.1.2.2.1 (sz := 2) rfl
   have hL1 : (hs.length ≤ 10000) = True := eq_true (by omega)
   have hL3 : (nw.length ≤ 10000) = True := eq_true (by omega)
   have hL4 : (kp.length ≤ 10000) = True := eq_true (by omega)
   unfold w44
   by_cases c0 : apE hs xs ds nw kp xs' ds' = 0
   case neg =>
    have c0' := eq_false c0
    simp only [XH8, QN9, X1r, X5W, zVq, simprocAttr, CO.tmps, Opd.tmps, optT, Nat.reducePow, Nat.reduceDiv, Nat.reduceMod, f1, f2, f3, f4, f5, f6, f7, f8, f9, f10, zgC, Kdw, c0', hL1, hL3, hL4, k1, k2, zlS, and_self, eq_self, ne_eq, not_false_eq_true, not_true_eq_false, decide_true, decide_false]
    exact Bt.dropB _ hh (decide_eq_false fun z => c0 z.1).symm
   obtain ⟨a1, a2, a3, a4, a5⟩ := ap_0 c0
   have n0 := Z2V (l := hs) (v := xs) (ds := ds) (nw := nw) (kp := kp) (v' := xs') (ds' := ds')
   have nj := QaH (zFp.1 a1).nf (KIn a2)
   have n1 : ((chL hs xs ds nw kp xs' ds').length ≤ 1000000) = True := eq_true (by omega)
   have n2 : ((zbr xs xs' ds ds').1.length ≤ 1000000) = True := eq_true (by have := nj.rg.1; omega)
   have n3 : ((zbr xs xs' ds ds').2.length ≤ 1000000) = True := eq_true (by omega)
   simp only [XH8, QN9, X1r, X5W, zVq, simprocAttr, CO.tmps, Opd.tmps, optT, Nat.reducePow, Nat.reduceDiv, Nat.reduceMod, f1, f2, f3, f4, f5, f6, f7, f8, f9, f10, zgC, Kdw, c0, hL1, hL3, hL4, k1, k2, n1, n2, n3, qPj, and_self, eq_self, ne_eq, not_false_eq_true, not_true_eq_false, decide_true, decide_false]
   exact Bt.dropB _ hh (decide_eq_decide.2 ⟨fun z => ⟨c0, z⟩, fun z => z.2⟩)
  ·cases e
 ·cases e
section
variable (d e : Dg)
theorem ZDZ : addE [((1, 1), d)] [1] [] (1, 1) = 19 := by
 unfold addE
 rw [if_neg (not_not_intro (s10 d)), if_pos (by decide)]
theorem Q1O : addE [((1, 1), d)] [1] [] (2, 1) = 0 := by
 unfold addE
 rw [if_neg (not_not_intro (s10 d)), if_neg (by decide), if_neg (by decide), if_neg (by decide)]
theorem KPf : mkO [1] [] (2, 1) = ([1, 1], []) := by decide
theorem zDg : layG KBL [((1, 1), d)] ((2, 1), e) = [((1, 1), d), ((2, 1), e)] := by
 rw [QlJ (show ¬ KBL ((2, 1), e) ((1, 1), d) from (show ¬ ZwT (2, 1) (1, 1) by decide)), zen]
theorem Jod : delL d [((1, 1), d), ((2, 1), d)] = [] := by
 unfold delL
 simp
theorem ZmE : outL [1] [] [((1, 1), d), ((2, 1), e)] = [((2, 1), e)] := by
 rw [X02 ⟨k10, show YlY [1] [] (1, 1) by decide⟩, QG6 fun q => absurd (show YlY [1] [] (2, 1) from q.2) (by decide), ZXc]
theorem YcI : ZnW [1] [] [((1, 1), d), ((2, 1), e)] = [(1, 1)] := by
 unfold ZnW
 rw [List.filter_cons, if_pos (decide_eq_true ⟨k10, show YlY [1] [] (1, 1) by decide⟩), List.filter_cons, if_neg (by rw [decide_eq_true_eq]; exact fun q => absurd (show YlY [1] [] (2, 1) from q.2) (by decide))]
 rfl
theorem Kua (h : d ≠ e) : ¬ zwL [((1, 1), d)] [((1, 1), e)] := fun g => h (g _ (.head _) _ (.head _) rfl)
theorem KQ0 : Go.Proofs.YtfaccliekejngaaGreat.sortP cmpG [d, d] = [d, d] := by
 have hp := YRI XSX [d, d]
 have ql := hp.length_eq
 match sortP cmpG [d, d], hp, ql with
 | [a, b], hp, _ =>
  have ha : a ∈ [d, d] := hp.mem_iff.1 (.head _)
  have hb : b ∈ [d, d] := hp.mem_iff.1 (.tail _ (.head _))
  simp only [List.mem_cons, List.not_mem_nil, or_false, or_self] at ha hb
  rw [ha, hb]
theorem YuQ : dgsL [((1, 1), d), ((2, 1), d)] = [d] := by
 unfold dgsL
 rw [show ([((1, 1), d), ((2, 1), d)] : List Hd).map (·.2) = [d, d] from rfl, KQ0]
 unfold cpI cmpL
 simp [cmps]
theorem Qf0 : mayP [((2, 1), e)] [(1, 1)] [1, 1] [] := by
 refine ⟨fun k hk => ?_, fun k hk => ?_, ?_⟩
 ·have : k = 0 := by simpa using hk
  subst this
  exact ⟨fun q => absurd q (by decide), k11, show YlY [1, 1] [] (2, 1) by decide⟩
 ·have : k = 0 := by simpa using hk
  subst this
  exact ⟨fun q => absurd q (by decide), k11, show YlY [1, 1] [] (1, 1) by decide⟩
 ·rintro ⟨x, h1, h2⟩
  rw [List.mem_singleton.1 h1] at h2
  simp at h2
theorem YSf : apJ [((1, 1), d)] [1] [] [((2, 1), e)] [(1, 1)] [1, 1] [] [((1, 1), d), ((2, 1), e)] [1, 1] [] := by
 have g : zwL [((1, 1), d)] [((2, 1), e)] := fun x hx y hy q => by
  rw [List.mem_singleton.1 hx, List.mem_singleton.1 hy] at q
  exact absurd (show ((1 : Int), (1 : Int)) = (2, 1) from q) (by decide)
 refine ⟨?_, ?_, by decide, by decide⟩
 ·unfold apE
  rw [if_neg (not_not_intro (s10 d)), if_neg (not_not_intro k11), if_neg (not_not_intro (Qf0 e)), if_neg (not_not_intro g), if_neg (by decide)]
 ·refine qfr XEZ (Zf1 (zFp.1 (s10 d)) (List.pairwise_singleton _ _)) (zFp.1 (s11 d e)).rise fun x => ?_
  have n2 : ¬ inC [1] [] (2, 1) := fun q => absurd ((QbQ (KIn k10).rg _).2 q) (by decide)
  rw [Q6Q, q5m]
  simp only [List.mem_cons, List.not_mem_nil, or_false]
  constructor
  ·rintro (⟨q, _⟩ | ⟨q, _⟩)
   ·exact .inl q
   ·exact .inr q
  ·rintro (rfl | rfl)
   ·exact .inl ⟨rfl, .inr (.inl rfl)⟩
   ·exact .inr ⟨rfl, n2⟩
theorem JgA : apJ [] [1] [] [((2, 1), e)] [(1, 1)] [1, 1] [] [((2, 1), e)] [1, 1] [] := by
 have g : zwL [] [((2, 1), e)] := fun x hx => by cases hx
 refine ⟨?_, ?_, by decide, by decide⟩
 ·unfold apE
  rw [if_neg (not_not_intro (qAo k10)), if_neg (not_not_intro k11), if_neg (not_not_intro (Qf0 e)), if_neg (not_not_intro g), if_neg (by decide)]
 ·refine qfr XEZ (Zf1 (zFp.1 (qAo k10)) (List.pairwise_singleton _ _)) (List.pairwise_singleton _ _) fun x => ?_
  have n2 : ¬ inC [1] [] (2, 1) := fun q => absurd ((QbQ (KIn k10).rg _).2 q) (by decide)
  rw [Q6Q, q5m]
  simp only [List.mem_cons, List.not_mem_nil, or_false, false_and, false_or]
  exact ⟨fun q => q.1, fun q => by subst q; exact ⟨rfl, n2⟩⟩
theorem z5j : jnS [((1, 1), d), ((2, 1), e)] [1, 1] [] [] [1] [] [((2, 1), e)] [1, 1] [] := by
 have g : zwL [((1, 1), d), ((2, 1), e)] [] := fun x hx y hy => by cases hy
 refine ⟨s11 d e, qAo k10, g, by decide, ?_, by decide, by decide⟩
 refine (zt0 (zFp.1 (s11 d e)) (zFp.1 (qAo k10)) (List.pairwise_singleton _ _) fun x => ?_).symm
 have n1 : inC [1] [] (1, 1) := (QbQ (KIn k10).rg _).1 (by decide)
 have n2 : ¬ inC [1] [] (2, 1) := fun q => absurd ((QbQ (KIn k10).rg _).2 q) (by decide)
 rw [XRH g]
 simp only [List.mem_cons, List.not_mem_nil, or_false, and_false, false_or, false_and]
 constructor
 ·rintro rfl
  exact ⟨.inr rfl, n2⟩
 ·rintro ⟨rfl | rfl, q⟩
  ·exact absurd n1 q
  ·rfl
theorem ZDp : Kq6 [((1, 1), d)] [] [] = 2 := by
 unfold Kq6
 rw [if_neg (not_not_intro k00), if_neg]
 intro q
 exact absurd (show YlY [] [] (1, 1) from (q 0 Nat.one_pos).2.2) (by decide)
end
theorem Zqy : dgB 7 ≠ dgB 8 := by decide
theorem YGn {h : List AB} (L : List AB) (k : Nat) (x : Dg) (q : ownC L k = some (idR.f x)) : getS idR (h ++ L) (.sl (h.length + k) 0 1 1 none) = some [x] :=
 (zDF (r := idR) (n := 1) (l := [x]) (by rw [q]; simp [Row.cells]) (by unfold maxLen; simp) (by simp)).get
theorem qfE {h : List AB} (L : List AB) (k : Nat) (a b : Int) (q : ownC L k = some [.i .i64 a, .i .i64 b]) : getS dotR (h ++ L) (.sl (h.length + k) 0 1 1 none) = some [(a, b)] :=
 (zDF (r := dotR) (n := 1) (l := [(a, b)]) (by rw [q]; simp [Row.cells, KdD]) (by unfold maxLen; simp) (by simp)).get
theorem zLx : Spec Tryz.prog 6 JzV := by
 intro args h v h' e
 unfold JzV at e
 split at e
 ·cases e
  refine FnAt.c (FnAt.frz0 fun hz => ?_)
  generalize h.map AB.freeze = h at *
  refine FnAt.run (by kernel_rfl) (T := ⟨[⟨42, XhJ, fun _ => []⟩, ⟨43, qLW, fun _ => []⟩, ⟨41, YK6, fun _ => []⟩, ⟨40, ZZH, fun _ => []⟩, ⟨24, JrT, fun _ => []⟩, ⟨26, qBn, fun _ => []⟩, ⟨17, YEc, fun _ => []⟩, ⟨15, zXx, fun _ => []⟩, ⟨28, QrX, fun _ => []⟩, ⟨31, X7Q, fun _ => []⟩, ⟨19, Kdw, fun _ => []⟩, ⟨20, qjp, fun _ => []⟩, ⟨29, JuR, fun _ => []⟩, ⟨45, Z2G, fun _ => []⟩, ⟨44, YMR, fun _ => []⟩, ⟨12, X2U, fun _ => []⟩], []⟩) ⟨⟨YeL, YJU, XMk, zDL, QaM, JOs, YZD, XtJ, qVO, zRg, QeN, Jie, Q5j, JU5, YDF, X6o, trivial⟩, trivial⟩ Tryz.func6 sw6 fun ho hh => ?_
  have l1 := fun (L : List AB) k q => lit1 (h := h) L k ((1, 1), dgB 7) q
  have l2 := fun (L : List AB) k q => lit1 (h := h) L k ((2, 1), dgB 7) q
  have l3 := fun (L : List AB) k q => lit2 (h := h) L k ((1, 1), dgB 7) ((2, 1), dgB 7) q
  have l4 := fun (L : List AB) k q => lit1 (h := h) L k ((1, 1), dgB 8) q
  have l5 := fun (L : List AB) k q => lit1 (h := h) L k ((2, 1), dgB 8) q
  have l6 := fun (L : List AB) k q => lit2 (h := h) L k ((1, 1), dgB 7) ((2, 1), dgB 8) q
  have l7 := fun (L : List AB) k q => YGn (h := h) L k (dgB 7) q
  have ln := fun (L : List AB) k a q => qWr (h := h) L k a q
  have lm := fun (L : List AB) k a b q => Q9H (h := h) L k a b q
  have ld := fun (L : List AB) k q => qfE (h := h) L k 1 1 q
  have ex1 := ZDZ (dgB 7)
  have ex2 := Q1O (dgB 7)
  have ex3 := KPf
  have ex4 := zDg (dgB 7) (dgB 7)
  have ex5 := s10 (dgB 7)
  have ex6 := s11 (dgB 7) (dgB 7)
  have ex7 := Jod (dgB 7)
  have ex8 : (∃ x ∈ ([((1, 1), dgB 7), ((2, 1), dgB 7)] : List Hd), x.2 = dgB 7) = True := eq_true ⟨_, .head _, rfl⟩
  have ex9 := s11 (dgB 7) (dgB 8)
  have ex10 := ZmE (dgB 7) (dgB 8)
  have ex11 := YcI (dgB 7) (dgB 8)
  have ex12 : (∃ x ∈ ([] : List Hd), x.2 = dgB 7) = False := eq_false (by rintro ⟨x, q, _⟩; cases q)
  have ex13 : Kq6 [] [] [] = 0 := qAo k00
  have ex14 := s10 (dgB 8)
  have ex15 := eq_false (Kua (dgB 7) (dgB 8) Zqy)
  have ex16 := YuQ (dgB 7)
  have ex17 := eq_true (YSf (dgB 7) (dgB 8))
  have ex18 := eq_true (JgA (dgB 8))
  have ex19 := eq_true (z5j (dgB 7) (dgB 7))
  have ex20 := ZDp (dgB 7)
  have ex21 := k10
  have u0 : (0 ≤ maxLen) = True := eq_true (by unfold maxLen; omega)
  have u1 : (1 ≤ maxLen) = True := eq_true (by unfold maxLen; omega)
  have u2 : (2 ≤ maxLen) = True := eq_true (by unfold maxLen; omega)
  have b7 : ((0 : Int) ≤ 7 ∧ (7 : Int) < 256) = True := eq_true (by decide)
  have b8 : ((0 : Int) ≤ 8 ∧ (8 : Int) < 256) = True := eq_true (by decide)
  have kn1 : ∀ i, (AV.sl i 0 1 1 none).kn = true := fun _ => rfl
  have cns : AV.ns.capOk = true := rfl
  unfold w6
  simp (maxSteps := 4000000) only [XH8, QN9, X1r, X5W, zVq, simprocAttr, CO.tmps, Opd.tmps, optT, Nat.reducePow, Nat.reduceDiv, Nat.reduceMod, XhJ, qLW, YK6, ZZH, JrT, qBn, YEc, zXx, QrX, X7Q, Kdw, qjp, JuR, Z2G, YMR, X2U, ZK2, J8m, kn1, cns, ex1, ex2, ex3, ex4, ex5, ex6, ex7, ex8, ex9, ex10, ex11, ex12, ex13, ex14, ex15, ex16, ex17, ex18, ex19, ex20, ex21, l1, l2, l3, l4, l5, l6, l7, ln, lm, ld, zlS, KGT, YaF, u0, u1, u2, Nat.zero_add, beq_self_eq_true, and_self, eq_self, ne_eq, not_false_eq_true, not_true_eq_false, decide_true, decide_false, b7, b8, nsSl, slSl, XEe, zp7, ZOt, Zph, Ydx, XwU, Kb6, Ke3, qy3, XAL, KJo, List.all_append, List.length_cons, List.length_nil, QNE hh, QFK hz, K9V hz, Ksi hz]
  exact Bt.dropB _ hh rfl
 ·cases e
end Go.Proofs.YtfaccliekejngaaGreat
end
section
namespace Go.Proofs.YtfaccliekejngaaGreat
section
variable {la lb : List Hd} {va vb vc : List Int} {da db dc : Dots}
theorem RG.sub (a : RG la va da) (p : Hd → Bool) : RG (la.filter p) va da := ⟨a.nf, a.len, a.rise.filter _, fun x hx => a.sn x (List.mem_filter.1 hx).1⟩
end
end Go.Proofs.YtfaccliekejngaaGreat
end
section
namespace Go.Proofs.YtfaccliekejngaaGreat
section
variable {la lb lm : List Hd} {va vb : List Int} {da db : Dots} {X : Dg} {d : Int × Int}
theorem QOC {z : Hd} : z ∈ delL X la ↔ z ∈ la ∧ ¬ z.2 = X := by
 unfold delL
 rw [List.mem_filter, decide_eq_true_eq]
theorem qRK : ¬ ∃ z ∈ delL X la, z.2 = X := fun ⟨_, h, e⟩ => (QOC.1 h).2 e
theorem QiC (a : RG la va da) : RG (delL X la) va da := a.sub _
theorem KBx (a : RG la va da) (h1 : ∀ z ∈ lb, z ∈ la) (h2 : ∀ z ∈ lm, z ∈ la) : zwL lb lm := fun x hx y hy e => by rw [a.one (h1 x hx) (h2 y hy) e]
theorem Z1c (a : RG la va da) : jnL la (delL X la) va va da da = delL X la := by
 have b := QiC (X := X) a
 refine (zt0 a b b.rise fun z => ?_).symm
 rw [XRH (KBx a (fun z h => h) fun z h => (QOC.1 h).1)]
 constructor
 ·intro h
  exact .inl ⟨(QOC.1 h).1, h⟩
 ·rintro (q | q | q)
  ·exact q.2
  ·exact absurd (a.sn z q.1) q.2
  ·exact q.1
theorem KMW (a : RG la va da) : jnL (delL X la) la va va da da = delL X la := by
 have b := QiC (X := X) a
 refine (zt0 b a b.rise fun z => ?_).symm
 rw [XRH (KBx a (fun z h => (QOC.1 h).1) fun z h => h)]
 constructor
 ·intro h
  exact .inl ⟨h, (QOC.1 h).1⟩
 ·rintro (q | q | q)
  ·exact q.1
  ·exact q.1
  ·exact absurd (a.sn z q.1) q.2
theorem J5J (a : RG la va da) (hd : KG5 d) (hn : ¬ inC va da d) (hl : da.length < 4096) : RG (layG KBL la (d, X)) (mkO va da d).1 (mkO va da d).2 :=
 ⟨zC5 a.nf hd, Nat.le_trans (Qmz a.nf hd) (by omega), qFA XEZ a.rise fun y hy => JsL fun e => hn (by have e' : y.1 = d := e; rw [← e']; exact a.sn y hy), fun y hy => (qD9 a.nf hd _).2 (by
  rcases (zeS la (d, X) y).1 hy with q | q
  ·rw [q]; exact .inr rfl
  ·exact .inl (a.sn y q))⟩
theorem Zm7 (a : NF va da) (hd : KG5 d) : zbr (mkO va da d).1 va (mkO va da d).2 da = mkO va da d := by
 have b := zC5 a hd
 have := (QaH b a).ext b fun e => by
  rw [QoG b a, qD9 a hd]
  constructor
  ·rintro (q | q)
   ·exact q
   ·exact .inl q
  ·exact .inl
 exact this
theorem ZT2 {z : Hd} (h : z ∈ la) : z ∈ layG KBL la (d, X) := (zeS la (d, X) z).2 (.inr h)
theorem Y7L (a : RG la va da) (hd : KG5 d) (hn : ¬ inC va da d) (hl : da.length < 4096) :
  jnL (layG KBL la (d, X)) (delL X la) (mkO va da d).1 va (mkO va da d).2 da = layG KBL (delL X la) (d, X) := by
 have m := J5J (X := X) a hd hn hl
 have b := QiC (X := X) a
 have g := J5J (X := X) b hd hn hl
 refine (zt0 m b g.rise fun z => ?_).symm
 rw [XRH (KBx m (fun z h => h) fun z h => ZT2 (QOC.1 h).1), zeS, zeS]
 constructor
 ·rintro (q | q)
  ·rw [q]; exact .inr (.inl ⟨.inl rfl, hn⟩)
  ·exact .inl ⟨.inr (QOC.1 q).1, q⟩
 ·rintro (q | q | q)
  ·exact .inr q.2
  ·rcases q.1 with z | z
   ·exact .inl z
   ·exact absurd (a.sn _ z) q.2
  ·exact .inr q.1
theorem JSh (h : dgsL la = []) : la = [] := by
 cases la with
 | nil => rfl
 | cons x l =>
  have := ((Yks (x :: l)).2 x.2).2 ⟨x, List.mem_cons_self, rfl⟩
  rw [h] at this
  cases this
end
end Go.Proofs.YtfaccliekejngaaGreat
end
section
namespace Go.Proofs.YtfaccliekejngaaGreat
set_option maxRecDepth 100000
section
variable {l : List Hd} {v : List Int} {d : Dots}
theorem ZYh (n : NF v d) (c : KXy v d = 0) {r : Int} (hr : 1 ≤ r ∧ r ≤ 16) : qRf v d r = ((0, 0), 10) ∨ ∃ k, qRf v d r = ((r, k), 0) ∧ KG5 (r, k) ∧ ¬ inC v d (r, k) := by
 have bd := JMs v d n.rg r d.length (Nat.le_refl _)
 obtain ⟨t1, t2, t3⟩ := XNt n.rg r d.length (Nat.le_refl _)
 rw [List.take_length] at t2
 unfold qRf
 rw [if_neg (not_not_intro c), if_neg (by omega)]
 generalize maxR v d r d.length = N at *
 by_cases hf : N = 1048576
 ·rw [if_pos hf]; exact .inl rfl
 ·rw [if_neg hf]
  exact .inr ⟨N + 1, rfl, ⟨hr.1, hr.2, by simp only; omega, by simp only; omega⟩, fun q => q.2.elim (fun z => by simp only at z; omega) (fun z => by have := t2 _ z rfl; simp only at this; omega)⟩
theorem YrU (a : RG l v d) (hl : d.length ≤ 4000) {x : Hd} (hd : KG5 x.1) (hx : ¬ inC v d x.1) :
  wrE l v d x.1 v d = 0 ∧ wrL l v d x = [x] ∧ zbr v v d d = (v, d) ∧ RG [x] (mkO v d x.1).1 (mkO v d x.1).2 := by
 have hj := KKV a.nf a.nf fun e q => q
 have hm := Qmz a.nf hd
 have hr : ¬ YlY v d x.1 := fun q => hx ((QbQ a.nf.rg _).1 q)
 have hw : wrL l v d x = [x] := by
  have e : outL v d l = [] := by
   rw [YD4 a.nf (by omega)]
   refine List.eq_nil_iff_forall_not_mem.2 fun y hy => ?_
   exact (YSc.1 hy).2 (a.sn y (YSc.1 hy).1)
  unfold wrL
  rw [e]
  rfl
 have hg := ZDF a a.nf (by omega) hd hx (by rw [hj]; show (mkO v d x.1).2.length ≤ 4096; omega)
 rw [hj, hw] at hg
 exact ⟨XNT (zFp.2 a) hd (a.nf.check (by omega)) hr hr (by rw [hj]; show d.length ≤ 4096; omega) (by rw [hj]; show (mkO v d x.1).2.length ≤ 4096; omega), hw, hj, hg⟩
end
end Go.Proofs.YtfaccliekejngaaGreat
end
section
namespace Go.Proofs.YtfaccliekejngaaGreat
set_option maxRecDepth 100000
set_option maxHeartbeats 16000000
theorem XZV {h : List AB} (hz : h.map AB.freeze = h) {l1 s1 t1 : AV} {la : List Hd} {va : List Int} {da : Dots} (hl1 : Rd qjO h l1 la) (hs1 : Rd intR h s1 va) (ht1 : Rd dotR h t1 da) (k1 : t1.capOk = true) (k2 : l1.kn = true) (k3 : t1.kn = true) (w : Int) (hw : -9223372036854775808 ≤ w ∧ w ≤ 9223372036854775807) (r : Int) (hr : -9223372036854775808 ≤ r ∧ r ≤ 9223372036854775807) :
  FnAt Tryz.prog 9 [.ag [l1, s1, t1], .i .i64 w, .i .i64 r] h (.b true) h := by
 refine FnAt.run (by kernel_rfl) (T := ⟨[⟨6, JzV, fun _ => []⟩, ⟨46, Q5v, fun _ => []⟩, ⟨28, QrX, fun _ => []⟩, ⟨49, KeC, fun _ => []⟩, ⟨26, qBn, fun _ => []⟩, ⟨33, zSr, fun _ => []⟩, ⟨45, Z2G, fun _ => []⟩, ⟨50, Yh9, fun _ => []⟩, ⟨24, JrT, fun _ => []⟩, ⟨15, zXx, fun _ => []⟩], []⟩) ⟨⟨zLx, Jxi, qVO, Yai, JOs, J2q, JU5, YEI, QaM, XtJ, trivial⟩, trivial⟩ Tryz.func9 sw9 fun ho hh => ?_
 simp only [qMC, JAX, Bool.and_eq_true] at ho
 have f1 := hl1.fx ho.1.1 (sz := 34) rfl
 have f2 := hs1.fx ho.1.2.1 (sz := 1) rfl
 have f3 := ht1.fx ho.1.2.2.1 (sz := 2) rfl
 obtain ⟨P, hP⟩ : ∃ P, P = 1 + r % 16 := ⟨_, rfl⟩
 have rP : 1 ≤ P ∧ P ≤ 16 := by omega
 have ewP : IntKind.i64.wrap (1 + r % 16) = P := by rw [← hP]; exact ZL4 (by unfold In64; omega)
 have bp1 : (-9223372036854775808 ≤ w ∧ w ≤ 9223372036854775807) = True := eq_true hw
 have bp2 : (-9223372036854775808 ≤ r ∧ r ≤ 9223372036854775807) = True := eq_true hr
 have z5 : ((16 : Int) ≤ 0) = False := eq_false (by decide)
 unfold w9
 by_cases ga : ¬ (20 < la.length ∨ 20 < va.length ∨ 30 < da.length) ∧ Kq6 la va da = 0
 case neg =>
  have g := eq_false ga
  simp (maxSteps := 4000000) only [XH8, QN9, X1r, X5W, zVq, simprocAttr, CO.tmps, Opd.tmps, optT, Nat.reducePow, Nat.reduceDiv, Nat.reduceMod, f1, f2, f3, JzV, Q5v, QrX, KeC, qBn, zSr, Z2G, Yh9, JrT, zXx, ZK2, Ydx, XwU, Kb6, Zph, Ke3, bp1, bp2, QV1, KGT, K8x, YaF, qPj, beq_self_eq_true, ne_eq, not_false_eq_true, not_true_eq_false, decide_true, decide_false, and_self, eq_self, zlS, true_and, k1, k2, k3, QNE hh, QFK hz, K9V hz, Ksi hz, g]
  exact Bt.dropB _ hh rfl
 have ga' := eq_true ga
 have ca := ga.2
 have La := ga.1
 have LaF := eq_false La
 have ra := zFp.1 ca
 have csa := ra.nf.check ra.len
 have m4 : (la.length ≤ 100000) = True := eq_true (by omega)
 have hdl := qPx la
 by_cases h0 : (dgsL la).length = 0
 case pos =>
  have hla : la = [] := JSh (List.eq_nil_of_length_eq_zero h0)
  have g : ((la.length : Int) = 0) = True := eq_true (by rw [hla]; rfl)
  have g0 : (((dgsL la).length : Int) = 0) = True := eq_true (by omega)
  simp (maxSteps := 4000000) only [XH8, QN9, X1r, X5W, zVq, simprocAttr, CO.tmps, Opd.tmps, optT, Nat.reducePow, Nat.reduceDiv, Nat.reduceMod, f1, f2, f3, JzV, Q5v, QrX, KeC, qBn, zSr, Z2G, Yh9, JrT, zXx, ZK2, Ydx, XwU, Kb6, Zph, Ke3, bp1, bp2, QV1, KGT, K8x, YaF, qPj, beq_self_eq_true, ne_eq, not_false_eq_true, not_true_eq_false, decide_true, decide_false, and_self, eq_self, zlS, true_and, k1, k2, k3, QNE hh, QFK hz, K9V hz, Ksi hz, ga', LaF, ca, m4, g, g0, h0]
  exact Bt.dropB _ hh rfl
 have g0 : (((dgsL la).length : Int) = 0) = False := eq_false (by omega)
 obtain ⟨n, hn⟩ : ∃ n, n = w % ((dgsL la).length : Int) := ⟨_, rfl⟩
 have n0 : 0 ≤ n ∧ n < ((dgsL la).length : Int) := ⟨by rw [hn]; exact Int.emod_nonneg _ (by omega), by rw [hn]; exact Int.emod_lt_of_pos _ (by omega)⟩
 have n1 := eq_true n0
 have n2 : (n.toNat < (dgsL la).length) = True := eq_true (by omega)
 have z1 : (((dgsL la).length : Int) ≤ 0) = False := eq_false (by omega)
 have bp3 : (-9223372036854775808 ≤ ((dgsL la).length : Int) ∧ ((dgsL la).length : Int) ≤ 9223372036854775807) = True := eq_true (by omega)
 have hn' := hn.symm
 have ia := fun (id : Nat) (m : Int) => KnF (r := idR) (sz := 32) rfl id (dgsL la) .i64 m
 have ld := fun (L : List AB) (k : Nat) (n : Nat) e hn => JVv (r := idR) (h := h) (sz := 32) rfl L k (dgsL la) n e hn
 have ok := fun (q : Nat → Bool) (id n j : Nat) hq => ZyD (r := idR) q id 32 n j (dgsL la) hq
 have hXm : (dgsL la).getD n.toNat idR.d ∈ dgsL la := by rw [List.getD_eq_getElem?_getD, List.getElem?_eq_getElem (by omega)]; exact List.getElem_mem _
 obtain ⟨X, hX⟩ : ∃ X, (dgsL la).getD n.toNat idR.d = X := ⟨_, rfl⟩
 rw [hX] at hXm
 have hS := ((Yks la).2 X).1 hXm
 have pS := eq_true hS
 have u0 := Yfa X la
 have rl := QiC (X := X) ra
 have cl := zFp.2 rl
 have pL := eq_false (qRK (la := la) (X := X))
 have jo := qNf ra.nf
 have y1 : jnS la va da (delL X la) va da (delL X la) va da := ⟨ca, cl, KBx ra (fun z h => h) fun z h => (QOC.1 h).1, by rw [jo]; exact ra.len, Z1c ra, by rw [jo], by rw [jo]⟩
 have y2 : jnS (delL X la) va da la va da (delL X la) va da := ⟨cl, ca, KBx ra (fun z h => (QOC.1 h).1) fun z h => h, by rw [jo]; exact ra.len, KMW ra, by rw [jo], by rw [jo]⟩
 have y1' := eq_true y1
 have y2' := eq_true y2
 have p1 : ((delL X la).length ≤ 100000) = True := eq_true (by omega)
 have p2 : ((delL X la).length ≤ 1000) = True := eq_true (by omega)
 have p3 : (la.length ≤ 1000) = True := eq_true (by omega)
 have p4 : ((delL X la).length ≤ 1000000) = True := eq_true (by omega)
 have p5 : (va.length ≤ 1000000) = True := eq_true (by omega)
 have p6 : (da.length ≤ 1000000) = True := eq_true (by omega)
 have p7 : ((delL X la).length ≤ 10000) = True := eq_true (by omega)
 have p8 : ((dgsL la).length ≤ 1000000) = True := eq_true (by omega)
 rcases ZYh ra.nf csa (r := P) rP with eP | ⟨kP, eP, dP, nP⟩
 case inl =>
  simp (maxSteps := 4000000) only [XH8, QN9, X1r, X5W, zVq, simprocAttr, CO.tmps, Opd.tmps, optT, Nat.reducePow, Nat.reduceDiv, Nat.reduceMod, f1, f2, f3, JzV, Q5v, QrX, KeC, qBn, zSr, Z2G, Yh9, JrT, zXx, ZK2, Ydx, XwU, Kb6, Zph, Ke3, bp1, bp2, QV1, KGT, K8x, YaF, qPj, beq_self_eq_true, ne_eq, not_false_eq_true, not_true_eq_false, decide_true, decide_false, and_self, eq_self, zlS, true_and, k1, k2, k3, QNE hh, QFK hz, K9V hz, Ksi hz, ga', LaF, ca, m4, g0, n1, n2, z1, z5, bp3, hn', ia, ld, ok, hX, pS, cl, pL, y1', y2', p1, p2, p3, p4, p5, p6, p7, p8, ewP, eP]
  exact Bt.dropB _ hh rfl
 have mx := Qmz ra.nf dP
 have rm := J5J (X := X) ra dP nP (by omega)
 have rb := J5J (X := X) rl dP nP (by omega)
 have jj := Y7L (X := X) ra dP nP (by omega)
 have jk := Zm7 ra.nf dP
 have am : zwL (layG KBL la ((P, kP), X)) (delL X la) := KBx rm (fun z h => h) fun z h => ZT2 (QOC.1 h).1
 have ln := qso (lt := KBL) la ((P, kP), X)
 have ll := qso (lt := KBL) (delL X la) ((P, kP), X)
 have pM : (∃ z ∈ layG KBL la ((P, kP), X), z.2 = X) = True := eq_true ⟨_, (zeS _ _ _).2 (.inl rfl), rfl⟩
 have pB : (∃ z ∈ layG KBL (delL X la) ((P, kP), X), z.2 = X) = True := eq_true ⟨_, (zeS _ _ _).2 (.inl rfl), rfl⟩
 have aE : addE la va da (P, kP) = 0 := by unfold addE; rw [if_neg (not_not_intro ca), if_neg (fun q => nP ((QbQ ra.nf.rg _).1 q)), if_neg (not_not_intro dP), if_neg (by omega)]
 generalize hM : layG KBL la ((P, kP), X) = M at *
 generalize hC : mkO va da (P, kP) = C at *
 generalize hB : layG KBL (delL X la) ((P, kP), X) = B at *
 have cm := zFp.2 rm
 have cb := zFp.2 rb
 have rg := QiC (X := X) rm
 have cg := zFp.2 rg
 have jc := qNf rm.nf
 have jg := KMW (X := X) rm
 have ag : zwL (delL X M) M := KBx rm (fun z h => (QOC.1 h).1) fun z h => h
 have pG := eq_false (qRK (la := M) (X := X))
 have v1 := rm.nf.rg.1
 have u1 := Yfa X M
 have am' := eq_true am
 have ag' := eq_true ag
 have c1 : (C.2.length ≤ 4096) = True := eq_true (by omega)
 have c2 : (C.1.length ≤ 1000000) = True := eq_true (by omega)
 have c3 : (C.2.length ≤ 1000000) = True := eq_true (by omega)
 have c4 : (M.length ≤ 1000000) = True := eq_true (by omega)
 have c5 : (M.length ≤ 100000) = True := eq_true (by omega)
 have c6 : (M.length ≤ 10000) = True := eq_true (by omega)
 have c7 : (B.length ≤ 1000000) = True := eq_true (by omega)
 have c8 : (B.length ≤ 100000) = True := eq_true (by omega)
 have c9 : ((delL X M).length ≤ 1000000) = True := eq_true (by omega)
 have d1 : ((delL X M).length ≤ 100000) = True := eq_true (by omega)
 have d2 : ((delL X M).length ≤ 10000) = True := eq_true (by omega)
 have eL : IntKind.i64.wrap (((delL X la).length : Int) + 1) = (B.length : Int) := by rw [ll]; exact ZL4 (by unfold In64; omega)
 simp (maxSteps := 4000000) only [XH8, QN9, X1r, X5W, zVq, simprocAttr, CO.tmps, Opd.tmps, optT, Nat.reducePow, Nat.reduceDiv, Nat.reduceMod, f1, f2, f3, JzV, Q5v, QrX, KeC, qBn, zSr, Z2G, Yh9, JrT, zXx, ZK2, Ydx, XwU, Kb6, Zph, Ke3, bp1, bp2, QV1, KGT, K8x, YaF, qPj, beq_self_eq_true, ne_eq, not_false_eq_true, not_true_eq_false, decide_true, decide_false, and_self, eq_self, zlS, true_and, k1, k2, k3, QNE hh, QFK hz, K9V hz, Ksi hz, ga', LaF, ca, m4, g0, n1, n2, z1, z5, bp3, hn', ia, ld, ok, hX, pS, cl, pL, y1', y2', p1, p2, p3, p4, p5, p6, p7, p8, ewP, eP, aE, hM, hC, hB, jj, jk, am', cm, cb, cg, jc, jg, ag', pM, pB, pG, c1, c2, c3, c4, c5, c6, c7, c8, c9, d1, d2, eL]
 exact Bt.dropB _ hh rfl
end Go.Proofs.YtfaccliekejngaaGreat
end
section
namespace Go.Proofs.YtfaccliekejngaaGreat
open Go.ChangeShapes Go.WideShapes Go.ChangeAt Go.RowKit
def RdL {α : Type} (R : World → List Value → α → Prop) (size : Nat) (w : World) (v : Value) (ts : List α) : Prop :=
 ∃ cs, Sl w v ts.length cs ∧ cs.length = ts.length * size ∧ ∀ i t, ts[i]? = some t → R w ((cs.drop (i * size)).take size) t
section
variable {H : Type} {enc : TypeId × Value → H} {P : Program} {w : World} {base : Nat} {spare : Nat → Bool} {held : Bool}
theorem XOl {α β : Type} (f : α → Option β) : ∀ (l : List α) (r : List β), l.mapM f = some r → ∀ a ∈ l, ∃ b, f a = some b
 | [], _, _, a, ha => by cases ha
 | x :: l, r, h, a, ha => by
  rw [List.mapM_cons] at h
  cases hx : f x with
  | none => simp [hx] at h
  | some b =>
   cases hl : l.mapM f with
   | none => simp [hx, hl] at h
   | some bs =>
    rcases List.mem_cons.1 ha with rfl | ha
    ·exact ⟨b, hx⟩
    ·exact XOl f l bs hl a ha
theorem X4u {α : Type} (R : Nat → α → Prop) : ∀ n, (∀ i, i < n → ∃ t, R i t) → ∃ ts : List α, ts.length = n ∧ ∀ i t, ts[i]? = some t → R i t
 | 0, _ => ⟨[], rfl, fun i t h => by simp at h⟩
 | n + 1, h => by
  obtain ⟨ts, hl, ht⟩ := X4u R n fun i hi => h i (by omega)
  obtain ⟨t, h1⟩ := h n (by omega)
  refine ⟨ts ++ [t], by simp [hl], fun i u hu => ?_⟩
  by_cases hi : i < n
  ·rw [List.getElem?_append_left (by omega)] at hu
   exact ht i u hu
  ·have hi2 : i = n := by
    have := (List.getElem?_eq_some_iff.1 hu).1
    simp [hl] at this
    omega
   subst hi2
   rw [List.getElem?_append_right (by omega)] at hu
   simp [hl] at hu
   exact hu ▸ h1
theorem YPi {α : Type} (R : World → List Value → α → Prop) {fuel : Nat} {T e : TypeId} {size : Nat} (hT : P.underlying T = some (.slice e)) (hc : P.cellsOf e = size) (hsz : 0 < size)
  (hR : ∀ cs x, DataW.trod enc P w base (fun _ => true) held fuel e cs = some x → ∃ t, R w cs t) {v : Value} {x : DataW H × List MemPlace}
  (h : DataW.trod enc P w base (fun _ => true) held (fuel + 1) T [v] = some x) : ∃ ts, RdL R size w v ts := by
 cases v with
 | slice a len cap =>
  cases a with
  | none =>
   cases len with
   | zero =>
    cases cap with
    | zero => exact ⟨[], [], .inl ⟨⟨_, rfl⟩, rfl, rfl⟩, by simp, fun i t ht => by simp at ht⟩
    | succ c => simp [DataW.trod, hT] at h
   | succ l => cases cap <;> simp [DataW.trod, hT] at h
  | some a =>
   simp only [DataW.trod, hT, hc] at h
   split at h
   case isFalse => cases h
   case isTrue hcond =>
    obtain ⟨hb, hlc, hcm⟩ := hcond
    obtain ⟨elems, hel, h2⟩ := Option.bind_eq_some_iff.1 h
    simp only [if_true] at h2
    obtain ⟨rest, hrest, _⟩ := Option.map_eq_some_iff.1 h2
    have hel2 : ∀ i, i < len → ∃ cs t, cs.length = size ∧ (∀ j, j < size → w.cell? ((a.add (i * size)).add j) = cs[j]?) ∧ R w cs t := by
     intro i hi
     obtain ⟨y, hy⟩ := XOl _ _ _ hel i (List.mem_range.2 hi)
     obtain ⟨cs, hcs, hy2⟩ := Option.bind_eq_some_iff.1 hy
     obtain ⟨_, hl, hcell⟩ := World.cells?_some hcs
     obtain ⟨t, ht⟩ := hR cs y hy2
     exact ⟨cs, t, hl, hcell, ht⟩
    by_cases h0 : cap = 0
    ·subst h0
     have : len = 0 := by omega
     subst this
     exact ⟨[], [], .inl ⟨⟨_, rfl⟩, rfl, rfl⟩, by simp, fun i t ht => by simp at ht⟩
    ·have hspot : a.spot = none := by
      have hfirst : ∃ u, w.cell? a = some u := by
       by_cases hl0 : len = 0
       ·subst hl0
        obtain ⟨y, hy⟩ := XOl _ _ _ hrest 0 (List.mem_range.2 (by omega))
        obtain ⟨cs, hcs, _⟩ := Option.bind_eq_some_iff.1 hy
        obtain ⟨_, hl, hcell⟩ := World.cells?_some hcs
        have := hcell 0 hsz
        simp [Addr.add] at this
        exact ⟨cs[0]'(by omega), by rw [this]; exact List.getElem?_eq_getElem (by omega)⟩
       ·obtain ⟨cs, t, hl, hcell, _⟩ := hel2 0 (by omega)
        have := hcell 0 hsz
        simp [Addr.add] at this
        exact ⟨cs[0]'(by omega), by rw [this]; exact List.getElem?_eq_getElem (by omega)⟩
      obtain ⟨u, hu⟩ := hfirst
      unfold World.cell? at hu
      split at hu
      ·split at hu
       ·cases hu
       ·rename_i hs
        simpa using hs
      ·cases hu
     obtain ⟨b, off, sp⟩ := a
     simp only at hspot
     subst hspot
     obtain ⟨g, hg⟩ : ∃ g : Nat → Value, ∀ k, g k = (w.cell? ⟨b, off + k, none⟩).getD undef := ⟨_, fun _ => rfl⟩
     have hlt : ∀ i j, i < len → j < size → i * size + j < len * size := fun i j hi hj => by
      have : (i + 1) * size ≤ len * size := Nat.mul_le_mul_right _ hi
      rw [Nat.add_mul] at this
      omega
     have hpiece : ∀ i, i < len → ∀ cs' : List Value, cs'.length = size → (∀ j, j < size → w.cell? (((⟨b, off, none⟩ : Addr).add (i * size)).add j) = cs'[j]?) → ((((List.range (len * size)).map g).drop (i * size)).take size) = cs' := by
      intro i hi cs' hl hcell
      apply List.ext_getElem?
      intro j
      by_cases hj : j < size
      ·have h1 := hcell j hj
       rw [Addr.add_none, Addr.add_none] at h1
       rw [List.getElem?_take_of_lt hj, List.getElem?_drop, List.getElem?_map, List.getElem?_range (hlt i j hi hj), ← h1]
       rw [Option.map_some, hg, ← Nat.add_assoc, h1, List.getElem?_eq_getElem (by omega)]
       rfl
      ·rw [List.getElem?_eq_none (by rw [List.length_take]; omega), List.getElem?_eq_none (by omega)]
     obtain ⟨ts, htl, hts⟩ := X4u (fun i t => R w ((((List.range (len * size)).map g).drop (i * size)).take size) t) len fun i hi => by
      obtain ⟨cs, t, hl, hcell, ht⟩ := hel2 i hi
      exact ⟨t, by rw [hpiece i hi cs hl hcell]; exact ht⟩
     refine ⟨ts, (List.range (len * size)).map g, .inr ⟨b, off, cap, by rw [htl], by omega, hcm, fun k u hu => ?_⟩, by simp [htl], hts⟩
     rw [List.getElem?_map] at hu
     obtain ⟨k', hk', rfl⟩ := Option.map_eq_some_iff.1 hu
     have hk : k < len * size := by simpa using (List.getElem?_eq_some_iff.1 hk').1
     rw [List.getElem?_range hk] at hk'
     cases hk'
     have hdiv : k / size < len := (Nat.div_lt_iff_lt_mul hsz).2 hk
     obtain ⟨cs, t, hl, hcell, _⟩ := hel2 (k / size) hdiv
     have h1 := hcell (k % size) (Nat.mod_lt _ hsz)
     rw [Addr.add_none, Addr.add_none, Nat.add_assoc, Nat.mul_comm, Nat.div_add_mod] at h1
     rw [hg, h1, List.getElem?_eq_getElem (by have := Nat.mod_lt k hsz; omega)]
     rfl
 | _ => simp [DataW.trod, hT] at h
theorem KTk {fuel : Nat} {T : TypeId} {fs : Array Field} (hT : P.underlying T = some (.struct fs)) {cs : List Value} {x : DataW H × List MemPlace}
  (h : DataW.trod enc P w base spare held (fuel + 1) T cs = some x) : cs.length = P.cellsOf T ∧ ∀ f ∈ fs.toList, ∃ y, DataW.trod enc P w base spare held fuel f.type ((cs.drop f.offset).take (P.cellsOf f.type)) = some y := by
 simp only [DataW.trod, hT] at h
 split at h
 ·rename_i hl
  obtain ⟨xs, hxs, _⟩ := Option.map_eq_some_iff.1 h
  exact ⟨hl, fun f hf => XOl _ _ _ hxs f hf⟩
 ·cases h
theorem Jo2 {fuel : Nat} {T e : TypeId} {n : Nat} (hT : P.underlying T = some (.array n e)) {cs : List Value} {x : DataW H × List MemPlace}
  (h : DataW.trod enc P w base spare held (fuel + 1) T cs = some x) : cs.length = P.cellsOf T ∧ ∀ i, i < n → ∃ y, DataW.trod enc P w base spare held fuel e ((cs.drop (i * P.cellsOf e)).take (P.cellsOf e)) = some y := by
 simp only [DataW.trod, hT] at h
 split at h
 ·rename_i hl
  obtain ⟨xs, hxs, _⟩ := Option.map_eq_some_iff.1 h
  exact ⟨hl, fun i hi => XOl _ _ _ hxs i (List.mem_range.2 hi)⟩
 ·cases h
theorem Xiq {fuel : Nat} {T : TypeId} {k : IntKind} (hT : P.underlying T = some (.int k)) {cs : List Value} {x : DataW H × List MemPlace}
  (h : DataW.trod enc P w base spare held fuel T cs = some x) : ∃ n, cs = [.int k n] ∧ (Lit.int k n).wf = true := by
 cases fuel with
 | zero => cases h
 | succ fuel =>
  simp only [DataW.trod, hT] at h
  split at h <;> simp_all
theorem Jri {α : Type} (R : World → List Value → α → Prop) {fuel : Nat} {T e : TypeId} {size : Nat} (hT : P.underlying T = some (.slice e)) (hc : P.cellsOf e = size) (hsz : 0 < size)
  (hR : ∀ fuel cs x, DataW.trod enc P w base (fun _ => true) held fuel e cs = some x → ∃ t, R w cs t) {cs : List Value} {x : DataW H × List MemPlace}
  (h : DataW.trod enc P w base (fun _ => true) held fuel T cs = some x) : ∃ v, cs = [v] ∧ ∃ ts, RdL R size w v ts := by
 cases fuel with
 | zero => cases h
 | succ fuel =>
  have hv : ∃ v, cs = [v] := by
   have h' := h
   simp only [DataW.trod, hT] at h'
   split at h' <;> simp_all
  obtain ⟨v, rfl⟩ := hv
  exact ⟨v, rfl, YPi R hT hc hsz (fun cs x => hR fuel cs x) h⟩
theorem qOe {n : Int} (h : (Lit.int .u8 n).wf = true) : Value.int .u8 n = .int .u8 ((UInt8.ofInt n).toNat : Int) := by
 have hb := bounds_u8 h
 congr 1
 simp only [UInt8.ofInt, UInt8.toNat_ofNat']
 omega
theorem KGp {n : Int} (h : (Lit.int .i64 n).wf = true) : -9223372036854775808 ≤ n ∧ n ≤ 9223372036854775807 := bounds_i64 h
end
end Go.Proofs.YtfaccliekejngaaGreat
end
