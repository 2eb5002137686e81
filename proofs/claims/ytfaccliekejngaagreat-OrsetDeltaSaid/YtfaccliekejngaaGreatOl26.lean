/- Part 26 of what the laws' proofs rest on. No condition. -/
import Derived.Test.YtfaccliekejngaaGreatOl25
set_option linter.all false
section
namespace Go.Proofs.YtfaccliekejngaaGreat
set_option maxRecDepth 100000
set_option maxHeartbeats 8000000
def delL (i : Dg) (l : List Hd) : List Hd := l.filter fun y => decide (¬ y.2 = i)
theorem YJd (i : Dg) {l : List Hd} {k : Nat} (h : k < l.length) : delL i (l.take (k + 1)) = delL i (l.take k) ++ (if ¬ (l.getD k Qv4.d).2 = i then [l.getD k Qv4.d] else []) := by
 unfold delL
 rw [List.take_succ_eq_append_getElem h, List.filter_append, List.getD_eq_getElem?_getD, List.getElem?_eq_getElem h]
 simp only [Option.getD_some, List.filter_cons, List.filter_nil, decide_eq_true_eq]
theorem Xxg (i : Dg) (l : List Hd) : (delL i l).length ≤ l.length := List.length_filter_le _ _
theorem YyS {i : Dg} {l : List Hd} (h : ¬ ∃ x ∈ l, x.2 = i) : delL i l = l := List.filter_eq_self.2 fun y hy => decide_eq_true fun q => h ⟨y, hy, q⟩
theorem zqb (i : Dg) : ∀ (l : List Hd) (n : Nat), 0 ≤ qVz (fun y : Hd => y.2 = i) l n → ∃ j, j < l.length ∧ qVz (fun y : Hd => y.2 = i) l n = ((n + j : Nat) : Int) ∧ delL i (l.take (j + 1)) = l.take j
 | [], n, h => by simp [qVz] at h
 | a :: l, n, h => by
  unfold qVz at h ⊢
  split
  ·rename_i q
   exact ⟨0, by simp, by simp, by simp [delL, q]⟩
  ·rename_i q
   rw [if_neg q] at h
   obtain ⟨j, h1, h2, h3⟩ := zqb i l (n + 1) h
   refine ⟨j + 1, by simpa using h1, by rw [h2]; congr 1; omega, ?_⟩
   rw [List.take_succ_cons, List.take_succ_cons, ← h3]
   unfold delL
   rw [List.filter_cons, if_pos (decide_eq_true q)]
noncomputable def KdL : List AV → List AB → Option (AV × List AB)
 | [y, .p b 0], h => (KFj h b).bind fun c => (getI (.ag c)).bind fun i => (getH y).bind fun x => some (.b (decide (x.2 = i)), h)
 | _, _ => none
theorem J8v {h : List AB} {i : Nat} {c : List AV} {x : Dg} (e : KFj h i = some c) (hx : getI (.ag c) = some x) : KFj h i = some (idR.f x) := by
 unfold getI at hx
 split at hx
 ·rename_i q
  cases hx
  have := q.choose_spec
  rw [AV.ag.injEq] at this
  rw [e, ← this]
 ·cases hx
theorem X0P : Spec Tryz.prog 78 KdL := by
 intro args h v h' e
 unfold KdL at e
 split at e
 ·rename_i y b
  obtain ⟨c, hc, e⟩ := Option.bind_eq_some_iff.1 e
  obtain ⟨i, hi, e⟩ := Option.bind_eq_some_iff.1 e
  obtain ⟨x, hx, e2⟩ := zZl e
  clear e
  subst hx
  cases e2
  have f1 := YMl (J8v hc hi)
  refine FnAt.c (FnAt.run (by kernel_rfl) (T := ⟨[], []⟩) ⟨trivial, trivial⟩ Tryz.func78 sw78 fun ho hh => ?_)
  unfold w78
  simp only [X7h, KtT, YUc, YOT, XuP, simprocAttr, CO.tmps, Opd.tmps, optT, Nat.reducePow, Nat.reduceDiv, Nat.reduceMod, f1, Zpe, JUx, Q42, zqp, zso, Zcr, qdy, Y6r]
  exact Bt.dropB _ hh rfl
 ·cases e
noncomputable def QYy : List AV → List AB → Option (AV × List AB)
 | [s, .f (.func 78) [] [.p b 0]], h => (KFj h b).bind fun c => (getI (.ag c)).bind fun i => (getS Qv4 h s).bind fun l => some (.i .i64 (idx (fun y : Hd => y.2 = i) l), h)
 | _, _ => none
theorem YDc : Spec Tryz.prog 123 QYy := by
 intro args h v h' e
 unfold QYy at e
 split at e
 ·rename_i s b
  obtain ⟨c, hc, e⟩ := Option.bind_eq_some_iff.1 e
  obtain ⟨i, hi, e⟩ := Option.bind_eq_some_iff.1 e
  obtain ⟨l, hx, e⟩ := Ksy e
  cases e
  have hb := J8v hc hi
  refine FnAt.c (FnAt.run (by kernel_rfl) (T := ⟨[⟨78, KdL, fun _ => []⟩], []⟩) ⟨⟨X0P, trivial⟩, trivial⟩ Tryz.func123 K5O fun ho hh => ?_)
  simp only [Xtq, Bool.and_eq_true] at ho
  have f1 := hx.fx ho.1 (sz := 34) rfl
  have k0 : ∀ y, KFj (h ++ y) b = some (idR.f i) := (YMl hb).1
  unfold w123
  simp only [X7h, KtT, YUc, XuP, simprocAttr, f1]
  refine KUA (S := Nat) (fun j => l.length - j) (fun j => [s, .f (.func 78) [] [.p b 0]] ++ tp 5 ++ [.i .i64 l.length, .i .i64 j] ++ tp 10) (fun j => j ≤ l.length ∧ idx (fun y : Hd => y.2 = i) l = qVz (fun y : Hd => y.2 = i) (l.drop j) j) 0 ⟨Nat.zero_le _, rfl⟩ (by simp only [YUc, XuP, simprocAttr]) fun j hj => ?_
  simp only [YUc, XuP, simprocAttr, f1]
  refine ⟨fun h2 => ?_, fun h2 => ?_⟩
  ·have e1 : IntKind.i64.wrap ((j : Int) + 1) = ((j + 1 : Nat) : Int) := ZPp (by have := hx.2; unfold maxLen at this; unfold In64; omega)
   have e2 := JXZ (fun y : Hd => y.2 = i) Qv4.d j h2
   simp only [YUc, XuP, simprocAttr, f1, h2, e1, KdL, XMj, zJQ, k0]
   refine ⟨fun h3 => Bt.eq (by rw [hj.2, e2, if_pos h3]) (List.append_nil h), fun h3 => ⟨j + 1, ⟨h2, ?_⟩, by omega, Wk.refl _⟩⟩
   rw [hj.2, e2, if_neg h3]
  ·exact Bt.eq (by rw [hj.2, List.drop_eq_nil_of_le (by omega)]; rfl) (List.append_nil h)
 ·cases e
structure DelSt (i : Dg) (l L : List Hd) (j k : Nat) : Prop where
 len : L.length = l.length
 lt : k < j
 le : j ≤ l.length
 hd : L.take k = delL i (l.take j)
 tl : ∀ m, j ≤ m → L.getD m Qv4.d = l.getD m Qv4.d
theorem DelSt.skip {i : Dg} {l L : List Hd} {j k : Nat} (s : DelSt i l L j k) (hj : j < l.length) (q : (l.getD j Qv4.d).2 = i) : DelSt i l L (j + 1) k :=
 ⟨s.len, Nat.lt_succ_of_lt s.lt, hj, by rw [YJd i hj, if_neg (not_not_intro q), List.append_nil]; exact s.hd, fun m hm => s.tl m (by omega)⟩
theorem DelSt.keep {i : Dg} {l L : List Hd} {j k : Nat} (s : DelSt i l L j k) (hj : j < l.length) (q : ¬ (l.getD j Qv4.d).2 = i) : DelSt i l (L.set k (l.getD j Qv4.d)) (j + 1) (k + 1) := by
 have hk : k < L.length := by have := s.len; have := s.lt; omega
 refine ⟨by rw [List.length_set]; exact s.len, Nat.succ_lt_succ s.lt, hj, ?_, fun m hm => ?_⟩
 ·rw [YJd i hj, if_pos q, ← s.hd, List.take_succ_eq_append_getElem (by rw [List.length_set]; exact hk), List.getElem_set_self]
  congr 1
  rw [List.take_set, List.set_eq_of_length_le (by rw [List.length_take]; omega)]
 ·rw [List.getD_eq_getElem?_getD, List.getElem?_set_ne (by have := s.lt; omega), ← List.getD_eq_getElem?_getD]
  exact s.tl m (by omega)
open Classical in
noncomputable def XSV : List AV → List AB → Option (AV × List AB)
 | [s, .f (.func 78) [] [.p b 0]], h => (KFj h b).bind fun c => (getI (.ag c)).bind fun i => (getS Qv4 h s).bind fun l => match idOf s with
   | [id] => if s = rsl Qv4 id l ∧ h[id]? = some (resB Qv4 true l) ∧ b ≠ id ∧ l.length ≤ 1000000 then some (rsl Qv4 id (delL i l), h.set id (resB Qv4 true (delL i l))) else none
   | _ => none
 | _, _ => none
theorem ZuI : Spec Tryz.prog 77 XSV := by
 intro args h v h' e
 unfold XSV at e
 split at e
 ·rename_i s b
  obtain ⟨c, hc, e⟩ := Option.bind_eq_some_iff.1 e
  obtain ⟨i, hi, e⟩ := Option.bind_eq_some_iff.1 e
  obtain ⟨l, hs, e⟩ := Ksy e
  split at e
  ·rename_i id hid
   split at e
   ·rename_i hcc
    cases e
    obtain ⟨h1, h2, hbn, h3⟩ := hcc
    have hb := J8v hc hi
    have hlt := (List.getElem?_eq_some_iff.1 h2).1
    have hS2 : s.isSl = true := hs.isSl
    by_cases hn : idx (fun y : Hd => y.2 = i) l < 0
    ·have hd : delL i l = l := YyS fun q => by
      have := (J0J (fun y : Hd => y.2 = i) l).2 q
      omega
     have hm1 : idx (fun y : Hd => y.2 = i) l = -1 := by
      have : ∀ (l : List Hd) (n : Nat), qVz (fun y : Hd => y.2 = i) l n < 0 → qVz (fun y : Hd => y.2 = i) l n = -1 := by
       intro l
       induction l with
       | nil => intro n _; rfl
       | cons a l ih =>
        intro n hq
        unfold qVz at hq ⊢
        split
        ·rename_i z
         rw [if_pos z] at hq
         omega
        ·rename_i z
         rw [if_neg z] at hq
         exact ih _ hq
      exact this l 0 hn
     rw [hd, XUS h2, ← h1]
     refine FnAt.c (FnAt.run (by kernel_rfl) (T := ⟨[⟨123, QYy, fun _ => []⟩], []⟩) ⟨⟨YDc, trivial⟩, trivial⟩ Tryz.func77 sw77 fun ho hh => ?_)
     simp only [Xtq, Bool.and_eq_true] at ho
     have f1 := hs.fx ho.1 (sz := 34) rfl
     have k0 : ∀ y, KFj (h ++ y) b = some (idR.f i) := (YMl hb).1
     unfold w77
     simp only [X7h, KtT, YUc, YOT, XuP, simprocAttr, CO.tmps, Opd.tmps, optT, Nat.reducePow, Nat.reduceDiv, Nat.reduceMod, f1, QYy, k0, zJQ, hm1]
     exact Bt.eq rfl (List.append_nil h)
    ·obtain ⟨j0, hj0, hij, hdj⟩ := zqb i l 0 (by unfold idx at hn; omega)
     have hij2 : idx (fun y : Hd => y.2 = i) l = (j0 : Int) := by unfold idx; rw [hij, Nat.zero_add]
     have hpos : 0 < l.length := by omega
     have hS : rsl Qv4 id l = .sl id 0 l.length l.length (some 34) := by unfold rsl; rw [if_neg (by omega)]; rfl
     have kb0 : ∀ y, KFj (h ++ y) b = some (idR.f i) := (YMl hb).1
     have hg : ∀ y, getS Qv4 (h ++ y) (.sl id 0 l.length l.length (some 34)) = some l := fun y => by rw [← hS, ← h1]; exact (hs.app y).get
     have ho1 : l.length ≠ 0 := by omega
     rw [h1, hS]
     refine FnAt.c (FnAt.run (by kernel_rfl) (T := ⟨[⟨123, QYy, fun _ => []⟩, ⟨78, KdL, fun _ => []⟩], []⟩) ⟨⟨YDc, X0P, trivial⟩, trivial⟩ Tryz.func77 sw77 fun ho hh => ?_)
     have nm1 : ((j0 : Int) = -1) = False := eq_false (by omega)
     have e0 : IntKind.i64.wrap ((j0 : Int) + 1) = ((j0 + 1 : Nat) : Int) := ZPp (by unfold In64; omega)
     have hset : h.set id (resB Qv4 true l) = h := XUS h2
     unfold w77
     simp only [X7h, KtT, YUc, YOT, XuP, simprocAttr, CO.tmps, Opd.tmps, optT, Nat.reducePow, Nat.reduceDiv, Nat.reduceMod, lenV, QYy, kb0, hg, zJQ, hij2, nm1, e0, false_implies, true_and]
     refine QZq (S := Nat × Nat × List Hd) (fun s => l.length - s.1) (fun s => [.sl id 0 l.length l.length (some 34), .f (.func 78) [] [.p b 0]] ++ tp 3 ++ [.i .i64 s.2.1, .i .i64 s.1] ++ tp 35) (fun s => h.set id (resB Qv4 true s.2.2) ++ []) (fun s => DelSt i l s.2.2 s.1 s.2.1) (j0 + 1, j0, l) ⟨rfl, Nat.lt_succ_self _, hj0, hdj.symm, fun _ _ => rfl⟩ (by rw [hset]; exact Bt.wk (by simp only [YUc, XuP, simprocAttr])) fun s hs => ?_
     obtain ⟨j, k, L⟩ := s
     dsimp only at hs ⊢
     have hL := hs.len
     have hk := hs.lt
     have hle := hs.le
     have hi2 : (h.set id (resB Qv4 true L))[id]? = some (resB Qv4 true L) := List.getElem?_set_self hlt
     have kb : ∀ y, KFj (h.set id (resB Qv4 true L) ++ y) b = some (idR.f i) := fun y => by
      have := kb0 []
      rw [List.append_nil] at this
      refine YyG ?_ y
      unfold KFj at this ⊢
      rw [List.getElem?_set_ne (fun q => hbn q.symm)]
      exact this
     by_cases hjl : j < l.length
     ·have g3 : ((j : Int) < (l.length : Int)) = True := eq_true (by omega)
      have g4 : (j < l.length) = True := eq_true hjl
      have g6 : (k < l.length) = True := eq_true (by omega)
      have e3 : IntKind.i64.wrap ((j : Int) + 1) = ((j + 1 : Nat) : Int) := ZPp (by unfold In64; omega)
      have e5 : IntKind.i64.wrap ((k : Int) + 1) = ((k + 1 : Nat) : Int) := ZPp (by unfold In64; omega)
      have q1 := fun x => Zua (r := Qv4) (o := 0 + j * 34) (j := j) hi2 (by omega) (by rw [J7Z]; omega) x
      simp only [J7Z, hs.tl j (Nat.le_refl _)] at q1
      have q3 := fun x => z4G (r := Qv4) (o := 0 + k * 34) (j := k) (y := l.getD j Qv4.d) hi2 (by omega) (by rw [J7Z]; omega) (zqp _) x
      simp only [J7Z, List.set_set] at q3
      generalize hx : l.getD j Qv4.d = x at *
      simp only [YUc, YOT, XuP, simprocAttr, CO.tmps, Opd.tmps, optT, Nat.reducePow, Nat.reduceDiv, Nat.reduceMod, lenV, g3, g4, g6, iadV, e3, e5, q1, q3, KdL, XMj, zJQ, kb, YiU, zqp, zso, Zcr, qdy, List.length_cons, List.length_nil, false_implies]
      have hb2 : b < h.length := Jv6 hb
      have bk : ∀ (X : List Hd) (fr fr' : List AV), FrSel (h.set id (resB Qv4 true X)).length [] 0 fr fr' → Bt Tryz.prog h.length fr (h.set id (resB Qv4 true X) ++ [.blk true true (Qv4.f x)]) fr' (h.set id (resB Qv4 true X) ++ []) := fun X fr fr' hf => by
       have hk := qU3 (r := Qv4) hh id true X
       rw [List.append_nil] at hk
       have z := Bt.sel (P := Tryz.prog) (h := h.set id (resB Qv4 true X)) (l := [.blk true true (Qv4.f x)]) (l' := []) [] (hk.mpr trivial) (by decide) (by simp only [qpt, FrSel, BlkSel, AV.ren, renL, AV.ok, okL, Option.some.injEq, exists_eq_left', List.length_cons, List.length_nil, Nat.reduceAdd, Nat.reduceLT, reduceCtorEq, implies_true, exists_eq']) hf
       rwa [List.length_set] at z
      have s1 : ∀ X : List Hd, selN (h.set id (resB Qv4 true X)).length [] id = id := fun X => q8q (by rw [List.length_set]; exact hlt)
      have s2 : ∀ X : List Hd, selN (h.set id (resB Qv4 true X)).length [] b = b := fun X => q8q (by rw [List.length_set]; exact hb2)
      have s3 : ∀ X : List Hd, (id < (h.set id (resB Qv4 true X)).length) = True := fun X => eq_true (by rw [List.length_set]; exact hlt)
      have s4 : ∀ X : List Hd, (b < (h.set id (resB Qv4 true X)).length) = True := fun X => eq_true (by rw [List.length_set]; exact hb2)
      refine ⟨fun q => ⟨(j + 1, k + 1, L.set k x), ?_, by dsimp only; omega, bk _ _ _ (by simp only [qpt, FrSel, BlkSel, AV.ren, renL, AV.ok, okL, Option.some.injEq, exists_eq_left', List.length_cons, List.length_nil, Nat.reduceAdd, Nat.reduceLT, reduceCtorEq, implies_true, exists_eq', s1, s2, s3, s4])⟩, fun q => ⟨(j + 1, k, L), hs.skip hjl (by rw [hx]; exact Classical.not_not.1 q), by dsimp only; omega, bk _ _ _ (by simp only [qpt, FrSel, BlkSel, AV.ren, renL, AV.ok, okL, Option.some.injEq, exists_eq_left', List.length_cons, List.length_nil, Nat.reduceAdd, Nat.reduceLT, reduceCtorEq, implies_true, exists_eq', s1, s2, s3, s4])⟩⟩
      have := hs.keep hjl (by rw [hx]; exact q)
      rw [hx] at this
      exact this
     ·have g3 : ((j : Int) < (l.length : Int)) = False := eq_false (by omega)
      simp only [YUc, XuP, simprocAttr, lenV, g3, false_implies, true_and]
      have g6 : (k < l.length) = True := eq_true (by omega)
      have hkl : k < l.length := by omega
      have sI : slL 34 (.sl id 0 l.length l.length (some 34)) (some (.i .i64 (k : Int))) none none = some (.sl id (0 + k * 34) (l.length - k) (l.length - k) (some 34)) := by
       rcases Nat.eq_zero_or_pos k with k0 | k0
       ·subst k0; simp [slL, bnd]
       ·simp [slL, bnd, kcut, hkl, Nat.le_of_lt hkl, Nat.ne_of_gt k0]
      have sJ : slL 34 (.sl id 0 l.length l.length (some 34)) none (some (.i .i64 (k : Int))) none = some (.sl id 0 k l.length (some 34)) := by
       simp [slL, bnd, kcut, Nat.le_of_lt hkl]
      have zi : ∀ (zl : List AV), zl = Qv4.f ((0, 0), ZxW) → ∀ x, clrV (h.set id (resB Qv4 true L) ++ x) zl (.sl id (0 + k * 34) (l.length - k) (l.length - k) (some 34)) = some (.tu [], h.set id (resB Qv4 true (L.take k ++ List.replicate (l.length - k) ((0, 0), ZxW))) ++ x) := fun zl hz x => by
       rw [hz, XAp hi2 (by omega) (by omega), List.set_set]
      have zj := zi _ (show ([.i .i64 0, .i .i64 0] ++ List.replicate 32 (AV.i .u8 0)) = Qv4.f ((0, 0), ZxW) from rfl)
      simp only [List.replicate, List.cons_append, List.nil_append] at zj
      simp only [YUc, XuP, simprocAttr, sI, sJ, Ztn, zj]
      have hm : (L.take k ++ List.replicate (l.length - k) ((0, 0), ZxW)).take k = delL i l := by
       rw [List.take_left' (by rw [List.length_take]; omega), hs.hd]
       have : j = l.length := by omega
       rw [this, List.take_length]
      exact QFA hlt (by rw [List.length_append, List.length_take, List.length_replicate]; omega) (by omega) (by omega) hm
   ·cases e
  ·cases e
 ·cases e
theorem Kw1 {h : List AB} (L : List AB) (k b : Nat) (l : List Hd) (i : Dg) (hk : ownM Qv4 l L k) (hb : ownC L b = some (idR.f i)) (n : (b = k) = False) (hl : l.length ≤ 1000000) : XSV [rsl Qv4 (h.length + k) l, .f (.func 78) [] [.p (h.length + b) 0]] (h ++ L) = some (rsl Qv4 (h.length + k) (delL i l), h ++ L.set k (resB Qv4 true (delL i l))) := by
 have h1 : (h ++ L)[h.length + k]? = some (resB Qv4 true l) := by rw [Qzw]; exact Q6v l L k hk
 have g := (Qgo h1 (by unfold maxLen; omega)).get
 have hn : ¬ b = k := fun q => by rw [q] at n; simp at n
 simp only [XSV, J11, hb, zJQ, g, Option.bind_some, Ju7]
 rw [if_pos ⟨rfl, h1, by omega, hl⟩, qIW]
noncomputable def KXd : List AV → List AB → Option (AV × List AB)
 | [.ag [l, s, t], y], h => (getS Qv4 h l).bind fun hs => (getS intR h s).bind fun v => (getS dotR h t).bind fun ds => (getI y).bind fun i =>
   if hs.length ≤ 100000 ∧ v.length ≤ 1000000 ∧ ds.length ≤ 1000000 then
    if KwK hs v ds ≠ 0 then some (.tu [.ag [.ns, .ns, .ns], .i .i64 (KwK hs v ds)], h)
    else if ¬ ∃ x ∈ hs, x.2 = i then some (.tu [.ag [.ns, .ns, .ns], .i .i64 15], h)
    else some (.tu [.ag [rsl Qv4 h.length (delL i hs), rsl intR (h.length + 1) v, rsl dotR (h.length + 2) ds], .i .i64 0], h ++ [resB Qv4 true (delL i hs), resB intR true v, resB dotR true ds])
   else none
 | _, _ => none
def wsD : List AV → List Nat
 | [s, _] => idOf s
 | _ => []
theorem X4g : Spec Tryz.prog 26 KXd := by
 intro args h v h' e
 unfold KXd at e
 split at e
 ·rename_i l s t y
  obtain ⟨hs, hl, e⟩ := Ksy e
  obtain ⟨xs, hv, e⟩ := Ksy e
  obtain ⟨ds, hd, e⟩ := Ksy e
  obtain ⟨i, hi, e2⟩ := qAn e
  clear e
  subst hi
  split at e2
  ·rename_i hL
   have hR := (⟨⟨Xz3, QsO, q8S, ZuI, XUD, trivial⟩, trivial⟩ : Env.Ok Tryz.prog ⟨[⟨31, z0u, fun _ => []⟩, ⟨33, YzU, fun _ => []⟩, ⟨73, KNP, fun _ => []⟩, ⟨77, XSV, wsD⟩, ⟨60, KAd, fun _ => []⟩], []⟩)
   refine FnAt.c (FnAt.run (by kernel_rfl) hR Tryz.func26 sw26 fun ho hh => ?_)
   simp only [Xtq, J9R, Bool.and_eq_true] at ho
   have f1 := hl.fx ho.1.1 (sz := 34) rfl
   have f2 := hv.fx ho.1.2.1 (sz := 1) rfl
   have f3 := hd.fx ho.1.2.2.1 (sz := 2) rfl
   have hL1 : (hs.length ≤ 1000000) = True := eq_true (by omega)
   have hL2 := eq_true hL.1
   have hL3 := eq_true hL.2.1
   have hL4 := eq_true hL.2.2
   unfold w26
   by_cases c0 : KwK hs xs ds = 0
   case neg =>
    have c0' := eq_false c0
    rw [if_pos c0] at e2
    cases e2
    simp only [X7h, KtT, YUc, YOT, XuP, simprocAttr, CO.tmps, Opd.tmps, optT, Nat.reducePow, Nat.reduceDiv, Nat.reduceMod, f1, f2, f3, z0u, c0', hL1, XRz, JUx, Q42, qdy, ne_eq, not_false_eq_true, not_true_eq_false, decide_true, decide_false]
    exact Bt.drop _ hh rfl (by simp only [zEw, Xtq, XSh, J9R, JoD, ok_i, Bool.and_true])
   rw [if_neg (not_not_intro c0)] at e2
   by_cases c1 : ∃ x ∈ hs, x.2 = i
   case neg =>
    have c1' := eq_false c1
    rw [if_pos c1] at e2
    cases e2
    simp only [X7h, KtT, YUc, YOT, XuP, simprocAttr, CO.tmps, Opd.tmps, optT, Nat.reducePow, Nat.reduceDiv, Nat.reduceMod, f1, f2, f3, z0u, YzU, zJQ, c0, c1', hL1, hL2, XRz, JUx, Q42, qdy, ne_eq, not_false_eq_true, not_true_eq_false, decide_true, decide_false]
    exact Bt.drop _ hh rfl (by simp only [zEw, Xtq, XSh, J9R, JoD, ok_i, Bool.and_true])
   have c1' := eq_true c1
   rw [if_neg (not_not_intro c1)] at e2
   cases e2
   have dl := fun L k b hk hb n => Kw1 (h := h) L k b hs i hk hb n (by omega)
   have ldl := Xxg i hs
   simp only [X7h, KtT, YUc, YOT, XuP, simprocAttr, CO.tmps, Opd.tmps, optT, Nat.reducePow, Nat.reduceDiv, Nat.reduceMod, f1, f2, f3, z0u, YzU, KNP, KAd, dl, zJQ, c0, c1', hL1, hL2, hL3, hL4, XRz, JUx, Q42, qdy, ne_eq, not_false_eq_true, not_true_eq_false, decide_true, decide_false]
   exact Bt.sel [3, 4, 5] hh (by decide) (by simp only [qpt, FrSel, BlkSel, AV.ren, renL, AV.ok, okL, Option.some.injEq, exists_eq_left', List.length_cons, List.length_nil, Nat.reduceAdd, Nat.reduceLT, reduceCtorEq, implies_true, exists_eq']) (by simp only [qpt, FrSel, BlkSel, AV.ren, renL, AV.ok, okL, Option.some.injEq, exists_eq_left', List.length_cons, List.length_nil, Nat.reduceAdd, Nat.reduceLT, reduceCtorEq, implies_true, exists_eq'])
  ·cases e2
 ·cases e
end Go.Proofs.YtfaccliekejngaaGreat
end
section
namespace Go.Proofs.YtfaccliekejngaaGreat
set_option maxRecDepth 100000
set_option maxHeartbeats 16000000
def apJ (hs : List Hd) (v : List Int) (ds : Dots) (nw : List Hd) (kp : Dots) (v' : List Int) (ds' : Dots) (hw : List Hd) (vw : List Int) (dw : Dots) : Prop :=
 apE hs v ds nw kp v' ds' = 0 ∧ chL hs v ds nw kp v' ds' = hw ∧ (Zjv v v' ds ds').1 = vw ∧ (Zjv v v' ds ds').2 = dw
noncomputable instance (hs : List Hd) (v : List Int) (ds : Dots) (nw : List Hd) (kp : Dots) (v' : List Int) (ds' : Dots) (hw : List Hd) (vw : List Int) (dw : Dots) : Decidable (apJ hs v ds nw kp v' ds' hw vw dw) := Classical.propDecidable _
noncomputable def ZLZ : List AV → List AB → Option (AV × List AB)
 | [.ag [l, s, t], .ag [n, k, s', t'], .ag [lw, sw, tw]], h => (getS Qv4 h l).bind fun hs => (getS intR h s).bind fun v => (getS dotR h t).bind fun ds => (getS Qv4 h n).bind fun nw => (getS dotR h k).bind fun kp => (getS intR h s').bind fun v' => (getS dotR h t').bind fun ds' => (getS Qv4 h lw).bind fun hw => (getS intR h sw).bind fun vw => (getS dotR h tw).bind fun dw =>
   if (hs.length ≤ 1000 ∧ nw.length ≤ 1000 ∧ kp.length ≤ 1000) ∧ t.capOk = true ∧ t'.capOk = true then some (.b (decide (apJ hs v ds nw kp v' ds' hw vw dw)), h) else none
 | _, _ => none
theorem ap_0 {hs : List Hd} {v : List Int} {ds : Dots} {nw : List Hd} {kp : Dots} {v' : List Int} {ds' : Dots} (h : apE hs v ds nw kp v' ds' = 0) : KwK hs v ds = 0 ∧ ZmB v' ds' = 0 ∧ mayP nw kp v' ds' ∧ agreeP hs nw ∧ (Zjv v v' ds ds').2.length ≤ 4096 := by
 unfold apE at h
 split at h
 ·rename_i c; exact absurd h c
 ·rename_i c1
  split at h
  ·rename_i c; exact absurd h c
  ·rename_i c2
   split at h
   ·simp at h
   ·rename_i c3
    split at h
    ·simp at h
    ·rename_i c4
     split at h
     ·simp at h
     ·rename_i c5
      exact ⟨Decidable.not_not.1 c1, Decidable.not_not.1 c2, Decidable.not_not.1 c3, Decidable.not_not.1 c4, Decidable.not_not.1 c5⟩
theorem KV3 : Spec Tryz.prog 44 ZLZ := by
 intro args h v h' e
 unfold ZLZ at e
 split at e
 ·rename_i l s t n k s' t' lw sw tw
  obtain ⟨hs, hl, e⟩ := Ksy e
  obtain ⟨xs, hv, e⟩ := Ksy e
  obtain ⟨ds, hd, e⟩ := Ksy e
  obtain ⟨nw, hn, e⟩ := Ksy e
  obtain ⟨kp, hk, e⟩ := Ksy e
  obtain ⟨xs', hv', e⟩ := Ksy e
  obtain ⟨ds', hd', e⟩ := Ksy e
  obtain ⟨hw, hlw, e⟩ := Ksy e
  obtain ⟨vw, hvw, e⟩ := Ksy e
  obtain ⟨dw, hdw, e⟩ := Ksy e
  split at e
  ·rename_i hc
   obtain ⟨⟨hL, hL', hL2⟩, k1, k2⟩ := hc
   cases e
   refine FnAt.c (FnAt.run (by kernel_rfl) (T := ⟨[⟨38, q3S, fun _ => []⟩, ⟨19, QWD, fun _ => []⟩], []⟩) ⟨⟨XYM, JbQ, trivial⟩, trivial⟩ Tryz.func44 sw44 fun ho hh => ?_)
   simp only [Xtq, J9R, Bool.and_eq_true] at ho
   have f1 := hl.fx ho.1.1 (sz := 34) rfl
   have f2 := hv.fx ho.1.2.1 (sz := 1) rfl
   have f3 := hd.fx ho.1.2.2.1 (sz := 2) rfl
   have f4 := hn.fx ho.2.1.1 (sz := 34) rfl
   have f5 := hk.fx ho.2.1.2.1 (sz := 2) rfl
   have f6 := hv'.fx ho.2.1.2.2.1 (sz := 1) rfl
   have f7 := hd'.fx ho.2.1.2.2.2.1 (sz := 2) rfl
   have f8 := hlw.fx ho.2.2.1.1 (sz := 34) rfl
   have f9 := hvw.fx ho.2.2.1.2.1 (sz := 1) rfl
   have f10 := hdw.fx ho.2.2.1.2.2.1 (sz := 2) rfl
   have hL1 : (hs.length ≤ 10000) = True := eq_true (by omega)
   have hL3 : (nw.length ≤ 10000) = True := eq_true (by omega)
   have hL4 : (kp.length ≤ 10000) = True := eq_true (by omega)
   unfold w44
   by_cases c0 : apE hs xs ds nw kp xs' ds' = 0
   case neg =>
    have c0' := eq_false c0
    simp only [X7h, KtT, YUc, YOT, XuP, simprocAttr, CO.tmps, Opd.tmps, optT, Nat.reducePow, Nat.reduceDiv, Nat.reduceMod, f1, f2, f3, f4, f5, f6, f7, f8, f9, f10, q3S, QWD, c0', hL1, hL3, hL4, k1, k2, Z3U, and_self, eq_self, ne_eq, not_false_eq_true, not_true_eq_false, decide_true, decide_false]
    exact Bt.dropB _ hh (decide_eq_false fun z => c0 z.1).symm
   obtain ⟨a1, a2, a3, a4, a5⟩ := ap_0 c0
   have n0 := z4D (l := hs) (v := xs) (ds := ds) (nw := nw) (kp := kp) (v' := xs') (ds' := ds')
   have nj := qBj (XFj.1 a1).nf (YIo a2)
   have n1 : ((chL hs xs ds nw kp xs' ds').length ≤ 1000000) = True := eq_true (by omega)
   have n2 : ((Zjv xs xs' ds ds').1.length ≤ 1000000) = True := eq_true (by have := nj.rg.1; omega)
   have n3 : ((Zjv xs xs' ds ds').2.length ≤ 1000000) = True := eq_true (by omega)
   simp only [X7h, KtT, YUc, YOT, XuP, simprocAttr, CO.tmps, Opd.tmps, optT, Nat.reducePow, Nat.reduceDiv, Nat.reduceMod, f1, f2, f3, f4, f5, f6, f7, f8, f9, f10, q3S, QWD, c0, hL1, hL3, hL4, k1, k2, n1, n2, n3, qHA, and_self, eq_self, ne_eq, not_false_eq_true, not_true_eq_false, decide_true, decide_false]
   exact Bt.dropB _ hh (decide_eq_decide.2 ⟨fun z => ⟨c0, z⟩, fun z => z.2⟩)
  ·cases e
 ·cases e
section
variable (d e : Dg)
theorem ZIg : addE [((1, 1), d)] [1] [] (1, 1) = 19 := by
 unfold addE
 rw [if_neg (not_not_intro (s10 d)), if_pos (by decide)]
theorem QyZ : addE [((1, 1), d)] [1] [] (2, 1) = 0 := by
 unfold addE
 rw [if_neg (not_not_intro (s10 d)), if_neg (by decide), if_neg (by decide), if_neg (by decide)]
theorem zvU : mkO [1] [] (2, 1) = ([1, 1], []) := by decide
theorem QHX : layG J9g [((1, 1), d)] ((2, 1), e) = [((1, 1), d), ((2, 1), e)] := by
 rw [Xfj (show ¬ J9g ((2, 1), e) ((1, 1), d) from (show ¬ X1m (2, 1) (1, 1) by decide)), zWa]
theorem QMo : delL d [((1, 1), d), ((2, 1), d)] = [] := by
 unfold delL
 simp
theorem zyC : outL [1] [] [((1, 1), d), ((2, 1), e)] = [((2, 1), e)] := by
 rw [JfV ⟨k10, show YC2 [1] [] (1, 1) by decide⟩, YSr fun q => absurd (show YC2 [1] [] (2, 1) from q.2) (by decide), Jgm]
theorem zmJ : JnB [1] [] [((1, 1), d), ((2, 1), e)] = [(1, 1)] := by
 unfold JnB
 rw [List.filter_cons, if_pos (decide_eq_true ⟨k10, show YC2 [1] [] (1, 1) by decide⟩), List.filter_cons, if_neg (by rw [decide_eq_true_eq]; exact fun q => absurd (show YC2 [1] [] (2, 1) from q.2) (by decide))]
 rfl
theorem J6C (h : d ≠ e) : ¬ agreeP [((1, 1), d)] [((1, 1), e)] := fun g => h (g _ (.head _) _ (.head _) rfl)
theorem Jw3 : Go.Proofs.YtfaccliekejngaaGreat.sortP cmpG [d, d] = [d, d] := by
 have hp := JLO q05 [d, d]
 have ql := hp.length_eq
 match sortP cmpG [d, d], hp, ql with
 | [a, b], hp, _ =>
  have ha : a ∈ [d, d] := hp.mem_iff.1 (.head _)
  have hb : b ∈ [d, d] := hp.mem_iff.1 (.tail _ (.head _))
  simp only [List.mem_cons, List.not_mem_nil, or_false, or_self] at ha hb
  rw [ha, hb]
theorem Yv0 : dgsL [((1, 1), d), ((2, 1), d)] = [d] := by
 unfold dgsL
 rw [show ([((1, 1), d), ((2, 1), d)] : List Hd).map (·.2) = [d, d] from rfl, Jw3]
 unfold cpI cmpL
 simp [cmps]
theorem YTr : mayP [((2, 1), e)] [(1, 1)] [1, 1] [] := by
 refine ⟨fun k hk => ?_, fun k hk => ?_, ?_⟩
 ·have : k = 0 := by simpa using hk
  subst this
  exact ⟨fun q => absurd q (by decide), k11, show YC2 [1, 1] [] (2, 1) by decide⟩
 ·have : k = 0 := by simpa using hk
  subst this
  exact ⟨fun q => absurd q (by decide), k11, show YC2 [1, 1] [] (1, 1) by decide⟩
 ·rintro ⟨x, h1, h2⟩
  rw [List.mem_singleton.1 h1] at h2
  simp at h2
theorem Xl0 : apJ [((1, 1), d)] [1] [] [((2, 1), e)] [(1, 1)] [1, 1] [] [((1, 1), d), ((2, 1), e)] [1, 1] [] := by
 have g : agreeP [((1, 1), d)] [((2, 1), e)] := fun x hx y hy q => by
  rw [List.mem_singleton.1 hx, List.mem_singleton.1 hy] at q
  exact absurd (show ((1 : Int), (1 : Int)) = (2, 1) from q) (by decide)
 refine ⟨?_, ?_, by decide, by decide⟩
 ·unfold apE
  rw [if_neg (not_not_intro (s10 d)), if_neg (not_not_intro k11), if_neg (not_not_intro (YTr e)), if_neg (not_not_intro g), if_neg (by decide)]
 ·refine JGH ZBM (QeJ (XFj.1 (s10 d)) (List.pairwise_singleton _ _)) (XFj.1 (s11 d e)).rise fun x => ?_
  have n2 : ¬ inC [1] [] (2, 1) := fun q => absurd ((Zgc (YIo k10).rg _).2 q) (by decide)
  rw [J7c, qPd]
  simp only [List.mem_cons, List.not_mem_nil, or_false]
  constructor
  ·rintro (⟨q, _⟩ | ⟨q, _⟩)
   ·exact .inl q
   ·exact .inr q
  ·rintro (rfl | rfl)
   ·exact .inl ⟨rfl, .inr (.inl rfl)⟩
   ·exact .inr ⟨rfl, n2⟩
theorem QNX : apJ [] [1] [] [((2, 1), e)] [(1, 1)] [1, 1] [] [((2, 1), e)] [1, 1] [] := by
 have g : agreeP [] [((2, 1), e)] := fun x hx => by cases hx
 refine ⟨?_, ?_, by decide, by decide⟩
 ·unfold apE
  rw [if_neg (not_not_intro (QH1 k10)), if_neg (not_not_intro k11), if_neg (not_not_intro (YTr e)), if_neg (not_not_intro g), if_neg (by decide)]
 ·refine JGH ZBM (QeJ (XFj.1 (QH1 k10)) (List.pairwise_singleton _ _)) (List.pairwise_singleton _ _) fun x => ?_
  have n2 : ¬ inC [1] [] (2, 1) := fun q => absurd ((Zgc (YIo k10).rg _).2 q) (by decide)
  rw [J7c, qPd]
  simp only [List.mem_cons, List.not_mem_nil, or_false, false_and, false_or]
  exact ⟨fun q => q.1, fun q => by subst q; exact ⟨rfl, n2⟩⟩
theorem K24 : jnS [((1, 1), d), ((2, 1), e)] [1, 1] [] [] [1] [] [((2, 1), e)] [1, 1] [] := by
 have g : agreeP [((1, 1), d), ((2, 1), e)] [] := fun x hx y hy => by cases hy
 refine ⟨s11 d e, QH1 k10, g, by decide, ?_, by decide, by decide⟩
 refine (Xac (XFj.1 (s11 d e)) (XFj.1 (QH1 k10)) (List.pairwise_singleton _ _) fun x => ?_).symm
 have n1 : inC [1] [] (1, 1) := (Zgc (YIo k10).rg _).1 (by decide)
 have n2 : ¬ inC [1] [] (2, 1) := fun q => absurd ((Zgc (YIo k10).rg _).2 q) (by decide)
 rw [ZAR g]
 simp only [List.mem_cons, List.not_mem_nil, or_false, and_false, false_or, false_and]
 constructor
 ·rintro rfl
  exact ⟨.inr rfl, n2⟩
 ·rintro ⟨rfl | rfl, q⟩
  ·exact absurd n1 q
  ·rfl
theorem ZTA : KwK [((1, 1), d)] [] [] = 2 := by
 unfold KwK
 rw [if_neg (not_not_intro k00), if_neg]
 intro q
 exact absurd (show YC2 [] [] (1, 1) from (q 0 Nat.one_pos).2.2) (by decide)
end
theorem QUw : dgB 7 ≠ dgB 8 := by decide
theorem XT8 {h : List AB} (L : List AB) (k : Nat) (x : Dg) (q : ownC L k = some (idR.f x)) : getS idR (h ++ L) (.sl (h.length + k) 0 1 1 none) = some [x] :=
 (QYM (r := idR) (n := 1) (l := [x]) (by rw [q]; simp [Row.cells]) (by unfold maxLen; simp) (by simp)).get
theorem KIy {h : List AB} (L : List AB) (k : Nat) (a b : Int) (q : ownC L k = some [.i .i64 a, .i .i64 b]) : getS dotR (h ++ L) (.sl (h.length + k) 0 1 1 none) = some [(a, b)] :=
 (QYM (r := dotR) (n := 1) (l := [(a, b)]) (by rw [q]; simp [Row.cells, X5L]) (by unfold maxLen; simp) (by simp)).get
theorem qjd : Spec Tryz.prog 6 zTG := by
 intro args h v h' e
 unfold zTG at e
 split at e
 ·cases e
  refine FnAt.c (FnAt.frz0 fun hz => ?_)
  generalize h.map AB.freeze = h at *
  refine FnAt.run (by kernel_rfl) (T := ⟨[⟨42, KbO, fun _ => []⟩, ⟨43, zqi, fun _ => []⟩, ⟨41, zYf, fun _ => []⟩, ⟨40, XA4, fun _ => []⟩, ⟨24, XNE, fun _ => []⟩, ⟨26, KXd, fun _ => []⟩, ⟨17, KZQ, fun _ => []⟩, ⟨15, KY4, fun _ => []⟩, ⟨28, XGL, fun _ => []⟩, ⟨31, z0u, fun _ => []⟩, ⟨19, QWD, fun _ => []⟩, ⟨20, KW8, fun _ => []⟩, ⟨29, XSZ, fun _ => []⟩, ⟨45, YvT, fun _ => []⟩, ⟨44, ZLZ, fun _ => []⟩, ⟨12, Jwt, fun _ => []⟩], []⟩) ⟨⟨Zvx, KDL, KLf, Zvo, JO8, X4g, Jrl, qPs, KRW, Xz3, JbQ, KQk, qb7, qkd, KV3, zNS, trivial⟩, trivial⟩ Tryz.func6 sw6 fun ho hh => ?_
  have l1 := fun (L : List AB) k q => lit1 (h := h) L k ((1, 1), dgB 7) q
  have l2 := fun (L : List AB) k q => lit1 (h := h) L k ((2, 1), dgB 7) q
  have l3 := fun (L : List AB) k q => lit2 (h := h) L k ((1, 1), dgB 7) ((2, 1), dgB 7) q
  have l4 := fun (L : List AB) k q => lit1 (h := h) L k ((1, 1), dgB 8) q
  have l5 := fun (L : List AB) k q => lit1 (h := h) L k ((2, 1), dgB 8) q
  have l6 := fun (L : List AB) k q => lit2 (h := h) L k ((1, 1), dgB 7) ((2, 1), dgB 8) q
  have l7 := fun (L : List AB) k q => XT8 (h := h) L k (dgB 7) q
  have ln := fun (L : List AB) k a q => JDr (h := h) L k a q
  have lm := fun (L : List AB) k a b q => JDJ (h := h) L k a b q
  have ld := fun (L : List AB) k q => KIy (h := h) L k 1 1 q
  have ex1 := ZIg (dgB 7)
  have ex2 := QyZ (dgB 7)
  have ex3 := zvU
  have ex4 := QHX (dgB 7) (dgB 7)
  have ex5 := s10 (dgB 7)
  have ex6 := s11 (dgB 7) (dgB 7)
  have ex7 := QMo (dgB 7)
  have ex8 : (∃ x ∈ ([((1, 1), dgB 7), ((2, 1), dgB 7)] : List Hd), x.2 = dgB 7) = True := eq_true ⟨_, .head _, rfl⟩
  have ex9 := s11 (dgB 7) (dgB 8)
  have ex10 := zyC (dgB 7) (dgB 8)
  have ex11 := zmJ (dgB 7) (dgB 8)
  have ex12 : (∃ x ∈ ([] : List Hd), x.2 = dgB 7) = False := eq_false (by rintro ⟨x, q, _⟩; cases q)
  have ex13 : KwK [] [] [] = 0 := QH1 k00
  have ex14 := s10 (dgB 8)
  have ex15 := eq_false (J6C (dgB 7) (dgB 8) QUw)
  have ex16 := Yv0 (dgB 7)
  have ex17 := eq_true (Xl0 (dgB 7) (dgB 8))
  have ex18 := eq_true (QNX (dgB 8))
  have ex19 := eq_true (K24 (dgB 7) (dgB 7))
  have ex20 := ZTA (dgB 7)
  have ex21 := k10
  have u0 : (0 ≤ maxLen) = True := eq_true (by unfold maxLen; omega)
  have u1 : (1 ≤ maxLen) = True := eq_true (by unfold maxLen; omega)
  have u2 : (2 ≤ maxLen) = True := eq_true (by unfold maxLen; omega)
  have b7 : ((0 : Int) ≤ 7 ∧ (7 : Int) < 256) = True := eq_true (by decide)
  have b8 : ((0 : Int) ≤ 8 ∧ (8 : Int) < 256) = True := eq_true (by decide)
  have kn1 : ∀ i, (AV.sl i 0 1 1 none).kn = true := fun _ => rfl
  have cns : AV.ns.capOk = true := rfl
  unfold w6
  simp (maxSteps := 4000000) only [X7h, KtT, YUc, YOT, XuP, simprocAttr, CO.tmps, Opd.tmps, optT, Nat.reducePow, Nat.reduceDiv, Nat.reduceMod, KbO, zqi, zYf, XA4, XNE, KXd, KZQ, KY4, XGL, z0u, QWD, KW8, XSZ, YvT, ZLZ, Jwt, zJQ, Kik, kn1, cns, ex1, ex2, ex3, ex4, ex5, ex6, ex7, ex8, ex9, ex10, ex11, ex12, ex13, ex14, ex15, ex16, ex17, ex18, ex19, ex20, ex21, l1, l2, l3, l4, l5, l6, l7, ln, lm, ld, Z3U, Ycf, z1c, u0, u1, u2, Nat.zero_add, beq_self_eq_true, and_self, eq_self, ne_eq, not_false_eq_true, not_true_eq_false, decide_true, decide_false, b7, b8, nsSl, slSl, zqp, zso, Zcr, Jmd, XRz, JUx, Q42, qdy, Xzb, Ksp, YiU, List.all_append, List.length_cons, List.length_nil, zN7 hh, X9n hz, Zf3 hz, QwR hz]
  exact Bt.dropB _ hh rfl
 ·cases e
end Go.Proofs.YtfaccliekejngaaGreat
end
section
namespace Go.Proofs.YtfaccliekejngaaGreat
set_option maxRecDepth 100000
set_option maxHeartbeats 8000000
theorem JmT {l : List Hd} {v : List Int} {d : Dots} (a : RG l v d) : jnL l l v v d d = l := (Xac a a a.rise fun x => (K1h a x).symm).symm
theorem Kap {h : List AB} (hz : h.map AB.freeze = h) {l1 s1 t1 l2 s2 t2 l3 s3 t3 : AV} {la lb lc : List Hd} {va vb vc : List Int} {da db dc : Dots} (hl1 : Rd Qv4 h l1 la) (hs1 : Rd intR h s1 va) (ht1 : Rd dotR h t1 da) (hl2 : Rd Qv4 h l2 lb) (hs2 : Rd intR h s2 vb) (ht2 : Rd dotR h t2 db) (hl3 : Rd Qv4 h l3 lc) (hs3 : Rd intR h s3 vc) (ht3 : Rd dotR h t3 dc) (k1 : t1.capOk = true) (k2 : t2.capOk = true) (k3 : t3.capOk = true) :
  FnAt Tryz.prog 7 [.ag [l1, s1, t1], .ag [l2, s2, t2], .ag [l3, s3, t3]] h (.b true) h := by
 refine FnAt.run (by kernel_rfl) (T := ⟨[⟨6, zTG, fun _ => []⟩, ⟨46, ZyZ, fun _ => []⟩, ⟨31, z0u, fun _ => []⟩, ⟨15, KY4, fun _ => []⟩, ⟨45, YvT, fun _ => []⟩, ⟨19, QWD, fun _ => []⟩], []⟩) ⟨⟨qjd, XVj, Xz3, qPs, qkd, JbQ, trivial⟩, trivial⟩ Tryz.func7 sw7 fun ho hh => ?_
 simp only [Xtq, J9R, Bool.and_eq_true] at ho
 have f1 := hl1.fx ho.1.1 (sz := 34) rfl
 have f2 := hs1.fx ho.1.2.1 (sz := 1) rfl
 have f3 := ht1.fx ho.1.2.2.1 (sz := 2) rfl
 have f4 := hl2.fx ho.2.1.1 (sz := 34) rfl
 have f5 := hs2.fx ho.2.1.2.1 (sz := 1) rfl
 have f6 := ht2.fx ho.2.1.2.2.1 (sz := 2) rfl
 have f7 := hl3.fx ho.2.2.1.1 (sz := 34) rfl
 have f8 := hs3.fx ho.2.2.1.2.1 (sz := 1) rfl
 have f9 := ht3.fx ho.2.2.1.2.2.1 (sz := 2) rfl
 unfold w7
 by_cases ga : ¬ (20 < la.length ∨ 20 < va.length ∨ 30 < da.length) ∧ KwK la va da = 0
 case neg =>
  have g := eq_false ga
  simp only [X7h, KtT, YUc, YOT, XuP, simprocAttr, CO.tmps, Opd.tmps, optT, Nat.reducePow, Nat.reduceDiv, Nat.reduceMod, f1, f2, f3, f4, f5, f6, f7, f8, f9, zTG, ZyZ, z0u, KY4, YvT, QWD, ZTH, Ycf, qHA, beq_self_eq_true, ne_eq, not_false_eq_true, not_true_eq_false, decide_true, decide_false, and_self, eq_self, g]
  exact Bt.dropB _ hh rfl
 have ga' := eq_true ga
 have ca := ga.2
 have La := eq_false ga.1
 by_cases gb : ¬ (20 < lb.length ∨ 20 < vb.length ∨ 30 < db.length) ∧ KwK lb vb db = 0
 case neg =>
  have g := eq_false gb
  simp only [X7h, KtT, YUc, YOT, XuP, simprocAttr, CO.tmps, Opd.tmps, optT, Nat.reducePow, Nat.reduceDiv, Nat.reduceMod, f1, f2, f3, f4, f5, f6, f7, f8, f9, zTG, ZyZ, z0u, KY4, YvT, QWD, ZTH, Ycf, qHA, beq_self_eq_true, ne_eq, not_false_eq_true, not_true_eq_false, decide_true, decide_false, and_self, eq_self, ga', g]
  exact Bt.dropB _ hh rfl
 have gb' := eq_true gb
 have cb := gb.2
 have Lb := eq_false gb.1
 by_cases gc : ¬ (20 < lc.length ∨ 20 < vc.length ∨ 30 < dc.length) ∧ KwK lc vc dc = 0
 case neg =>
  have g := eq_false gc
  simp only [X7h, KtT, YUc, YOT, XuP, simprocAttr, CO.tmps, Opd.tmps, optT, Nat.reducePow, Nat.reduceDiv, Nat.reduceMod, f1, f2, f3, f4, f5, f6, f7, f8, f9, zTG, ZyZ, z0u, KY4, YvT, QWD, ZTH, Ycf, qHA, beq_self_eq_true, ne_eq, not_false_eq_true, not_true_eq_false, decide_true, decide_false, and_self, eq_self, ga', gb', g]
  exact Bt.dropB _ hh rfl
 have gc' := eq_true gc
 have cc := gc.2
 have Lc := eq_false gc.1
 have ra := XFj.1 ca
 have rb := XFj.1 cb
 have rc := XFj.1 cc
 have j1 := ztm ra.nf rb.nf
 have j2 := ztm rb.nf rc.nf
 have j0 := ztm ra.nf rc.nf
 have nj1 := qBj ra.nf rb.nf
 have nj2 := qBj rb.nf rc.nf
 have j3 := ztm nj1 rc.nf
 have v1 := nj1.rg.1
 have v2 := nj2.rg.1
 have v3 := (qBj nj1 rc.nf).rg.1
 have u1 := ZmD la lb va vb da db
 have u2 := ZmD lb lc vb vc db dc
 have u3 := ZmD (jnL la lb va vb da db) lc (Zjv va vb da db).1 vc (Zjv va vb da db).2 dc
 have o1 : (Zjv va vb da db).2.length ≤ 4096 := by omega
 have o2 : (Zjv vb vc db dc).2.length ≤ 4096 := by omega
 have o0 : (Zjv va vc da dc).2.length ≤ 4096 := by omega
 have m1 := eq_true o1
 have m2 := eq_true o2
 have m0 := eq_true o0
 have t1 : (la.length ≤ 10000) = True := eq_true (by omega)
 have t2 : (lb.length ≤ 10000) = True := eq_true (by omega)
 have t3 : (lc.length ≤ 10000) = True := eq_true (by omega)
 by_cases gab : agreeP la lb
 case neg =>
  have g := eq_false gab
  by_cases gbc : agreeP lb lc <;> by_cases gac : agreeP la lc
  ·have q1 := eq_true gbc
   have q2 := eq_true gac
   simp only [X7h, KtT, YUc, YOT, XuP, simprocAttr, CO.tmps, Opd.tmps, optT, Nat.reducePow, Nat.reduceDiv, Nat.reduceMod, f1, f2, f3, f4, f5, f6, f7, f8, f9, zTG, ZyZ, z0u, KY4, YvT, QWD, ZTH, Ycf, qHA, beq_self_eq_true, ne_eq, not_false_eq_true, not_true_eq_false, decide_true, decide_false, and_self, eq_self, La, Lb, Lc, true_and, ca, cb, cc, t1, t2, t3, k1, k2, k3, m0, m1, m2, g, q1, q2]
   exact Bt.dropB _ hh rfl
  ·have q1 := eq_true gbc
   have q2 := eq_false gac
   simp only [X7h, KtT, YUc, YOT, XuP, simprocAttr, CO.tmps, Opd.tmps, optT, Nat.reducePow, Nat.reduceDiv, Nat.reduceMod, f1, f2, f3, f4, f5, f6, f7, f8, f9, zTG, ZyZ, z0u, KY4, YvT, QWD, ZTH, Ycf, qHA, beq_self_eq_true, ne_eq, not_false_eq_true, not_true_eq_false, decide_true, decide_false, and_self, eq_self, La, Lb, Lc, true_and, ca, cb, cc, t1, t2, t3, k1, k2, k3, m0, m1, m2, g, q1, q2]
   exact Bt.dropB _ hh rfl
  ·have q1 := eq_false gbc
   have q2 := eq_true gac
   simp only [X7h, KtT, YUc, YOT, XuP, simprocAttr, CO.tmps, Opd.tmps, optT, Nat.reducePow, Nat.reduceDiv, Nat.reduceMod, f1, f2, f3, f4, f5, f6, f7, f8, f9, zTG, ZyZ, z0u, KY4, YvT, QWD, ZTH, Ycf, qHA, beq_self_eq_true, ne_eq, not_false_eq_true, not_true_eq_false, decide_true, decide_false, and_self, eq_self, La, Lb, Lc, true_and, ca, cb, cc, t1, t2, t3, k1, k2, k3, m0, m1, m2, g, q1, q2]
   exact Bt.dropB _ hh rfl
  ·have q1 := eq_false gbc
   have q2 := eq_false gac
   simp only [X7h, KtT, YUc, YOT, XuP, simprocAttr, CO.tmps, Opd.tmps, optT, Nat.reducePow, Nat.reduceDiv, Nat.reduceMod, f1, f2, f3, f4, f5, f6, f7, f8, f9, zTG, ZyZ, z0u, KY4, YvT, QWD, ZTH, Ycf, qHA, beq_self_eq_true, ne_eq, not_false_eq_true, not_true_eq_false, decide_true, decide_false, and_self, eq_self, La, Lb, Lc, true_and, ca, cb, cc, t1, t2, t3, k1, k2, k3, m0, m1, m2, g, q1, q2]
   exact Bt.dropB _ hh rfl
 have hab := eq_true gab
 by_cases gbc : agreeP lb lc
 case neg =>
  have g := eq_false gbc
  by_cases gac : agreeP la lc
  ·have q2 := eq_true gac
   simp only [X7h, KtT, YUc, YOT, XuP, simprocAttr, CO.tmps, Opd.tmps, optT, Nat.reducePow, Nat.reduceDiv, Nat.reduceMod, f1, f2, f3, f4, f5, f6, f7, f8, f9, zTG, ZyZ, z0u, KY4, YvT, QWD, ZTH, Ycf, qHA, beq_self_eq_true, ne_eq, not_false_eq_true, not_true_eq_false, decide_true, decide_false, and_self, eq_self, La, Lb, Lc, true_and, ca, cb, cc, t1, t2, t3, k1, k2, k3, m0, m1, m2, hab, g, q2]
   exact Bt.dropB _ hh rfl
  ·have q2 := eq_false gac
   simp only [X7h, KtT, YUc, YOT, XuP, simprocAttr, CO.tmps, Opd.tmps, optT, Nat.reducePow, Nat.reduceDiv, Nat.reduceMod, f1, f2, f3, f4, f5, f6, f7, f8, f9, zTG, ZyZ, z0u, KY4, YvT, QWD, ZTH, Ycf, qHA, beq_self_eq_true, ne_eq, not_false_eq_true, not_true_eq_false, decide_true, decide_false, and_self, eq_self, La, Lb, Lc, true_and, ca, cb, cc, t1, t2, t3, k1, k2, k3, m0, m1, m2, hab, g, q2]
   exact Bt.dropB _ hh rfl
 have hbc := eq_true gbc
 by_cases gac : agreeP la lc
 case neg =>
  have g := eq_false gac
  simp only [X7h, KtT, YUc, YOT, XuP, simprocAttr, CO.tmps, Opd.tmps, optT, Nat.reducePow, Nat.reduceDiv, Nat.reduceMod, f1, f2, f3, f4, f5, f6, f7, f8, f9, zTG, ZyZ, z0u, KY4, YvT, QWD, ZTH, Ycf, qHA, beq_self_eq_true, ne_eq, not_false_eq_true, not_true_eq_false, decide_true, decide_false, and_self, eq_self, La, Lb, Lc, true_and, ca, cb, cc, t1, t2, t3, k1, k2, k3, m0, m1, m2, hab, hbc, g]
  exact Bt.dropB _ hh rfl
 have hac := eq_true gac
 have rx := QWi ra rb o1
 have rz := QWi rb rc o2
 have hxc := eq_true (KKE gac gbc fun x hx => zs7 hx : agreeP (jnL la lb va vb da db) lc)
 have haz := eq_true (KKE gab.symm gac.symm fun x hx => zs7 hx : agreeP (jnL lb lc vb vc db dc) la).symm
 have e1 := zU8 ra rb gab
 have e2 := ZAv ra.nf rb.nf
 have e3 := QcZ ra rb rc gab gac gbc o1 o2
 have e4 := JnE ra.nf rb.nf rc.nf
 have gaa : agreeP la la := fun x hx y hy e => by rw [ra.one hx hy e]
 have gxb : agreeP (jnL la lb va vb da db) lb := fun x hx y hy e => by
  rcases zs7 hx with q | q
  ·exact gab x q y hy e
  ·rw [rb.one q hy e]
 have e5 := QBy rb ra gab.symm (by rw [e2]; exact o1)
 rw [e1, e2] at e5
 have e6 := XPQ rb.nf ra.nf
 rw [e2] at e6
 have y1 := (⟨cb, ca, gab.symm, by rw [e2]; exact o1, e1, by rw [e2], by rw [e2]⟩ : jnS lb vb db la va da (jnL la lb va vb da db) (Zjv va vb da db).1 (Zjv va vb da db).2)
 have y2 := (⟨ca, ca, gaa, by rw [YpI ra.nf]; exact ra.len, JmT ra, by rw [YpI ra.nf], by rw [YpI ra.nf]⟩ : jnS la va da la va da la va da)
 have y3 := (⟨XFj.2 rx, cb, gxb, by rw [e6]; exact o1, e5, by rw [e6], by rw [e6]⟩ : jnS (jnL la lb va vb da db) (Zjv va vb da db).1 (Zjv va vb da db).2 lb vb db (jnL la lb va vb da db) (Zjv va vb da db).1 (Zjv va vb da db).2)
 have cx := XFj.2 rx
 have cz := XFj.2 rz
 generalize hU : jnL (jnL la lb va vb da db) lc (Zjv va vb da db).1 vc (Zjv va vb da db).2 dc = U at *
 generalize hX : jnL la lb va vb da db = X at *
 generalize hZ : jnL lb lc vb vc db dc = Z at *
 generalize hW : Zjv (Zjv va vb da db).1 vc (Zjv va vb da db).2 dc = WW at *
 generalize hJ : Zjv va vb da db = J at *
 generalize hK2 : Zjv vb vc db dc = K at *
 have e3' := e3.symm
 have t4 : (X.length ≤ 10000) = True := eq_true (by omega)
 have t5 : (Z.length ≤ 10000) = True := eq_true (by omega)
 have w1 : (la.length ≤ 1000) = True := eq_true (by omega)
 have w2 : (lb.length ≤ 1000) = True := eq_true (by omega)
 have w3 : (X.length ≤ 1000) = True := eq_true (by omega)
 have p1 : (X.length ≤ 1000000) = True := eq_true (by omega)
 have p2 : (Z.length ≤ 1000000) = True := eq_true (by omega)
 have p3 : (U.length ≤ 1000000) = True := eq_true (by omega)
 have p4 : (J.1.length ≤ 1000000) = True := eq_true (by omega)
 have p5 : (J.2.length ≤ 1000000) = True := eq_true (by omega)
 have p6 : (K.1.length ≤ 1000000) = True := eq_true (by omega)
 have p7 : (K.2.length ≤ 1000000) = True := eq_true (by omega)
 have p8 : (WW.1.length ≤ 1000000) = True := eq_true (by omega)
 have p9 : (WW.2.length ≤ 1000000) = True := eq_true (by omega)
 have m3 : (K.2.length ≤ 4096) = True := eq_true (by omega)
 have m4 : (WW.2.length ≤ 4096) = True := eq_true (by omega)
 have m5 : (J.2.length ≤ 4096) = True := eq_true (by omega)
 simp only [X7h, KtT, YUc, YOT, XuP, simprocAttr, CO.tmps, Opd.tmps, optT, Nat.reducePow, Nat.reduceDiv, Nat.reduceMod, f1, f2, f3, f4, f5, f6, f7, f8, f9, zTG, ZyZ, z0u, KY4, YvT, QWD, ZTH, Ycf, qHA, beq_self_eq_true, ne_eq, not_false_eq_true, not_true_eq_false, decide_true, decide_false, and_self, eq_self, La, Lb, Lc, true_and, ca, cb, cc, t1, t2, t3, k1, k2, k3, m0, m3, m4, m5, t4, t5, w1, w2, w3, p1, p2, p3, p4, p5, p6, p7, p8, p9, hab, hbc, hac, hxc, haz, cx, cz, hX, hZ, hJ, hK2, hU, hW, e3', e4]
 exact ⟨fun _ => ⟨fun _ => ⟨fun _ => Bt.dropB _ hh rfl, fun q => absurd y3 q⟩, fun q => absurd y2 q⟩, fun q => absurd y1 q⟩
end Go.Proofs.YtfaccliekejngaaGreat
end
section
namespace Go.Proofs.YtfaccliekejngaaGreat
section
variable {la lb : List Hd} {va vb vc : List Int} {da db dc : Dots}
theorem Kpz (d : Int × Int) : ¬ YC2 [] [] d := fun h => by
 have := (Zgc (YIo k00).rg d).1 h
 obtain ⟨h1, h2 | h2⟩ := this
 ·have e : vAt [] d.1 = 0 := by unfold vAt; simp
  rw [e] at h2
  have := h1.2.2.1
  omega
 ·cases h2
theorem Z7W (l : List Hd) : outL [] [] l = l := List.filter_eq_self.2 fun x _ => decide_eq_true fun q => Kpz _ q.2
theorem z3U (l : List Hd) : JnB [] [] l = [] := by
 unfold JnB
 rw [List.map_eq_nil_iff, List.filter_eq_nil_iff]
 intro x _ q
 exact Kpz _ (of_decide_eq_true q).2
theorem K4q (a : RG la va da) : outL va da la = [] := by
 unfold outL
 rw [List.filter_eq_nil_iff]
 intro x hx q
 exact (of_decide_eq_true q) ⟨a.nf.check a.len, (Zgc a.nf.rg _).2 (a.sn x hx)⟩
theorem JZG (a : RG la va da) : (JnB va da la).length = la.length := by
 unfold JnB
 rw [List.length_map, List.filter_eq_self.2 fun x hx => decide_eq_true ⟨a.nf.check a.len, (Zgc a.nf.rg _).2 (a.sn x hx)⟩]
theorem RG.sub (a : RG la va da) (p : Hd → Bool) : RG (la.filter p) va da := ⟨a.nf, a.len, a.rise.filter _, fun x hx => a.sn x (List.mem_filter.1 hx).1⟩
theorem RG.fineP (a : RG la va da) : fineP va da la la.length := (ZgZ (XFj.2 a)).2
theorem Zn6 {d : Int × Int} : d ∈ JnB vc dc la ↔ ∃ x ∈ la, (ZmB vc dc = 0 ∧ YC2 vc dc x.1) ∧ x.1 = d := by
 unfold JnB
 rw [List.mem_map]
 constructor
 ·rintro ⟨x, h1, h2⟩
  exact ⟨x, (List.mem_filter.1 h1).1, of_decide_eq_true (List.mem_filter.1 h1).2, h2⟩
 ·rintro ⟨x, h1, h2, h3⟩
  exact ⟨x, List.mem_filter.2 ⟨h1, decide_eq_true h2⟩, h3⟩
theorem Zej {x : Hd} : x ∈ outL vc dc la ↔ x ∈ la ∧ ¬ (ZmB vc dc = 0 ∧ YC2 vc dc x.1) := by
 unfold outL
 rw [List.mem_filter]
 exact and_congr_right fun _ => ⟨fun q => of_decide_eq_true q, fun q => decide_eq_true q⟩
theorem XCl (a : RG la va da) : mayP (outL vc dc la) (JnB vc dc la) va da := by
 refine ⟨?_, ?_, ?_⟩
 ·rw [JgJ]
  exact (a.sub _).fineP
 ·have h := (a.sub (fun x => decide (ZmB vc dc = 0 ∧ YC2 vc dc x.1))).fineP
  rw [← JgJ] at h
  unfold JnB
  rw [List.length_map]
  exact h
 ·rintro ⟨d, h1, h2⟩
  obtain ⟨x, _, hx, rfl⟩ := Zn6.1 h1
  obtain ⟨y, hy, e⟩ := List.mem_map.1 h2
  rw [← e] at hx
  exact (Zej.1 hy).2 hx
theorem JuM (a : RG la va da) (b : RG lb vb db) (hle : ∀ d, (ZmB vc dc = 0 ∧ YC2 vc dc d) → inC vb db d) (g : agreeP lb la) (hl : (Zjv vb va db da).2.length ≤ 4096) :
  apJ lb vb db (outL vc dc la) (JnB vc dc la) va da (jnL lb la vb va db da) (Zjv vb va db da).1 (Zjv vb va db da).2 := by
 have hg : agreeP lb (outL vc dc la) := fun x hx y hy e => g x hx y (Zej.1 hy).1 e
 refine ⟨?_, ?_, rfl, rfl⟩
 ·unfold apE
  rw [if_neg (not_not_intro (XFj.2 b)), if_neg (not_not_intro (a.nf.check a.len)), if_neg (not_not_intro (XCl a)), if_neg (not_not_intro hg), if_neg (not_not_intro hl)]
 ·refine Xac b a (QeJ b (a.sub _).rise) fun x => ?_
  rw [J7c, qPd, Q3F]
  have h1 : ((∃ y ∈ outL vc dc la, y.1 = x.1) ∨ x.1 ∈ JnB vc dc la) ↔ ∃ y ∈ la, y.1 = x.1 := by
   rw [Zn6]
   constructor
   ·rintro (⟨y, hy, e⟩ | ⟨y, hy, _, e⟩)
    ·exact ⟨y, (Zej.1 hy).1, e⟩
    ·exact ⟨y, hy, e⟩
   ·rintro ⟨y, hy, e⟩
    by_cases q : ZmB vc dc = 0 ∧ YC2 vc dc y.1
    ·exact .inr ⟨y, hy, q, e⟩
    ·exact .inl ⟨y, Zej.2 ⟨hy, q⟩, e⟩
  have h2 : (x ∈ outL vc dc la ∧ ¬ inC vb db x.1) ↔ (x ∈ la ∧ ¬ inC vb db x.1) := by
   rw [Zej]
   exact ⟨fun q => ⟨q.1.1, q.2⟩, fun q => ⟨⟨q.1, fun z => q.2 (hle _ z)⟩, q.2⟩⟩
  rw [h2, ← or_assoc, h1]
  constructor
  ·rintro (⟨q1, q2 | q2⟩ | q)
   ·exact .inl ⟨q1, q2⟩
   ·exact .inr (.inl ⟨q1, q2⟩)
   ·exact .inr (.inr q)
  ·rintro (q | q | q)
   ·exact .inl ⟨q.1, .inl q.2⟩
   ·exact .inl ⟨q.1, .inr q.2⟩
   ·exact .inr q
end
end Go.Proofs.YtfaccliekejngaaGreat
end
section
namespace Go.Proofs.YtfaccliekejngaaGreat
set_option maxRecDepth 100000
set_option maxHeartbeats 8000000
theorem J78 {h : List AB} (hz : h.map AB.freeze = h) {l1 s1 t1 l2 s2 t2 s3 t3 : AV} {la lb : List Hd} {va vb vc : List Int} {da db dc : Dots} (hl1 : Rd Qv4 h l1 la) (hs1 : Rd intR h s1 va) (ht1 : Rd dotR h t1 da) (hl2 : Rd Qv4 h l2 lb) (hs2 : Rd intR h s2 vb) (ht2 : Rd dotR h t2 db) (hs3 : Rd intR h s3 vc) (ht3 : Rd dotR h t3 dc) (k1 : t1.capOk = true) (k2 : t2.capOk = true) (k3 : t3.capOk = true) :
  FnAt Tryz.prog 8 [.ag [l1, s1, t1], .ag [l2, s2, t2], .ag [s3, t3]] h (.b true) h := by
 refine FnAt.run (by kernel_rfl) (T := ⟨[⟨6, zTG, fun _ => []⟩, ⟨46, ZyZ, fun _ => []⟩, ⟨11, qBn, fun _ => []⟩, ⟨47, qVB ZmB, fun _ => []⟩, ⟨17, KZQ, fun _ => []⟩, ⟨48, KWD, fun _ => []⟩, ⟨15, KY4, fun _ => []⟩, ⟨44, ZLZ, fun _ => []⟩, ⟨19, QWD, fun _ => []⟩], []⟩) ⟨⟨qjd, XVj, zma, zjL, Jrl, Y4F, qPs, KV3, JbQ, trivial⟩, trivial⟩ Tryz.func8 sw8 fun ho hh => ?_
 simp only [Xtq, J9R, Bool.and_eq_true] at ho
 have f1 := hl1.fx ho.1.1 (sz := 34) rfl
 have f2 := hs1.fx ho.1.2.1 (sz := 1) rfl
 have f3 := ht1.fx ho.1.2.2.1 (sz := 2) rfl
 have f4 := hl2.fx ho.2.1.1 (sz := 34) rfl
 have f5 := hs2.fx ho.2.1.2.1 (sz := 1) rfl
 have f6 := ht2.fx ho.2.1.2.2.1 (sz := 2) rfl
 have f7 := hs3.fx ho.2.2.1.1 (sz := 1) rfl
 have f8 := ht3.fx ho.2.2.1.2.1 (sz := 2) rfl
 unfold w8
 by_cases ga : ¬ (20 < la.length ∨ 20 < va.length ∨ 30 < da.length) ∧ KwK la va da = 0
 case neg =>
  have g := eq_false ga
  simp only [X7h, KtT, YUc, YOT, XuP, simprocAttr, CO.tmps, Opd.tmps, optT, Nat.reducePow, Nat.reduceDiv, Nat.reduceMod, f1, f2, f3, f4, f5, f6, f7, f8, zTG, ZyZ, qBn, qVB, KZQ, KWD, KY4, ZLZ, QWD, ZTH, Ycf, QIn, qHA, beq_self_eq_true, ne_eq, not_false_eq_true, not_true_eq_false, decide_true, decide_false, and_self, eq_self, Z3U, List.length_nil, Int.natCast_zero, Int.lt_irrefl, g]
  exact Bt.dropB _ hh rfl
 have ga' := eq_true ga
 have ca := ga.2
 have La := eq_false ga.1
 by_cases gb : ¬ (20 < lb.length ∨ 20 < vb.length ∨ 30 < db.length) ∧ KwK lb vb db = 0
 case neg =>
  have g := eq_false gb
  simp only [X7h, KtT, YUc, YOT, XuP, simprocAttr, CO.tmps, Opd.tmps, optT, Nat.reducePow, Nat.reduceDiv, Nat.reduceMod, f1, f2, f3, f4, f5, f6, f7, f8, zTG, ZyZ, qBn, qVB, KZQ, KWD, KY4, ZLZ, QWD, ZTH, Ycf, QIn, qHA, beq_self_eq_true, ne_eq, not_false_eq_true, not_true_eq_false, decide_true, decide_false, and_self, eq_self, Z3U, List.length_nil, Int.natCast_zero, Int.lt_irrefl, ga', g]
  exact Bt.dropB _ hh rfl
 have gb' := eq_true gb
 have cb := gb.2
 have Lb := eq_false gb.1
 by_cases Lc : 20 < vc.length ∨ 30 < dc.length
 ·have g := eq_true Lc
  simp only [X7h, KtT, YUc, YOT, XuP, simprocAttr, CO.tmps, Opd.tmps, optT, Nat.reducePow, Nat.reduceDiv, Nat.reduceMod, f1, f2, f3, f4, f5, f6, f7, f8, zTG, ZyZ, qBn, qVB, KZQ, KWD, KY4, ZLZ, QWD, ZTH, Ycf, QIn, qHA, beq_self_eq_true, ne_eq, not_false_eq_true, not_true_eq_false, decide_true, decide_false, and_self, eq_self, Z3U, List.length_nil, Int.natCast_zero, Int.lt_irrefl, ga', gb', g]
  exact Bt.dropB _ hh rfl
 have gc := eq_false Lc
 by_cases cc : ZmB vc dc = 0
 case neg =>
  have g := eq_false cc
  simp only [X7h, KtT, YUc, YOT, XuP, simprocAttr, CO.tmps, Opd.tmps, optT, Nat.reducePow, Nat.reduceDiv, Nat.reduceMod, f1, f2, f3, f4, f5, f6, f7, f8, zTG, ZyZ, qBn, qVB, KZQ, KWD, KY4, ZLZ, QWD, ZTH, Ycf, QIn, qHA, beq_self_eq_true, ne_eq, not_false_eq_true, not_true_eq_false, decide_true, decide_false, and_self, eq_self, Z3U, List.length_nil, Int.natCast_zero, Int.lt_irrefl, ga', gb', gc, g]
  exact Bt.dropB _ hh rfl
 have ra := XFj.1 ca
 have rb := XFj.1 cb
 have csa := ra.nf.check ra.len
 have csb := rb.nf.check rb.len
 have j1 := ztm rb.nf ra.nf
 have nj1 := qBj rb.nf ra.nf
 have v1 := nj1.rg.1
 have u1 := ZmD lb la vb va db da
 have m0 : (Zjv vb va db da).2.length ≤ 4096 := by omega
 have m1 := eq_true m0
 have x1 := Z7W la
 have x2 := z3U la
 have x3 := K4q ra
 have x4 := JZG ra
 have x5 := k00
 have lo := JKI vc dc la
 have lk := Y9U vc dc la la.length
 rw [List.take_length] at lk
 have t1 : (la.length ≤ 10000) = True := eq_true (by omega)
 have t2 : (lb.length ≤ 10000) = True := eq_true (by omega)
 have p1 : (la.length ≤ 1000000) = True := eq_true (by omega)
 have p2 : (va.length ≤ 1000000) = True := eq_true (by omega)
 have p3 : (da.length ≤ 1000000) = True := eq_true (by omega)
 by_cases gab : agreeP lb la
 case neg =>
  have g := eq_false gab
  by_cases hle : leqP vc dc vb db
  ·have q1 := eq_true hle
   simp only [X7h, KtT, YUc, YOT, XuP, simprocAttr, CO.tmps, Opd.tmps, optT, Nat.reducePow, Nat.reduceDiv, Nat.reduceMod, f1, f2, f3, f4, f5, f6, f7, f8, zTG, ZyZ, qBn, qVB, KZQ, KWD, KY4, ZLZ, QWD, ZTH, Ycf, QIn, qHA, beq_self_eq_true, ne_eq, not_false_eq_true, not_true_eq_false, decide_true, decide_false, and_self, eq_self, Z3U, List.length_nil, Int.natCast_zero, Int.lt_irrefl, La, Lb, gc, true_and, ca, cb, cc, csa, csb, m1, x1, x2, x3, x4, x5, t1, t2, p1, p2, p3, k1, k2, k3, g, q1]
   exact Bt.dropB _ hh rfl
  ·have q1 := eq_false hle
   simp only [X7h, KtT, YUc, YOT, XuP, simprocAttr, CO.tmps, Opd.tmps, optT, Nat.reducePow, Nat.reduceDiv, Nat.reduceMod, f1, f2, f3, f4, f5, f6, f7, f8, zTG, ZyZ, qBn, qVB, KZQ, KWD, KY4, ZLZ, QWD, ZTH, Ycf, QIn, qHA, beq_self_eq_true, ne_eq, not_false_eq_true, not_true_eq_false, decide_true, decide_false, and_self, eq_self, Z3U, List.length_nil, Int.natCast_zero, Int.lt_irrefl, La, Lb, gc, true_and, ca, cb, cc, csa, csb, m1, x1, x2, x3, x4, x5, t1, t2, p1, p2, p3, k1, k2, k3, g, q1]
   exact Bt.dropB _ hh rfl
 have g := eq_true gab
 by_cases hle : leqP vc dc vb db
 case neg =>
  have q1 := eq_false hle
  simp only [X7h, KtT, YUc, YOT, XuP, simprocAttr, CO.tmps, Opd.tmps, optT, Nat.reducePow, Nat.reduceDiv, Nat.reduceMod, f1, f2, f3, f4, f5, f6, f7, f8, zTG, ZyZ, qBn, qVB, KZQ, KWD, KY4, ZLZ, QWD, ZTH, Ycf, QIn, qHA, beq_self_eq_true, ne_eq, not_false_eq_true, not_true_eq_false, decide_true, decide_false, and_self, eq_self, Z3U, List.length_nil, Int.natCast_zero, Int.lt_irrefl, La, Lb, gc, true_and, ca, cb, cc, csa, csb, m1, x1, x2, x3, x4, x5, t1, t2, p1, p2, p3, k1, k2, k3, g, q1]
  exact Bt.dropB _ hh rfl
 have q1 := eq_true hle
 have nc := YIo cc
 have y1 := JuM (vc := vc) (dc := dc) ra rb (fun d q => (XyI nc.rg rb.nf.rg).1 hle d ((Zgc nc.rg d).1 q.2)) gab m0
 generalize hX : jnL lb la vb va db da = X at *
 generalize hJ : Zjv vb va db da = J at *
 generalize hO : outL vc dc la = O at *
 generalize hK : JnB vc dc la = K at *
 have w1 : (lb.length ≤ 1000) = True := eq_true (by omega)
 have w2 : (O.length ≤ 1000) = True := eq_true (by omega)
 have w3 : (K.length ≤ 1000) = True := eq_true (by omega)
 have r1 : (X.length ≤ 1000000) = True := eq_true (by omega)
 have r2 : (J.1.length ≤ 1000000) = True := eq_true (by omega)
 have r3 : (J.2.length ≤ 1000000) = True := eq_true (by omega)
 have r4 : (O.length ≤ 1000000) = True := eq_true (by omega)
 have r5 : (K.length ≤ 1000000) = True := eq_true (by omega)
 have m2 : (J.2.length ≤ 4096) = True := eq_true (by omega)
 simp only [X7h, KtT, YUc, YOT, XuP, simprocAttr, CO.tmps, Opd.tmps, optT, Nat.reducePow, Nat.reduceDiv, Nat.reduceMod, f1, f2, f3, f4, f5, f6, f7, f8, zTG, ZyZ, qBn, qVB, KZQ, KWD, KY4, ZLZ, QWD, ZTH, Ycf, QIn, qHA, beq_self_eq_true, ne_eq, not_false_eq_true, not_true_eq_false, decide_true, decide_false, and_self, eq_self, Z3U, List.length_nil, Int.natCast_zero, Int.lt_irrefl, La, Lb, gc, true_and, ca, cb, cc, csa, csb, x1, x2, x3, x4, x5, t1, t2, p1, p2, p3, k1, k2, k3, g, q1, hX, hJ, hO, hK, w1, w2, w3, r1, r2, r3, r4, r5, m2]
 exact Bt.dropB _ hh (decide_eq_true y1)
end Go.Proofs.YtfaccliekejngaaGreat
end
