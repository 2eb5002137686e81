/- Part 21 of what the laws' proofs rest on. No condition. -/
import Derived.Test.YtfaccliekejngaaGreatOo20
set_option linter.all false
section
namespace Go.Proofs.YtfaccliekejngaaGreat
open Go.Sort
set_option maxRecDepth 100000
set_option maxHeartbeats 4000000
noncomputable def ZFq : List AV → List AB → Option (AV × List AB)
 | [a, b], h => (getI a).bind fun x => (getI b).bind fun y => some (.b (decide (x = y)), h)
 | _, _ => none
theorem JaE : Spec Tryz.prog 82 ZFq := by
 intro args h v h' e
 unfold ZFq at e
 split at e
 ·rename_i a b
  obtain ⟨x, hx, e2⟩ := Kky e
  obtain ⟨y, hy, e3⟩ := Kky e2
  clear e e2
  subst hx hy
  cases e3
  refine FnAt.c (FnAt.run (by kernel_rfl) (T := ⟨[], []⟩) ⟨trivial, trivial⟩ Tryz.func82 sw82 fun ho hh => ?_)
  unfold w82
  simp only [XH8, QN9, X1r, X5W, zVq, simprocAttr, CO.tmps, Opd.tmps, optT, Nat.reducePow, Nat.reduceDiv, Nat.reduceMod, Ydx, XwU, Kb6, Ke3, QLO]
  exact Bt.dropB _ hh rfl
 ·cases e
open Classical in
noncomputable def z7M : List AV → List AB → Option (AV × List AB)
 | [s, .f (.func 82) [] []], h => (getS idR h s).bind fun l => match idOf s with
   | [id] => if s = rsl idR id l ∧ h[id]? = some (resB idR true l) ∧ l.length ≤ 1000000 then some (rsl idR id (cpI l), h.set id (resB idR true (cpI l))) else none
   | _ => none
 | _, _ => none
theorem qY6 : Spec Tryz.prog 81 z7M := by
 intro args h v h' e
 unfold z7M at e
 split at e
 ·rename_i s
  obtain ⟨l, hs, e⟩ := YI8 e
  split at e
  ·rename_i id hid
   split at e
   ·rename_i hc
    cases e
    obtain ⟨h1, h2, h3⟩ := hc
    have hlt := (List.getElem?_eq_some_iff.1 h2).1
    by_cases h0 : l.length < 2
    ·rw [Yht h0, Js6 h2, ← h1]
     refine FnAt.c (FnAt.run (by kernel_rfl) (T := ⟨[], []⟩) ⟨trivial, trivial⟩ Tryz.func81 sw81 fun ho hh => ?_)
     simp only [qMC, Bool.and_eq_true] at ho
     have f1 := hs.fx ho.1 (sz := 32) rfl
     have g0 : ((l.length : Int) < 2) = True := eq_true (by omega)
     unfold w81
     simp only [XH8, QN9, X1r, zVq, simprocAttr, f1, g0]
     exact ⟨Bt.eq rfl (List.append_nil h), fun q => q.elim⟩
    have hS : rsl idR id l = .sl id 0 l.length l.length (some 32) := by unfold rsl; rw [if_neg (by omega)]; rfl
    rw [h1, hS]
    refine FnAt.c (FnAt.run (by kernel_rfl) (T := ⟨[⟨82, ZFq, fun _ => []⟩], []⟩) ⟨⟨JaE, trivial⟩, trivial⟩ Tryz.func81 sw81 fun ho hh => ?_)
    have hokS := fun L => Kdm (r := idR) hh id true L
    have hokZ := YSK hh
    have ld := fun (x : List AB) (o j : Nat) (hj : j < l.length) (q : o = j * 32) => Z2r (r := idR) h2 hj q x
    have g0 : ((l.length : Int) < 2) = False := eq_false (by omega)
    unfold w81
    simp only [XH8, QN9, X1r, zVq, simprocAttr, lenV, g0, false_implies, true_and]
    refine YMr (S := Nat) (fun k => l.length - k) (fun k => [.sl id 0 l.length l.length (some 32), .f (.func 82) [] []] ++ tp 3 ++ [.i .i64 k] ++ tp 60) (fun k => 0 < k ∧ k ≤ l.length ∧ ∀ j, 0 < j → j < k → ¬ l.getD j idR.d = l.getD (j - 1) idR.d) 1 ⟨Nat.one_pos, by omega, fun j a b => absurd a (by omega)⟩ (by simp only [X1r, zVq, simprocAttr]) fun k hk => ?_
    obtain ⟨hk0, hk1, hk2⟩ := hk
    by_cases hkl : k < l.length
    ·have g1 : ((k : Int) < (l.length : Int)) = True := eq_true (by omega)
     have g2 : (k - 1 < l.length) = True := eq_true (by omega)
     have e1 : IntKind.i64.wrap ((k : Int) + 1) = ((k + 1 : Nat) : Int) := ZL4 (by unfold In64; omega)
     have e2 : IntKind.i64.wrap ((k : Int) - 1) = ((k - 1 : Nat) : Int) := by
      have : (k : Int) - 1 = ((k - 1 : Nat) : Int) := by omega
      rw [this]
      exact ZL4 (by unfold In64; omega)
     have l1 := fun x => ld x (0 + k * 32) k hkl (by omega)
     have l2 := fun x => ld x (0 + (k - 1) * 32) (k - 1) (by omega) (by omega)
     simp only [QvR] at l1 l2
     have sK : slL 32 (.sl id 0 l.length l.length (some 32)) (some (.i .i64 (k : Int))) none none = some (.sl id (0 + k * 32) (l.length - k) (l.length - k) (some 32)) := by
      simp [slL, bnd, kcut, hkl, Nat.le_of_lt hkl, Nat.ne_of_gt hk0]
     simp only [X1r, X5W, zVq, simprocAttr, CO.tmps, Opd.tmps, optT, Nat.reducePow, Nat.reduceDiv, Nat.reduceMod, lenV, g1, g2, hkl, iadV, e1, e2, l1, l2, ZFq, ZK2, KBo, hokS, hokZ, AV.ok, Yn7, Zph, hlt, Nat.add_zero, if_true, true_and, decide_true, sK]
     refine ⟨fun q => ?_, fun q => ⟨k + 1, ⟨by omega, by omega, fun j a b => ?_⟩, by omega, Wk.refl _⟩⟩
     ·have hset : h.set id (resB idR true l) = h := Js6 h2
      refine YHj (S := Nat × Nat × List Dg) (fun s => l.length - s.1) (fun s => [.sl id 0 l.length l.length (some 32), .f (.func 82) [] []] ++ tp 3 ++ [.i .i64 s.2.1, .sl id (0 + k * 32) (l.length - k) (l.length - k) (some 32), .i .i64 s.1] ++ tp 58) (fun s => h.set id (resB idR true s.2.2) ++ []) (fun s => 0 < s.1 ∧ CmpSt (Eq (α := Dg)) l s.2.2 (k + s.1) s.2.1) (1, k, l) ⟨Nat.one_pos, CmpSt.first (Eq (α := Dg)) l idR.d hk0 hkl hk2 q⟩ (by rw [hset]; exact Bt.wk (by simp only [X1r, zVq, simprocAttr])) fun s hs => ?_
      obtain ⟨j, i, L⟩ := s
      obtain ⟨hj0, st⟩ := hs
      dsimp only at hj0 st ⊢
      have hL := st.len
      have hi := st.lt
      have hle := st.le
      have hi2 : (h.set id (resB idR true L))[id]? = some (resB idR true L) := List.getElem?_set_self hlt
      by_cases hjl : k + j < l.length
      ·have g3 : ((j : Int) < ((l.length - k : Nat) : Int)) = True := eq_true (by omega)
       have g4 : (j < l.length - k) = True := eq_true (by omega)
       have g5 : (j - 1 < l.length - k) = True := eq_true (by omega)
       have e3 : IntKind.i64.wrap ((j : Int) + 1) = ((j + 1 : Nat) : Int) := ZL4 (by unfold In64; omega)
       have e4 : IntKind.i64.wrap ((j : Int) - 1) = ((j - 1 : Nat) : Int) := by
        have : (j : Int) - 1 = ((j - 1 : Nat) : Int) := by omega
        rw [this]
        exact ZL4 (by unfold In64; omega)
       have e5 : IntKind.i64.wrap ((i : Int) + 1) = ((i + 1 : Nat) : Int) := ZL4 (by unfold In64; omega)
       have q1 := fun x => Z2r (r := idR) (o := 0 + (k * 32 + j * 32)) (j := k + j) hi2 (by omega) (by rw [QvR]; omega) x
       have q2 := fun x => Z2r (r := idR) (o := 0 + (k * 32 + (j - 1) * 32)) (j := k + j - 1) hi2 (by omega) (by rw [QvR]; omega) x
       simp only [QvR, st.getD (Eq (α := Dg)) idR.d (show k + j - 1 ≤ k + j by omega), st.getD (Eq (α := Dg)) idR.d (Nat.le_refl (k + j - 1))] at q1 q2
       simp only [X1r, X5W, zVq, simprocAttr, CO.tmps, Opd.tmps, optT, Nat.reducePow, Nat.reduceDiv, Nat.reduceMod, lenV, g3, g4, g5, iadV, e3, e4, e5, q1, q2, ZFq, ZK2, KBo, hokS, hokZ, AV.ok, Yn7, Zph, hlt, List.length_set, Nat.add_zero, if_true, true_and, decide_true]
       have q3 := fun x => QTq (r := idR) (o := 0 + i * 32) (j := i) (y := l.getD (k + j) idR.d) hi2 (by omega) (by rw [QvR]; omega) (Ydx _) x
       have g6 : (i < l.length) = True := eq_true (by omega)
       simp only [QvR, List.set_set] at q3
       simp only [X1r, X5W, zVq, simprocAttr, CO.tmps, Opd.tmps, optT, Nat.reducePow, Nat.reduceDiv, Nat.reduceMod, lenV, g4, g6, iadV, q1, q3, e3, e5, false_implies]
       exact ⟨fun q => ⟨(j + 1, i + 1, L.set i (l.getD (k + j) idR.d)), ⟨Nat.succ_pos _, st.keep (Eq (α := Dg)) idR.d hjl q⟩, by dsimp only; omega, Bt.wk (by simp only [X1r, zVq, simprocAttr])⟩, fun q => ⟨(j + 1, i, L), ⟨Nat.succ_pos _, st.skip (Eq (α := Dg)) idR.d hjl (Classical.not_not.1 q)⟩, by dsimp only; omega, Bt.wk (by simp only [X1r, zVq, simprocAttr])⟩⟩
      ·have g3 : ((j : Int) < ((l.length - k : Nat) : Int)) = False := eq_false (by omega)
       simp only [X1r, zVq, simprocAttr, lenV, g3, false_implies, true_and]
       have g6 : (i < l.length) = True := eq_true (by omega)
       have sI : slL 32 (.sl id 0 l.length l.length (some 32)) (some (.i .i64 (i : Int))) none none = some (.sl id (0 + i * 32) (l.length - i) (l.length - i) (some 32)) := by
        have i0 : i < l.length := by omega
        simp [slL, bnd, kcut, i0, Nat.le_of_lt i0, Nat.ne_of_gt st.pos]
       have sJ : slL 32 (.sl id 0 l.length l.length (some 32)) none (some (.i .i64 (i : Int))) none = some (.sl id 0 i l.length (some 32)) := by
        have i0 : i ≤ l.length := by omega
        simp [slL, bnd, kcut, i0]
       have zi : ∀ (zl : List AV), zl = idR.f KFp → ∀ x, clrV (h.set id (resB idR true L) ++ x) zl (.sl id (0 + i * 32) (l.length - i) (l.length - i) (some 32)) = some (.tu [], h.set id (resB idR true (L.take i ++ List.replicate (l.length - i) KFp)) ++ x) := fun zl hz x => by
        rw [hz, zJG hi2 (by omega) (by omega), List.set_set]
       have zj := zi _ (show (List.replicate 32 (AV.i .u8 0)) = idR.f KFp from rfl)
       simp only [List.replicate, List.cons_append, List.nil_append] at zj
       simp only [X1r, zVq, simprocAttr, sI, sJ, Jss, zj]
       have hm : (L.take i ++ List.replicate (l.length - i) KFp).take i = cpI l := by
        rw [List.take_left' (by rw [List.length_take]; omega), st.hd]
        have : k + j = l.length := by omega
        rw [this, List.take_length]
        rfl
       exact ZVj hlt (by rw [List.length_append, List.length_take, List.length_replicate]; omega) (by omega) (by omega) hm
     ·rcases Nat.eq_or_lt_of_le (Nat.le_of_lt_succ b) with z | z
      ·subst z; exact q
      ·exact hk2 j a z
    ·have g1 : ((k : Int) < (l.length : Int)) = False := eq_false (by omega)
     simp only [X1r, zVq, simprocAttr, lenV, g1, false_implies, true_and]
     have hk3 : k = l.length := by omega
     have ha : cpI l = l := by
      unfold cpI
      have := z69 (Eq (α := Dg)) l idR.d l.length (Nat.le_refl _) (by rw [← hk3]; exact hk2)
      rwa [List.take_length] at this
     rw [ha, hS, Js6 h2]
     exact Bt.eq rfl (List.append_nil h)
   ·cases e
  ·cases e
 ·cases e
theorem qVO : Spec Tryz.prog 28 QrX := by
 intro args h v h' e
 unfold QrX at e
 split at e
 ·rename_i l s t
  obtain ⟨hs, hl, e⟩ := YI8 e
  obtain ⟨xs, hv, e⟩ := YI8 e
  obtain ⟨ds, hd, e⟩ := YI8 e
  split at e
  ·rename_i hL
   refine FnAt.c (FnAt.run (by kernel_rfl) (T := ⟨[⟨31, X7Q, fun _ => []⟩, ⟨79, ZUk, fun _ => []⟩, ⟨81, z7M, fun _ => []⟩], []⟩) ⟨⟨zRg, zJ5, qY6, trivial⟩, trivial⟩ Tryz.func28 sw28 fun ho hh => ?_)
   simp only [qMC, JAX, Bool.and_eq_true] at ho
   have f1 := hl.fx ho.1.1 (sz := 34) rfl
   have f2 := hv.fx ho.1.2.1 (sz := 1) rfl
   have f3 := hd.fx ho.1.2.2.1 (sz := 2) rfl
   have hL' : (hs.length ≤ 1000000) = True := eq_true (by omega)
   unfold w28
   by_cases c : Kq6 hs xs ds = 0
   case neg =>
    rw [if_neg c] at e
    cases e
    have c' := eq_false c
    simp only [XH8, QN9, X1r, X5W, zVq, simprocAttr, CO.tmps, Opd.tmps, optT, Nat.reducePow, Nat.reduceDiv, Nat.reduceMod, f1, f2, f3, X7Q, c', hL', ne_eq, not_false_eq_true, not_true_eq_false, decide_true, decide_false]
    exact Bt.drop _ hh rfl (by simp only [qMC, YI0, Yiy, Bool.and_true])
   rw [if_pos c] at e
   cases e
   simp only [XH8, QN9, X1r, X5W, zVq, simprocAttr, CO.tmps, Opd.tmps, optT, Nat.reducePow, Nat.reduceDiv, Nat.reduceMod, f1, f2, f3, X7Q, c, hL', ne_eq, not_false_eq_true, not_true_eq_false, decide_true, decide_false]
   have up : ∀ (t : AV), t.ok (fun i => decide (i < h.length)) = true → ∀ c, t.ok (fun i => decide (i < h.length + c)) = true := fun t ht c => AV.ok_mono (fun i q => by simp only [decide_eq_true_eq] at q ⊢; omega) t ht
   have rn : ∀ (t : AV), t.ok (fun i => decide (i < h.length)) = true → ∀ sel, Wk (t.ren (selN h.length sel)) t := fun t ht sel => Wk.ren (fun i hi => Xdk hi) ht
   have fo := fun c => And.intro (up l ho.1.1 c) (And.intro (up s ho.1.2.1 c) (up t ho.1.2.2.1 c))
   have fr := fun sel => And.intro (rn l ho.1.1 sel) (And.intro (rn s ho.1.2.1 sel) (rn t ho.1.2.2.1 sel))
   have hS : ∃ Sm : Nat → AV, (∀ i, i < hs.length → Sm i = apS idR (h.length + 1) ((hs.take i).map (·.2))) ∧ Sm hs.length = rsl idR (h.length + 1) (hs.map (·.2)) := ⟨fun i => if i < hs.length then apS idR (h.length + 1) ((hs.take i).map (·.2)) else rsl idR (h.length + 1) (hs.map (·.2)), fun i hi => if_pos hi, if_neg (Nat.lt_irrefl _)⟩
   obtain ⟨Sm, s1, s2⟩ := hS
   refine YHj (S := Nat) (fun i => hs.length - i) (fun i => tp 2 ++ [Sm i] ++ tp 6 ++ [l, .i .i64 hs.length, .i .i64 i] ++ tp 13) (fun i => h ++ [.blk false true [l, s, t], resB idR true ((hs.take i).map (·.2))]) (fun i => i ≤ hs.length) 0 (Nat.zero_le _) ?_ fun i hi => ?_
   ·show Bt _ _ _ _ _ (h ++ ([.blk false true [l, s, t]] ++ List.replicate 1 .dead))
    rw [← List.append_assoc]
    refine Bt.trans (Bt.wk ?_) (Bt.pad _ _ 1)
    have z : Wk (Sm 0) .ns := by
     by_cases q : 0 < hs.length
     ·rw [s1 0 q]; exact Wk.refl _
     ·have : hs = [] := List.eq_nil_of_length_eq_zero (by omega)
      subst this
      rw [show (0 : Nat) = ([] : List Hd).length from rfl, s2]
      exact Wk.nil _ _
    simp only [X1r, zVq, simprocAttr, z]
   ·by_cases gi : i < hs.length
    ·have gi' := eq_true gi
     have e1 : IntKind.i64.wrap ((i : Int) + 1) = ((i + 1 : Nat) : Int) := ZL4 (by unfold In64; omega)
     have hst : (hs.take (i + 1)).map (·.2) = (hs.take i).map (·.2) ++ [(hs.getD i qjO.d).2] := by
      rw [List.take_succ_eq_append_getElem gi, List.map_append, List.getD_eq_getElem?_getD, List.getElem?_eq_getElem gi]
      rfl
     have lo : ((hs.take i).map (·.2)).length = i := by rw [List.length_map, List.length_take]; omega
     have sN : Sm (i + 1) = rsl idR (h.length + 1) ((hs.take (i + 1)).map (·.2)) := by
      by_cases q : i + 1 < hs.length
      ·rw [s1 _ q, J0z _ (by rw [List.length_map, List.length_take]; omega)]
      ·have : i + 1 = hs.length := by omega
       rw [this, s2, List.take_length]
     rw [hst] at sN
     rw [s1 i gi]
     generalize hx : hs.getD i qjO.d = x at *
     generalize ho : (hs.take i).map (·.2) = o at *
     have f5 : ∀ (a1 a2 : AB) (y : List AB), ldV (h ++ (a1 :: a2 :: .blk true true (qjO.f x) :: y)) (some 32) (.p (h.length + 2) 2) = some (.ag (idR.f x.2)) := fun a1 a2 y => by
      rw [Jty]
      simp only [Yv6, JaU, Option.bind_some, zp7]
      rw [if_pos (by decide), qfY]
     by_cases hB : o = []
     ·have z3 : (1 * 32 ≤ 140737488355328 ∧ 1 ≤ maxLen) = True := eq_true ⟨by decide, by unfold maxLen; omega⟩
      simp only [hB, ZLN, X1r, X5W, zVq, simprocAttr, CO.tmps, Opd.tmps, optT, Nat.reducePow, Nat.reduceDiv, Nat.reduceMod, f1, f2, f3, f5, gi', hx, XEe, zp7, ZOt, Ydx, XwU, Kb6, Ke3, List.length_cons, List.length_nil, e1, z3]
      refine ⟨i + 1, gi, by dsimp only; omega, ?_⟩
      simp only [sN, hst, hB, List.nil_append, JfL, KvS]
      exact Bt.sel [0, 4] hh (by decide) (by simp only [q9C, FrSel, BlkSel, AV.ren, renL, AV.ok, okL, Option.some.injEq, exists_eq_left', List.length_cons, List.length_nil, Nat.reduceAdd, Nat.reduceLT, reduceCtorEq, implies_true, exists_eq', fo, fr]) (by simp only [q9C, FrSel, BlkSel, AV.ren, renL, AV.ok, okL, Option.some.injEq, exists_eq_left', List.length_cons, List.length_nil, Nat.reduceAdd, Nat.reduceLT, reduceCtorEq, implies_true, exists_eq', fo, fr, QvR])
     ·have hlB : o.length ≠ 0 := fun q => hB (List.eq_nil_of_length_eq_zero q)
      have gr : ∀ id, apS idR id o = rsl idR id o := fun id => J0z _ hlB
      have fa := fun L k ys hb => KDi (h := h) (p := h.length) rfl (r := idR) (sz := 32) rfl L k o 32 1 ys hlB hb (by decide) (by omega) (by unfold maxLen; omega)
      simp only [gr, X1r, X5W, zVq, simprocAttr, CO.tmps, Opd.tmps, optT, Nat.reducePow, Nat.reduceDiv, Nat.reduceMod, f1, f2, f3, f5, gi', hx, XEe, zp7, ZOt, Ydx, XwU, Kb6, Ke3, List.length_cons, List.length_nil, e1, fa]
      refine ⟨i + 1, gi, by dsimp only; omega, ?_⟩
      simp only [sN, hst, JQ6, zbl]
      exact Bt.sel [0, 4] hh (by decide) (by simp only [q9C, FrSel, BlkSel, AV.ren, renL, AV.ok, okL, Option.some.injEq, exists_eq_left', List.length_cons, List.length_nil, Nat.reduceAdd, Nat.reduceLT, reduceCtorEq, implies_true, exists_eq', fo, fr]) (by simp only [q9C, FrSel, BlkSel, AV.ren, renL, AV.ok, okL, Option.some.injEq, exists_eq_left', List.length_cons, List.length_nil, Nat.reduceAdd, Nat.reduceLT, reduceCtorEq, implies_true, exists_eq', fo, fr, QvR])
    ·obtain rfl : i = hs.length := by omega
     have gi' := eq_false gi
     have hlm : ((hs.map (·.2)).length ≤ 1000000) = True := eq_true (by rw [List.length_map]; omega)
     have hls : ((sortP cmpG (hs.map (·.2))).length ≤ 1000000) = True := eq_true (by rw [zMn XSX, List.length_map]; omega)
     have hsr : ∀ id, rsl idR id (hs.map (·.2)) = rsl idR id (sortP cmpG (hs.map (·.2))) := fun id => by unfold rsl; rw [zMn XSX]
     rw [s2, List.take_length]
     simp only [X1r, X5W, zVq, simprocAttr, CO.tmps, Opd.tmps, optT, Nat.reducePow, Nat.reduceDiv, Nat.reduceMod, f1, f2, f3, gi', ZUk, z7M, hlm, qPj, XPg, zw7]
     have hD : cpI (sortP cmpG (hs.map (·.2))) = dgsL hs := rfl
     simp only [hsr, X1r, zVq, simprocAttr, z7M, hls, hD, qPj, XPg, zw7]
     exact Bt.sel [1] hh (by decide) (by simp only [q9C, FrSel, BlkSel, AV.ren, renL, AV.ok, okL, Option.some.injEq, exists_eq_left', List.length_cons, List.length_nil, Nat.reduceAdd, Nat.reduceLT, reduceCtorEq, implies_true, exists_eq']) (by simp only [q9C, FrSel, BlkSel, AV.ren, renL, AV.ok, okL, Option.some.injEq, exists_eq_left', List.length_cons, List.length_nil, Nat.reduceAdd, Nat.reduceLT, reduceCtorEq, implies_true, exists_eq'])
  ·cases e
 ·cases e
end Go.Proofs.YtfaccliekejngaaGreat
end
section
namespace Go.Proofs.YtfaccliekejngaaGreat
section
theorem ZLO : ∀ (l : List Dg) (p : Dg), (p :: l).Pairwise (fun x y => ¬ cmpG y x < 0) → (p :: cmps Eq p l).Pairwise Q9r ∧ ∀ d, d ∈ p :: cmps Eq p l ↔ d ∈ p :: l
 | [], p, _ => ⟨List.pairwise_singleton _ _, fun d => by simp [cmps]⟩
 | x :: l, p, h => by
  have hc := List.pairwise_cons.1 h
  have hx := List.pairwise_cons.1 hc.2
  by_cases e : x = p
  ·subst e
   have ih := ZLO l x hc.2
   have e2 : cmps Eq x (x :: l) = cmps Eq x l := by simp [cmps]
   rw [e2]
   exact ⟨ih.1, fun d => by rw [ih.2]; simp⟩
  ·have ih := ZLO l x hc.2
   have e2 : cmps Eq p (x :: l) = x :: cmps Eq x l := by simp [cmps, e]
   rw [e2]
   have hpx : Q9r p x := by
    rcases qox p x with q | q | q
    ·exact q
    ·exact absurd q.symm e
    ·exact absurd q (hc.1 x (.head _))
   refine ⟨List.pairwise_cons.2 ⟨fun y hy => ?_, ih.1⟩, fun d => by rw [List.mem_cons, ih.2, List.mem_cons, List.mem_cons, List.mem_cons]⟩
   rcases List.mem_cons.1 hy with rfl | hy'
   ·exact hpx
   ·exact J4F.tr hpx ((List.pairwise_cons.1 ih.1).1 y hy')
theorem Yks (hs : List Hd) : (dgsL hs).Pairwise Q9r ∧ ∀ d, d ∈ dgsL hs ↔ ∃ x ∈ hs, x.2 = d := by
 have hp := YRI XSX (hs.map (·.2))
 have hr := KIG XSX (hs.map (·.2))
 have hm : ∀ d, d ∈ sortP cmpG (hs.map (·.2)) ↔ ∃ x ∈ hs, x.2 = d := fun d => by rw [hp.mem_iff, List.mem_map]
 unfold dgsL
 generalize sortP cmpG (hs.map (·.2)) = l at hr hm
 cases l with
 | nil => exact ⟨List.Pairwise.nil, hm⟩
 | cons p l =>
  obtain ⟨h1, h2⟩ := ZLO l p hr
  exact ⟨h1, fun d => by rw [← hm]; exact h2 d⟩
end
end Go.Proofs.YtfaccliekejngaaGreat
end
section
namespace Go.Proofs.YtfaccliekejngaaGreat
open Go.Sort
set_option maxRecDepth 100000
set_option maxHeartbeats 4000000
noncomputable def Y7a : List AV → List AB → Option (AV × List AB)
 | [s, y], h => (getS idR h s).bind fun l => (getI y).bind fun x => some (.i .i64 (idx (fun z : Dg => x = z) l), h)
 | _, _ => none
theorem Xo9 : Spec Tryz.prog 127 Y7a := by
 intro args h v h' e
 unfold Y7a at e
 split at e
 ·rename_i s y
  obtain ⟨l, hl, e⟩ := YI8 e
  obtain ⟨x, hx, e2⟩ := Kky e
  clear e
  subst hx
  cases e2
  refine FnAt.c (FnAt.frz0 fun hz => ?_)
  replace hl := hl.frz
  generalize h.map AB.freeze = h at *
  refine FnAt.run (by kernel_rfl) (T := ⟨[], []⟩) ⟨trivial, trivial⟩ Tryz.func127 zF4 fun ho hh => ?_
  simp only [qMC, JAX, Bool.and_eq_true] at ho
  have f1 := hl.fx ho.1 (sz := 32) rfl
  unfold w127
  simp only [XH8, QN9, X1r, X5W, zVq, simprocAttr, CO.tmps, Opd.tmps, optT, Nat.reducePow, Nat.reduceDiv, Nat.reduceMod, f1, Ydx, XwU, Kb6, Ke3]
  refine YMr (S := Nat) (fun i => l.length - i) (fun i => [s] ++ tp 2 ++ [.p (h.length + 0) 0] ++ tp 3 ++ [.i .i64 l.length, .i .i64 i] ++ tp 10) (fun i => i ≤ l.length ∧ idx (fun z : Dg => x = z) l = XBh (fun z : Dg => x = z) (l.drop i) i) 0 ⟨Nat.zero_le _, rfl⟩ (by simp only [X1r, zVq, simprocAttr]) fun i hi => ?_
  by_cases gi : i < l.length
  ·have gi' := eq_true gi
   have e1 : IntKind.i64.wrap ((i : Int) + 1) = ((i + 1 : Nat) : Int) := ZL4 (by have := hl.2; unfold maxLen at this; unfold In64; omega)
   have e2 := qVK (fun z : Dg => x = z) idR.d i gi
   generalize hy : l.getD i idR.d = y at *
   simp only [X1r, X5W, zVq, simprocAttr, CO.tmps, Opd.tmps, optT, Nat.reducePow, Nat.reduceDiv, Nat.reduceMod, f1, gi', e1, hy, QLO, Zph, Ydx, XwU, Kb6, Ke3, QNE hh, QFK hz, K9V hz, Ksi hz]
   refine ⟨fun q => Bt.dropI _ hh (by rw [hi.2, e2, if_pos q]), fun q => ⟨i + 1, ⟨gi, by rw [hi.2, e2, if_neg q]⟩, by omega, Wk.refl _⟩⟩
  ·obtain rfl : i = l.length := by omega
   have gi' := eq_false gi
   simp only [X1r, X5W, zVq, simprocAttr, CO.tmps, Opd.tmps, optT, Nat.reducePow, Nat.reduceDiv, Nat.reduceMod, f1, gi']
   exact Bt.dropI _ hh (by rw [hi.2, List.drop_eq_nil_of_le (Nat.le_refl _)]; rfl)
 ·cases e
noncomputable def XyZ : List AV → List AB → Option (AV × List AB)
 | [s, y], h => (getS idR h s).bind fun l => (getI y).bind fun x => some (.b (decide (x ∈ l)), h)
 | _, _ => none
theorem XQk : Spec Tryz.prog 87 XyZ := by
 intro args h v h' e
 unfold XyZ at e
 split at e
 ·rename_i s y
  obtain ⟨l, hl, e⟩ := YI8 e
  obtain ⟨x, hx, e2⟩ := Kky e
  clear e
  subst hx
  cases e2
  refine FnAt.c (FnAt.run (by kernel_rfl) (T := ⟨[⟨127, Y7a, fun _ => []⟩], []⟩) ⟨⟨Xo9, trivial⟩, trivial⟩ Tryz.func87 sw87 fun ho hh => ?_)
  simp only [qMC, JAX, Bool.and_eq_true] at ho
  have f1 := hl.fx ho.1 (sz := 32) rfl
  unfold w87
  simp only [XH8, QN9, X1r, X5W, zVq, simprocAttr, CO.tmps, Opd.tmps, optT, Nat.reducePow, Nat.reduceDiv, Nat.reduceMod, f1, Y7a, ZK2, Ydx, XwU, Kb6, Ke3]
  exact Bt.dropB _ hh (decide_eq_decide.2 ((zpY _ l).trans ⟨fun ⟨z, h1, h2⟩ => by rw [h2]; exact h1, fun q => ⟨_, q, rfl⟩⟩))
 ·cases e
noncomputable def Xko : List AV → List AB → Option (AV × List AB)
 | [s, y], h => (getS qjO h s).bind fun l => (getH y).bind fun x => some (.i .i64 (idx (fun z : Hd => x = z) l), h)
 | _, _ => none
theorem Jh8 : Spec Tryz.prog 106 Xko := by
 intro args h v h' e
 unfold Xko at e
 split at e
 ·rename_i s y
  obtain ⟨l, hl, e⟩ := YI8 e
  obtain ⟨x, hx, e2⟩ := KFu e
  clear e
  subst hx
  cases e2
  refine FnAt.c (FnAt.frz0 fun hz => ?_)
  replace hl := hl.frz
  generalize h.map AB.freeze = h at *
  refine FnAt.run (by kernel_rfl) (T := ⟨[], []⟩) ⟨trivial, trivial⟩ Tryz.func106 qe5 fun ho hh => ?_
  simp only [qMC, JAX, Bool.and_eq_true] at ho
  have f1 := hl.fx ho.1 (sz := 34) rfl
  unfold w106
  simp only [XH8, QN9, X1r, X5W, zVq, simprocAttr, CO.tmps, Opd.tmps, optT, Nat.reducePow, Nat.reduceDiv, Nat.reduceMod, f1, XEe, zp7, ZOt, Ke3]
  refine YMr (S := Nat) (fun i => l.length - i) (fun i => [s] ++ tp 2 ++ [.p (h.length + 0) 0] ++ tp 3 ++ [.i .i64 l.length, .i .i64 i] ++ tp 10) (fun i => i ≤ l.length ∧ idx (fun z : Hd => x = z) l = XBh (fun z : Hd => x = z) (l.drop i) i) 0 ⟨Nat.zero_le _, rfl⟩ (by simp only [X1r, zVq, simprocAttr]) fun i hi => ?_
  by_cases gi : i < l.length
  ·have gi' := eq_true gi
   have e1 : IntKind.i64.wrap ((i : Int) + 1) = ((i + 1 : Nat) : Int) := ZL4 (by have := hl.2; unfold maxLen at this; unfold In64; omega)
   have e2 := qVK (fun z : Hd => x = z) qjO.d i gi
   generalize hy : l.getD i qjO.d = y at *
   simp only [X1r, X5W, zVq, simprocAttr, CO.tmps, Opd.tmps, optT, Nat.reducePow, Nat.reduceDiv, Nat.reduceMod, f1, gi', e1, hy, ZK0, KJo, XEe, zp7, ZOt, Ke3, QNE hh, QFK hz, K9V hz, Ksi hz]
   refine ⟨fun q => Bt.dropI _ hh (by rw [hi.2, e2, if_pos q]), fun q => ⟨i + 1, ⟨gi, by rw [hi.2, e2, if_neg q]⟩, by omega, Wk.refl _⟩⟩
  ·obtain rfl : i = l.length := by omega
   have gi' := eq_false gi
   simp only [X1r, X5W, zVq, simprocAttr, CO.tmps, Opd.tmps, optT, Nat.reducePow, Nat.reduceDiv, Nat.reduceMod, f1, gi']
   exact Bt.dropI _ hh (by rw [hi.2, List.drop_eq_nil_of_le (Nat.le_refl _)]; rfl)
 ·cases e
noncomputable def zi2 : List AV → List AB → Option (AV × List AB)
 | [s, y], h => (getS qjO h s).bind fun l => (getH y).bind fun x => some (.b (decide (x ∈ l)), h)
 | _, _ => none
theorem zyY : Spec Tryz.prog 57 zi2 := by
 intro args h v h' e
 unfold zi2 at e
 split at e
 ·rename_i s y
  obtain ⟨l, hl, e⟩ := YI8 e
  obtain ⟨x, hx, e2⟩ := KFu e
  clear e
  subst hx
  cases e2
  refine FnAt.c (FnAt.run (by kernel_rfl) (T := ⟨[⟨106, Xko, fun _ => []⟩], []⟩) ⟨⟨Jh8, trivial⟩, trivial⟩ Tryz.func57 sw57 fun ho hh => ?_)
  simp only [qMC, JAX, Bool.and_eq_true] at ho
  have f1 := hl.fx ho.1 (sz := 34) rfl
  unfold w57
  simp only [XH8, QN9, X1r, X5W, zVq, simprocAttr, CO.tmps, Opd.tmps, optT, Nat.reducePow, Nat.reduceDiv, Nat.reduceMod, f1, Xko, KDg, XEe, zp7, ZOt, Ke3]
  exact Bt.dropB _ hh (decide_eq_decide.2 ((zpY _ l).trans ⟨fun ⟨z, h1, h2⟩ => by rw [h2]; exact h1, fun q => ⟨_, q, rfl⟩⟩))
 ·cases e
noncomputable def XxL : List AV → List AB → Option (AV × List AB)
 | [s, .ag [.i .i64 a, .i .i64 b]], h => (getS dotR h s).bind fun l => some (.i .i64 (idx (fun z : (Int × Int) => (a, b) = z) l), h)
 | _, _ => none
theorem XCP : Spec Tryz.prog 129 XxL := by
 intro args h v h' e
 unfold XxL at e
 split at e
 ·rename_i s a b
  obtain ⟨l, hl, e⟩ := YI8 e
  cases e
  refine FnAt.c (FnAt.frz0 fun hz => ?_)
  replace hl := hl.frz
  generalize h.map AB.freeze = h at *
  refine FnAt.run (by kernel_rfl) (T := ⟨[], []⟩) ⟨trivial, trivial⟩ Tryz.func129 Xia fun ho hh => ?_
  simp only [qMC, JAX, Bool.and_eq_true] at ho
  have f1 := hl.fx ho.1 (sz := 2) rfl
  unfold w129
  simp only [XH8, QN9, X1r, X5W, zVq, simprocAttr, CO.tmps, Opd.tmps, optT, Nat.reducePow, Nat.reduceDiv, Nat.reduceMod, f1]
  refine YMr (S := Nat) (fun i => l.length - i) (fun i => [s] ++ tp 2 ++ [.p (h.length + 0) 0] ++ tp 3 ++ [.i .i64 l.length, .i .i64 i] ++ tp 10) (fun i => i ≤ l.length ∧ idx (fun z : (Int × Int) => (a, b) = z) l = XBh (fun z : (Int × Int) => (a, b) = z) (l.drop i) i) 0 ⟨Nat.zero_le _, rfl⟩ (by simp only [X1r, zVq, simprocAttr]) fun i hi => ?_
  by_cases gi : i < l.length
  ·have gi' := eq_true gi
   have e1 : IntKind.i64.wrap ((i : Int) + 1) = ((i + 1 : Nat) : Int) := ZL4 (by have := hl.2; unfold maxLen at this; unfold In64; omega)
   have e2 := qVK (fun z : (Int × Int) => (a, b) = z) dotR.d i gi
   generalize hy : l.getD i dotR.d = y at *
   simp only [X1r, X5W, zVq, simprocAttr, CO.tmps, Opd.tmps, optT, Nat.reducePow, Nat.reduceDiv, Nat.reduceMod, f1, gi', e1, hy, eqcG, KdD, QNE hh, QFK hz, K9V hz, Ksi hz]
   refine ⟨fun q => Bt.dropI _ hh (by rw [hi.2, e2, if_pos (Prod.ext q.1 q.2)]), fun q => ⟨i + 1, ⟨gi, by rw [hi.2, e2, if_neg fun z => q (by rw [← z]; exact ⟨rfl, rfl⟩)]⟩, by omega, Wk.refl _⟩⟩
  ·obtain rfl : i = l.length := by omega
   have gi' := eq_false gi
   simp only [X1r, X5W, zVq, simprocAttr, CO.tmps, Opd.tmps, optT, Nat.reducePow, Nat.reduceDiv, Nat.reduceMod, f1, gi']
   exact Bt.dropI _ hh (by rw [hi.2, List.drop_eq_nil_of_le (Nat.le_refl _)]; rfl)
 ·cases e
noncomputable def Jjd : List AV → List AB → Option (AV × List AB)
 | [s, .ag [.i .i64 a, .i .i64 b]], h => (getS dotR h s).bind fun l => some (.b (decide ((a, b) ∈ l)), h)
 | _, _ => none
theorem YSz : Spec Tryz.prog 90 Jjd := by
 intro args h v h' e
 unfold Jjd at e
 split at e
 ·rename_i s a b
  obtain ⟨l, hl, e⟩ := YI8 e
  cases e
  refine FnAt.c (FnAt.run (by kernel_rfl) (T := ⟨[⟨129, XxL, fun _ => []⟩], []⟩) ⟨⟨XCP, trivial⟩, trivial⟩ Tryz.func90 sw90 fun ho hh => ?_)
  simp only [qMC, JAX, Bool.and_eq_true] at ho
  have f1 := hl.fx ho.1 (sz := 2) rfl
  unfold w90
  simp only [XH8, QN9, X1r, X5W, zVq, simprocAttr, CO.tmps, Opd.tmps, optT, Nat.reducePow, Nat.reduceDiv, Nat.reduceMod, f1, XxL]
  exact Bt.dropB _ hh (decide_eq_decide.2 ((zpY _ l).trans ⟨fun ⟨z, h1, h2⟩ => by rw [h2]; exact h1, fun q => ⟨_, q, rfl⟩⟩))
 ·cases e
theorem QvZ {h : List AB} {α : Type} {r : Row α} (l : List α) (L : List AB) (k : Nat) (hk : (h ++ L)[h.length + k]? = some (resB r true l)) (hm : l.length ≤ maxLen) : getS r (h ++ L) (apS r (h.length + k) l) = some l := by
 by_cases h0 : l.length = 0
 ·have : l = [] := List.eq_nil_of_length_eq_zero h0
  subst this
  rw [ZLN, zlS]
 ·rw [J0z _ h0]
  exact (zRx hk hm).get
noncomputable def zSr : List AV → List AB → Option (AV × List AB)
 | [.ag [l, s, t], y], h => (getS qjO h l).bind fun hs => (getS intR h s).bind fun v => (getS dotR h t).bind fun ds => (getI y).bind fun i => if hs.length ≤ 100000 then some (.b (decide (Kq6 hs v ds = 0 ∧ ∃ x ∈ hs, x.2 = i)), h) else none
 | _, _ => none
theorem J2q : Spec Tryz.prog 33 zSr := by
 intro args h v h' e
 unfold zSr at e
 split at e
 ·rename_i l s t y
  obtain ⟨hs, hl, e⟩ := YI8 e
  obtain ⟨xs, hv, e⟩ := YI8 e
  obtain ⟨ds, hd, e⟩ := YI8 e
  obtain ⟨i, hi, e2⟩ := Kky e
  clear e
  subst hi
  split at e2
  ·rename_i hL
   cases e2
   refine FnAt.c (FnAt.frz0 fun hz => ?_)
   replace hl := hl.frz
   replace hv := hv.frz
   replace hd := hd.frz
   generalize h.map AB.freeze = h at *
   refine FnAt.run (by kernel_rfl) (T := ⟨[⟨28, QrX, fun _ => []⟩, ⟨87, XyZ, fun _ => []⟩], []⟩) ⟨⟨qVO, XQk, trivial⟩, trivial⟩ Tryz.func33 sw33 fun ho hh => ?_
   simp only [qMC, JAX, Bool.and_eq_true] at ho
   have f1 := hl.fx ho.1.1 (sz := 34) rfl
   have f2 := hv.fx ho.1.2.1 (sz := 1) rfl
   have f3 := hd.fx ho.1.2.2.1 (sz := 2) rfl
   have hL' := eq_true hL
   have hm : ((dgsL hs).length ≤ maxLen) = True := eq_true (by have := qPx hs; unfold maxLen; omega)
   unfold w33
   by_cases c : Kq6 hs xs ds = 0
   ·have hi := (Yks hs).2 i
    simp only [XH8, QN9, X1r, X5W, zVq, simprocAttr, CO.tmps, Opd.tmps, optT, Nat.reducePow, Nat.reduceDiv, Nat.reduceMod, f1, f2, f3, QrX, XyZ, ZK2, c, hL', hm, Zph, true_and, YaF, zw7, QV1, Ydx, XwU, Kb6, Ke3, QNE hh, QFK hz, K9V hz, Ksi hz]
    exact Bt.dropB _ hh (decide_eq_decide.2 hi)
   ·have c' := eq_false c
    simp only [XH8, QN9, X1r, X5W, zVq, simprocAttr, CO.tmps, Opd.tmps, optT, Nat.reducePow, Nat.reduceDiv, Nat.reduceMod, f1, f2, f3, QrX, XyZ, ZK2, zlS, c', hL', Zph, true_and, false_and, Ydx, XwU, Kb6, Ke3, QNE hh, QFK hz, K9V hz, Ksi hz]
    exact Bt.dropB _ hh (by simp)
  ·cases e2
 ·cases e
noncomputable def KNI : List AV → List AB → Option (AV × List AB)
 | [y, .p j 0], h => match XAh h j with
  | some [s, t] => (getH y).bind fun x => (getS intR h s).bind fun v => (getS dotR h t).bind fun ds => some (.b (decide (¬ (KXy v ds = 0 ∧ YlY v ds x.1))), h)
  | _ => none
 | _, _ => none
theorem zRw : Spec Tryz.prog 105 KNI := by
 intro args h v h' e
 unfold KNI at e
 split at e
 ·rename_i y j
  split at e
  ·rename_i s t hb
   obtain ⟨x, hx, e2⟩ := KFu e
   clear e
   subst hx
   obtain ⟨vs, hs, e3⟩ := YI8 e2
   obtain ⟨ds, ht, e4⟩ := YI8 e3
   cases e4
   refine FnAt.c (FnAt.run (by kernel_rfl) (T := ⟨[⟨70, zEW, fun _ => []⟩], []⟩) ⟨⟨zUE, trivial⟩, trivial⟩ Tryz.func105 X58 fun ho hh => ?_)
   have fb := qee hb
   have k1 : ∀ x, getS intR (h ++ x) s = some vs := fun x => (hs.app x).get
   have k2 : ∀ x, getS dotR (h ++ x) t = some ds := fun x => (ht.app x).get
   have kd : ∀ z : Hd, (qjO.f z).take 2 = [.i .i64 z.1.1, .i .i64 z.1.2] := fun _ => rfl
   unfold w105
   simp only [XH8, QN9, X1r, X5W, zVq, simprocAttr, CO.tmps, Opd.tmps, optT, Nat.reducePow, Nat.reduceDiv, Nat.reduceMod, fb, k1, k2, kd, XEe, zp7, ZOt, Ke3, zEW]
   exact Bt.dropB _ hh rfl
  ·cases e
 ·cases e
def T_un : List AV → List AB → Option (AV × List AB)
 | [.ag [v, d]], h => if v.isSl = true ∧ d.isSl = true then some (.f (.func 105) [] [.p (h.length + 0) 0], h ++ [.blk false true [v, d]]) else none
 | _, _ => none
theorem zLX : Spec Tryz.prog 55 T_un := by
 intro args h v h' e
 unfold T_un at e
 split at e
 ·rename_i v d
  split at e
  ·rename_i hs
   cases e
   refine FnAt.c (FnAt.run (by kernel_rfl) (T := ⟨[], []⟩) ⟨trivial, trivial⟩ Tryz.func55 sw55 fun ho hh => ?_)
   unfold w55
   simp only [XH8, QN9, X1r, X5W, zVq, simprocAttr, CO.tmps, Opd.tmps, optT, Nat.reducePow, Nat.reduceDiv, Nat.reduceMod, Qwl hs.1, Qwl hs.2, YCL hs.1]
   exact Bt.eq rfl rfl
  ·cases e
 ·cases e
theorem q1Z (x y : Hd) : ∀ (h : List AB), FnC Tryz.prog 108 [.ag (qjO.f x), .ag (qjO.f y)] h (.i .i64 (cfH x y)) h := by
 intro h
 refine FnAt.c (FnAt.run (by kernel_rfl) (T := ⟨[⟨109, XpL, fun _ => []⟩], []⟩) ⟨⟨qam, trivial⟩, trivial⟩ Tryz.func108 qdQ fun ho hh => ?_)
 have kd : ∀ z : Hd, (qjO.f z).take 2 = [.i .i64 z.1.1, .i .i64 z.1.2] := fun _ => rfl
 unfold w108
 simp only [XH8, QN9, X1r, X5W, zVq, simprocAttr, CO.tmps, Opd.tmps, optT, Nat.reducePow, Nat.reduceDiv, Nat.reduceMod, kd, XEe, zp7, ZOt, Ke3, XpL]
 exact Bt.dropI _ hh rfl
theorem zEB : Cmps Tryz.prog 108 qjO cfH := fun x y h => q1Z x y h
open Classical in
noncomputable def qCZ : List AV → List AB → Option (AV × List AB)
 | [s, .f (.func 108) [] []], h => (getS qjO h s).bind fun l => match idOf s with
   | [id] => if l.length ≤ 1000000 ∧ s = rsl qjO id l ∧ h[id]? = some (resB qjO true l) then some (.tu [], h.set id (resB qjO true (sortP cfH l))) else none
   | _ => none
 | _, _ => none
theorem Z81 : Spec Tryz.prog 107 qCZ := by
 intro args h v h' e
 unfold qCZ at e
 split at e
 ·rename_i s
  obtain ⟨l, hs, e⟩ := YI8 e
  split at e
  ·rename_i id hid
   split at e
   ·rename_i hc
    cases e
    obtain ⟨h1, rfl, h3⟩ := hc
    exact JCS (r := qjO) Zi0 Tryz.isAgg66 Tryz.sizeOf66 qMF zEB Jxj K2f l h3 h1
   ·cases e
  ·cases e
 ·cases e
theorem YBe (id : Nat) (l : List Hd) : rsl qjO id (sortP cfH l) = rsl qjO id l := by
 unfold rsl
 rw [KRk]
open Classical in
noncomputable def YQi : List AV → List AB → Option (AV × List AB)
 | [s], h => (getS qjO h s).bind fun l => match idOf s with
   | [id] => if l.length ≤ 1000000 ∧ s = rsl qjO id l ∧ h[id]? = some (resB qjO true l) then some (rsl qjO id (sortP cfH l), h.set id (resB qjO true (sortP cfH l))) else none
   | _ => none
 | _, _ => none
theorem J3e : Spec Tryz.prog 58 YQi := by
 intro args h v h' e
 have e0 := e
 unfold YQi at e
 split at e
 ·rename_i s
  obtain ⟨l, hs, e⟩ := YI8 e
  split at e
  ·rename_i id hid
   split at e
   ·rename_i hc
    cases e
    obtain ⟨h1, h2, h3⟩ := hc
    refine FnAt.c (FnAt.run (by kernel_rfl) (T := ⟨[⟨107, qCZ, fun _ => []⟩], []⟩) ⟨⟨Z81, trivial⟩, trivial⟩ Tryz.func58 sw58 fun ho hh => ?_)
    have q : qCZ [s, .f (.func 108) [] []] (h ++ []) = some (.tu [], h.set id (resB qjO true (sortP cfH l))) := by
     rw [List.append_nil]
     simp only [qCZ, hs.get, Option.bind_some, hid]
     rw [if_pos ⟨h1, h2, h3⟩]
    unfold w58
    simp only [XH8, QN9, X1r, X5W, zVq, simprocAttr, CO.tmps, Opd.tmps, optT, Nat.reducePow, Nat.reduceDiv, Nat.reduceMod, q]
    exact Bt.eq (by rw [YBe, h2]) rfl
   ·cases e
  ·cases e
 ·cases e
def wsS : List AV → List Nat
 | [s] => idOf s
 | _ => []
theorem XZb {α : Type} {r : Row α} (i : Nat) (l : List α) : wsS [rsl r i l] = [i] := XPg i l
theorem Knz {h : List AB} (L : List AB) (k : Nat) (l : List Hd) (hk : ownM qjO l L k) (hl : l.length ≤ 1000000) : YQi [rsl qjO (h.length + k) l] (h ++ L) = some (rsl qjO (h.length + k) (sortP cfH l), h ++ L.set k (resB qjO true (sortP cfH l))) := by
 have h1 : (h ++ L)[h.length + k]? = some (resB qjO true l) := by rw [Yn6]; exact ZLZ l L k hk
 have g := (zRx h1 (by unfold maxLen; omega)).get
 simp only [YQi, g, Option.bind_some, XPg]
 rw [if_pos ⟨hl, rfl, h1⟩, zpT]
theorem Ya9 (h : List AB) (xs : List Hd) (h0 : xs.length = 0) : FnC Tryz.prog 73 [.se] h (rsl qjO h.length xs) (h ++ [resB qjO true xs]) := by
 refine FnAt.c (FnAt.run (by kernel_rfl) (T := ⟨[], []⟩) ⟨trivial, trivial⟩ Tryz.func73 sw73 fun ho hh => ?_)
 have fs : ∀ x : List AB, srcV (h ++ x) 34 .se = some (0, []) := fun _ => rfl
 unfold w73
 simp only [XH8, QN9, X1r, zVq, simprocAttr, fs]
 exact Bt.one 0 hh (fun _ => Wk.empty _ _ _ _ _ _) (by simp) (fun h => absurd h0 h)
theorem qvI (h : List AB) (xs : List Hd) (h0 : xs.length = 0) : FnC Tryz.prog 73 [.ns] h (rsl qjO h.length xs) (h ++ [resB qjO true xs]) := by
 refine FnAt.c (FnAt.run (by kernel_rfl) (T := ⟨[], []⟩) ⟨trivial, trivial⟩ Tryz.func73 sw73 fun ho hh => ?_)
 unfold w73
 simp only [XH8, QN9, X1r, zVq, simprocAttr]
 exact Bt.one0 h0 (Wk.nil _ _)
theorem QZy : Spec Tryz.prog 73 zLz := by
 intro args h v h' e
 unfold zLz at e
 split at e
 ·rename_i a
  obtain ⟨xs, ha, e⟩ := YI8 e
  split at e
  ·rename_i hl
   cases e
   by_cases hk : ∃ id off cap, a = .sl id off 0 cap (some 0)
   ·obtain ⟨id, off, cap, rfl⟩ := hk
    have h0 : xs.length = 0 := by have := ha.len; simp only [lenV, Option.some.injEq] at this; omega
    exact FnC.empty1 (qvI h xs h0) (Ya9 h xs h0)
   have hs := ha.isSl
   have hlen := ha.len
   cases a <;> first | (cases hs; done) | skip
   ·rename_i id off len cap k
    have hq : Y1v (.sl id off len cap k) .ns = some false := by
     rw [zON, if_neg]
     rintro ⟨rfl, rfl⟩
     exact hk ⟨_, _, _, rfl⟩
    refine FnAt.c (FnAt.run (by kernel_rfl) (T := ⟨[], []⟩) ⟨trivial, trivial⟩ Tryz.func73 sw73 fun ho hh => ?_)
    simp only [qMC, Bool.and_eq_true] at ho
    have fa := ha.fx ho.1 (sz := 34) rfl
    have fs := ha.src (sz := 34) rfl
    unfold w73
    by_cases h0 : xs.length = 0
    ·simp only [XH8, QN9, X1r, zVq, simprocAttr, fa, fs, h0, hq, JpP]
     exact Bt.one 0 hh (fun _ => Wk.empty _ _ _ _ _ _) (by simp) (fun h => absurd h0 h)
    ·simp only [XH8, QN9, X1r, zVq, simprocAttr, fa, fs, h0, hq, JpP]
     exact ⟨⟨by omega, by unfold maxLen; omega⟩, Bt.one 1 hh (fun h => absurd h h0) (by simp) (fun _ => ⟨rfl, rfl⟩)⟩
   ·exact Ya9 h xs (by simp only [lenV, Option.some.injEq] at hlen; omega)
   ·exact qvI h xs (by simp only [lenV, Option.some.injEq] at hlen; omega)
  ·cases e
 ·cases e
theorem Jqn : Spec Tryz.prog 60 q7G := by
 intro args h v h' e
 unfold q7G at e
 split at e
 ·rename_i v d
  obtain ⟨xs, hv, e⟩ := YI8 e
  obtain ⟨ds, hd, e⟩ := YI8 e
  split at e
  ·rename_i hl
   cases e
   refine FnAt.c (FnAt.frz fun hz => ?_)
   rw [show h.length = (h.map AB.freeze).length from (List.length_map _).symm]
   replace hv := hv.frz
   replace hd := hd.frz
   generalize h.map AB.freeze = h at *
   refine FnAt.run (by kernel_rfl) (T := ⟨[⟨112, z6u, fun _ => []⟩, ⟨72, JWl, fun _ => []⟩], []⟩) ⟨⟨z5k, qw8, trivial⟩, trivial⟩ Tryz.func60 sw60 fun ho hh => ?_
   simp only [qMC, JAX, Bool.and_eq_true] at ho
   have f1 := hv.fx ho.1.1 (sz := 1) rfl
   have f2 := hd.fx ho.1.2.1 (sz := 2) rfl
   unfold w60
   simp only [XH8, QN9, X1r, X5W, zVq, simprocAttr, CO.tmps, Opd.tmps, optT, Nat.reducePow, Nat.reduceDiv, Nat.reduceMod, f1, f2, z6u, JWl, hl.1, hl.2, QNE hh, QFK hz, K9V hz, Ksi hz]
   exact Bt.sel [2, 3] hh (by decide) (by simp only [q9C, FrSel, BlkSel, AV.ren, renL, AV.ok, okL, Option.some.injEq, exists_eq_left', List.length_cons, List.length_nil, Nat.reduceAdd, Nat.reduceLT, reduceCtorEq, implies_true, exists_eq']) (by simp only [q9C, FrSel, BlkSel, AV.ren, renL, AV.ok, okL, Option.some.injEq, exists_eq_left', List.length_cons, List.length_nil, Nat.reduceAdd, Nat.reduceLT, reduceCtorEq, implies_true, exists_eq'])
  ·cases e
 ·cases e
end Go.Proofs.YtfaccliekejngaaGreat
end
section
namespace Go.Proofs.YtfaccliekejngaaGreat
section
variable {la lb lc : List Hd} {va vb vc : List Int} {da db dc : Dots}
theorem Jua (l l' : List Hd) (v v' : List Int) (ds ds' : Dots) : (jnL l l' v v' ds ds').length ≤ 2 * l.length + l'.length := by
 unfold jnL
 rw [KRk]
 unfold jnU
 rw [List.length_append, List.length_append]
 refine Nat.le_trans (Nat.add_le_add (Nat.add_le_add (List.length_filter_le _ l) (show (outG v' ds' l).length ≤ l.length from List.length_filter_le _ _)) (show (outG v ds l').length ≤ l'.length from List.length_filter_le _ _)) ?_
 omega
theorem zt0 (a : RG la va da) (b : RG lb vb db) {m : List Hd} (hr : m.Pairwise KBL) (hm : ∀ x, x ∈ m ↔ x ∈ jnU la lb va vb da db) : m = jnL la lb va vb da db := Jn.uniq ⟨hr, hm⟩ (JCg a b)
theorem KKV (a : NF va da) (c : NF vc dc) (h : ∀ d, inC vc dc d → inC va da d) : zbr va vc da dc = (va, da) := by
 have := (QaH a c).ext a fun d => by
  rw [QoG a c]
  exact ⟨fun q => q.elim id (h d), .inl⟩
 exact this
theorem z4o (a : NF va da) {d : Int × Int} (hd : KG5 d) : J6E va (da ++ [d]) := ⟨a.rg.1, a.rg.2.1, fun x hx => by
 rcases List.mem_append.1 hx with q | q
 ·exact a.rg.2.2 x q
 ·rw [List.mem_singleton.1 q]; exact hd⟩
theorem zC5 (a : NF va da) {d : Int × Int} (hd : KG5 d) : NF (mkO va da d).1 (mkO va da d).2 := NF.fm (z4o a hd)
theorem qD9 (a : NF va da) {d : Int × Int} (hd : KG5 d) (e : Int × Int) : inC (mkO va da d).1 (mkO va da d).2 e ↔ inC va da e ∨ e = d := by
 unfold mkO
 rw [JRq (z4o a hd)]
 unfold inC
 rw [List.mem_append, List.mem_singleton]
 constructor
 ·rintro ⟨h1, h2 | h2 | h2⟩
  ·exact .inl ⟨h1, .inl h2⟩
  ·exact .inl ⟨h1, .inr h2⟩
  ·exact .inr h2
 ·rintro (⟨h1, h2 | h2⟩ | rfl)
  ·exact ⟨h1, .inl h2⟩
  ·exact ⟨h1, .inr (.inl h2)⟩
  ·exact ⟨hd, .inr (.inr rfl)⟩
theorem Qmz (a : NF va da) {d : Int × Int} (hd : KG5 d) : (mkO va da d).2.length ≤ da.length + 1 := by
 have := Qhv (z4o a hd)
 rw [List.length_append] at this
 exact this
theorem X6P {l : List Hd} {c : NF vc dc} (hc : dc.length ≤ 4096) {x y : Hd} : y ∈ wrL l vc dc x ↔ y = x ∨ (y ∈ l ∧ ¬ inC vc dc y.1) := by
 unfold wrL
 rw [zeS, YD4 c hc, YSc]
theorem Joq (a : RG la va da) (c : NF vc dc) (hc : dc.length ≤ 4096) {x : Hd} (hx : ¬ inC va da x.1) : (wrL la vc dc x).Pairwise KBL := by
 unfold wrL
 refine qFA XEZ (a.rise.filter _) fun y hy => JsL fun e => hx ?_
 rw [← e]
 exact a.sn y (List.mem_filter.1 hy).1
theorem ZDF (a : RG la va da) (c : NF vc dc) (hc : dc.length ≤ 4096) {x : Hd} (hd : KG5 x.1) (hx : ¬ inC va da x.1) (hl : (mkO (zbr va vc da dc).1 (zbr va vc da dc).2 x.1).2.length ≤ 4096) : RG (wrL la vc dc x) (mkO (zbr va vc da dc).1 (zbr va vc da dc).2 x.1).1 (mkO (zbr va vc da dc).1 (zbr va vc da dc).2 x.1).2 :=
 ⟨zC5 (QaH a.nf c) hd, hl, Joq a c hc hx, fun y hy => (qD9 (QaH a.nf c) hd _).2 (by
  rcases (X6P (c := c) hc).1 hy with q | q
  ·rw [q]; exact .inr rfl
  ·exact .inl ((QoG a.nf c _).2 (.inl (a.sn y q.1))))⟩
end
end Go.Proofs.YtfaccliekejngaaGreat
end
section
namespace Go.Proofs.YtfaccliekejngaaGreat
section
variable {l : List Hd} {v : List Int} {ds : Dots} {nw : List Hd} {kp : Dots} {v' : List Int} {ds' : Dots}
open Classical in
noncomputable def chU (l : List Hd) (v : List Int) (ds : Dots) (nw : List Hd) (kp : Dots) (v' : List Int) (ds' : Dots) : List Hd :=
 (l.filter fun x => decide ((∃ y ∈ nw, y.1 = x.1) ∨ x.1 ∈ kp ∨ ¬ inC v' ds' x.1)) ++ outG v ds nw
theorem q5m {x : Hd} : x ∈ chU l v ds nw kp v' ds' ↔ (x ∈ l ∧ ((∃ y ∈ nw, y.1 = x.1) ∨ x.1 ∈ kp ∨ ¬ inC v' ds' x.1)) ∨ (x ∈ nw ∧ ¬ inC v ds x.1) := by
 unfold chU
 rw [List.mem_append, List.mem_filter, YSc]
 simp only [decide_eq_true_eq]
theorem Q6w (a : RG l v ds) (hn : nw.Pairwise KBL) : (chU l v ds nw kp v' ds').Pairwise fun x y => x.1 ≠ y.1 := by
 unfold chU
 refine List.pairwise_append.2 ⟨(Ypx a.rise).filter _, Ypx (z79 hn), fun x hx y hy e => ?_⟩
 have h1 := (YSc.1 hy).2
 rw [← e] at h1
 exact h1 (a.sn x (List.mem_filter.1 hx).1)
theorem XYx : (chU l v ds nw kp v' ds').length ≤ l.length + nw.length := by
 unfold chU
 rw [List.length_append]
 exact Nat.add_le_add (List.length_filter_le _ l) (List.length_filter_le _ nw)
noncomputable def chL (l : List Hd) (v : List Int) (ds : Dots) (nw : List Hd) (kp : Dots) (v' : List Int) (ds' : Dots) : List Hd := sortP cfH (chU l v ds nw kp v' ds')
theorem Q6Q {x : Hd} : x ∈ chL l v ds nw kp v' ds' ↔ x ∈ chU l v ds nw kp v' ds' := ZFZ _ x
theorem Zf1 (a : RG l v ds) (hn : nw.Pairwise KBL) : (chL l v ds nw kp v' ds').Pairwise KBL := JFt (Q6w a hn)
theorem Z2V : (chL l v ds nw kp v' ds').length ≤ l.length + nw.length := by
 unfold chL
 rw [KRk]
 exact XYx
theorem ZPn (a : RG l v ds) (b : RG nw v' ds') : chL l v ds nw [] v' ds' = jnL l nw v v' ds ds' := zt0 a b (Zf1 a b.rise) fun x => by
 rw [Q6Q, q5m, qWq]
 constructor
 ·rintro (⟨h1, q | q | q⟩ | h)
  ·exact .inl ⟨h1, q⟩
  ·cases q
  ·exact .inr (.inl ⟨h1, q⟩)
  ·exact .inr (.inr h)
 ·rintro (⟨h1, q⟩ | ⟨h1, q⟩ | h)
  ·exact .inl ⟨h1, .inl q⟩
  ·exact .inl ⟨h1, .inr (.inr q)⟩
  ·exact .inr h
end
end Go.Proofs.YtfaccliekejngaaGreat
end
