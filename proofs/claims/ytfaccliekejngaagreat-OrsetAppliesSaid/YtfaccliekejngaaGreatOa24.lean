/- Part 24 of what the laws' proofs rest on. No condition. -/
import Derived.Test.YtfaccliekejngaaGreatOa23
set_option linter.all false
section
namespace Go.Proofs.YtfaccliekejngaaGreat
open Go.Sort
set_option maxRecDepth 100000
set_option maxHeartbeats 4000000
noncomputable def ZUp : List AV → List AB → Option (AV × List AB)
 | [a, b], h => (getI a).bind fun x => (getI b).bind fun y => some (.b (decide (x = y)), h)
 | _, _ => none
theorem X1N : Spec Tryz.prog 82 ZUp := by
 intro args h v h' e
 unfold ZUp at e
 split at e
 ·rename_i a b
  obtain ⟨x, hx, e2⟩ := Q4F e
  obtain ⟨y, hy, e3⟩ := Q4F e2
  clear e e2
  subst hx hy
  cases e3
  refine FnAt.c (FnAt.run (by kernel_rfl) (T := ⟨[], []⟩) ⟨trivial, trivial⟩ Tryz.func82 sw82 fun ho hh => ?_)
  unfold w82
  simp only [YGO, Jyg, X5g, zLK, QXB, simprocAttr, CO.tmps, Opd.tmps, optT, Nat.reducePow, Nat.reduceDiv, Nat.reduceMod, zjk, Xtr, XxF, Q7f, QSm]
  exact Bt.dropB _ hh rfl
 ·cases e
open Classical in
noncomputable def QEg : List AV → List AB → Option (AV × List AB)
 | [s, .f (.func 82) [] []], h => (getS idR h s).bind fun l => match idOf s with
   | [id] => if s = rsl idR id l ∧ h[id]? = some (resB idR true l) ∧ l.length ≤ 1000000 then some (rsl idR id (cpI l), h.set id (resB idR true (cpI l))) else none
   | _ => none
 | _, _ => none
theorem KQU : Spec Tryz.prog 81 QEg := by
 intro args h v h' e
 unfold QEg at e
 split at e
 ·rename_i s
  obtain ⟨l, hs, e⟩ := KsT e
  split at e
  ·rename_i id hid
   split at e
   ·rename_i hc
    cases e
    obtain ⟨h1, h2, h3⟩ := hc
    have hlt := (List.getElem?_eq_some_iff.1 h2).1
    by_cases h0 : l.length < 2
    ·rw [QRZ h0, Yur h2, ← h1]
     refine FnAt.c (FnAt.run (by kernel_rfl) (T := ⟨[], []⟩) ⟨trivial, trivial⟩ Tryz.func81 sw81 fun ho hh => ?_)
     simp only [znG, Bool.and_eq_true] at ho
     have f1 := hs.fx ho.1 (sz := 32) rfl
     have g0 : ((l.length : Int) < 2) = True := eq_true (by omega)
     unfold w81
     simp only [YGO, Jyg, X5g, QXB, simprocAttr, f1, g0]
     exact ⟨Bt.eq rfl (List.append_nil h), fun q => q.elim⟩
    have hS : rsl idR id l = .sl id 0 l.length l.length (some 32) := by unfold rsl; rw [if_neg (by omega)]; rfl
    rw [h1, hS]
    refine FnAt.c (FnAt.run (by kernel_rfl) (T := ⟨[⟨82, ZUp, fun _ => []⟩], []⟩) ⟨⟨X1N, trivial⟩, trivial⟩ Tryz.func81 sw81 fun ho hh => ?_)
    have hokS := fun L => YYQ (r := idR) hh id true L
    have hokZ := ZJo hh
    have ld := fun (x : List AB) (o j : Nat) (hj : j < l.length) (q : o = j * 32) => zGE (r := idR) h2 hj q x
    have g0 : ((l.length : Int) < 2) = False := eq_false (by omega)
    unfold w81
    simp only [YGO, Jyg, X5g, QXB, simprocAttr, lenV, g0, false_implies, true_and]
    refine KPW (S := Nat) (fun k => l.length - k) (fun k => [.sl id 0 l.length l.length (some 32), .f (.func 82) [] []] ++ tp 3 ++ [.i .i64 k] ++ tp 60) (fun k => 0 < k ∧ k ≤ l.length ∧ ∀ j, 0 < j → j < k → ¬ l.getD j idR.d = l.getD (j - 1) idR.d) 1 ⟨Nat.one_pos, by omega, fun j a b => absurd a (by omega)⟩ (by simp only [X5g, QXB, simprocAttr]) fun k hk => ?_
    obtain ⟨hk0, hk1, hk2⟩ := hk
    by_cases hkl : k < l.length
    ·have g1 : ((k : Int) < (l.length : Int)) = True := eq_true (by omega)
     have g2 : (k - 1 < l.length) = True := eq_true (by omega)
     have e1 : IntKind.i64.wrap ((k : Int) + 1) = ((k + 1 : Nat) : Int) := q6V (by unfold In64; omega)
     have e2 : IntKind.i64.wrap ((k : Int) - 1) = ((k - 1 : Nat) : Int) := by
      have : (k : Int) - 1 = ((k - 1 : Nat) : Int) := by omega
      rw [this]
      exact q6V (by unfold In64; omega)
     have l1 := fun x => ld x (0 + k * 32) k hkl (by omega)
     have l2 := fun x => ld x (0 + (k - 1) * 32) (k - 1) (by omega) (by omega)
     simp only [KIY] at l1 l2
     have sK : slL 32 (.sl id 0 l.length l.length (some 32)) (some (.i .i64 (k : Int))) none none = some (.sl id (0 + k * 32) (l.length - k) (l.length - k) (some 32)) := by
      simp [slL, bnd, kcut, hkl, Nat.le_of_lt hkl, Nat.ne_of_gt hk0]
     simp only [X5g, zLK, QXB, simprocAttr, CO.tmps, Opd.tmps, optT, Nat.reducePow, Nat.reduceDiv, Nat.reduceMod, lenV, g1, g2, hkl, iadV, e1, e2, l1, l2, ZUp, Zqj, Zs6, hokS, hokZ, AV.ok, qyM, XuT, hlt, Nat.add_zero, if_true, true_and, decide_true, sK]
     refine ⟨fun q => ?_, fun q => ⟨k + 1, ⟨by omega, by omega, fun j a b => ?_⟩, by omega, Wk.refl _⟩⟩
     ·have hset : h.set id (resB idR true l) = h := Yur h2
      refine JEe (S := Nat × Nat × List Dg) (fun s => l.length - s.1) (fun s => [.sl id 0 l.length l.length (some 32), .f (.func 82) [] []] ++ tp 3 ++ [.i .i64 s.2.1, .sl id (0 + k * 32) (l.length - k) (l.length - k) (some 32), .i .i64 s.1] ++ tp 58) (fun s => h.set id (resB idR true s.2.2) ++ []) (fun s => 0 < s.1 ∧ CmpSt (Eq (α := Dg)) l s.2.2 (k + s.1) s.2.1) (1, k, l) ⟨Nat.one_pos, CmpSt.first (Eq (α := Dg)) l idR.d hk0 hkl hk2 q⟩ (by rw [hset]; exact Bt.wk (by simp only [X5g, QXB, simprocAttr])) fun s hs => ?_
      obtain ⟨j, i, L⟩ := s
      obtain ⟨hj0, st⟩ := hs
      dsimp only at hj0 st ⊢
      have hL := st.len
      have hi := st.lt
      have hle := st.le
      have hi2 : (h.set id (resB idR true L))[id]? = some (resB idR true L) := List.getElem?_set_self hlt
      by_cases hjl : k + j < l.length
      ·have g3 : ((j : Int) < ((l.length - k : Nat) : Int)) = True := eq_true (by omega)
       have g4 : (j < l.length - k) = True := eq_true (by omega)
       have g5 : (j - 1 < l.length - k) = True := eq_true (by omega)
       have e3 : IntKind.i64.wrap ((j : Int) + 1) = ((j + 1 : Nat) : Int) := q6V (by unfold In64; omega)
       have e4 : IntKind.i64.wrap ((j : Int) - 1) = ((j - 1 : Nat) : Int) := by
        have : (j : Int) - 1 = ((j - 1 : Nat) : Int) := by omega
        rw [this]
        exact q6V (by unfold In64; omega)
       have e5 : IntKind.i64.wrap ((i : Int) + 1) = ((i + 1 : Nat) : Int) := q6V (by unfold In64; omega)
       have q1 := fun x => zGE (r := idR) (o := 0 + (k * 32 + j * 32)) (j := k + j) hi2 (by omega) (by rw [KIY]; omega) x
       have q2 := fun x => zGE (r := idR) (o := 0 + (k * 32 + (j - 1) * 32)) (j := k + j - 1) hi2 (by omega) (by rw [KIY]; omega) x
       simp only [KIY, st.getD (Eq (α := Dg)) idR.d (show k + j - 1 ≤ k + j by omega), st.getD (Eq (α := Dg)) idR.d (Nat.le_refl (k + j - 1))] at q1 q2
       simp only [X5g, zLK, QXB, simprocAttr, CO.tmps, Opd.tmps, optT, Nat.reducePow, Nat.reduceDiv, Nat.reduceMod, lenV, g3, g4, g5, iadV, e3, e4, e5, q1, q2, ZUp, Zqj, Zs6, hokS, hokZ, AV.ok, qyM, XuT, hlt, List.length_set, Nat.add_zero, if_true, true_and, decide_true]
       have q3 := fun x => ZVo (r := idR) (o := 0 + i * 32) (j := i) (y := l.getD (k + j) idR.d) hi2 (by omega) (by rw [KIY]; omega) (zjk _) x
       have g6 : (i < l.length) = True := eq_true (by omega)
       simp only [KIY, List.set_set] at q3
       simp only [X5g, zLK, QXB, simprocAttr, CO.tmps, Opd.tmps, optT, Nat.reducePow, Nat.reduceDiv, Nat.reduceMod, lenV, g4, g6, iadV, q1, q3, e3, e5, false_implies]
       exact ⟨fun q => ⟨(j + 1, i + 1, L.set i (l.getD (k + j) idR.d)), ⟨Nat.succ_pos _, st.keep (Eq (α := Dg)) idR.d hjl q⟩, by dsimp only; omega, Bt.wk (by simp only [X5g, QXB, simprocAttr])⟩, fun q => ⟨(j + 1, i, L), ⟨Nat.succ_pos _, st.skip (Eq (α := Dg)) idR.d hjl (Classical.not_not.1 q)⟩, by dsimp only; omega, Bt.wk (by simp only [X5g, QXB, simprocAttr])⟩⟩
      ·have g3 : ((j : Int) < ((l.length - k : Nat) : Int)) = False := eq_false (by omega)
       simp only [X5g, QXB, simprocAttr, lenV, g3, false_implies, true_and]
       have g6 : (i < l.length) = True := eq_true (by omega)
       have sI : slL 32 (.sl id 0 l.length l.length (some 32)) (some (.i .i64 (i : Int))) none none = some (.sl id (0 + i * 32) (l.length - i) (l.length - i) (some 32)) := by
        have i0 : i < l.length := by omega
        simp [slL, bnd, kcut, i0, Nat.le_of_lt i0, Nat.ne_of_gt st.pos]
       have sJ : slL 32 (.sl id 0 l.length l.length (some 32)) none (some (.i .i64 (i : Int))) none = some (.sl id 0 i l.length (some 32)) := by
        have i0 : i ≤ l.length := by omega
        simp [slL, bnd, kcut, i0]
       have zi : ∀ (zl : List AV), zl = idR.f zBD → ∀ x, clrV (h.set id (resB idR true L) ++ x) zl (.sl id (0 + i * 32) (l.length - i) (l.length - i) (some 32)) = some (.tu [], h.set id (resB idR true (L.take i ++ List.replicate (l.length - i) zBD)) ++ x) := fun zl hz x => by
        rw [hz, KmW hi2 (by omega) (by omega), List.set_set]
       have zj := zi _ (show (List.replicate 32 (AV.i .u8 0)) = idR.f zBD from rfl)
       simp only [List.replicate, List.cons_append, List.nil_append] at zj
       simp only [X5g, QXB, simprocAttr, sI, sJ, ZEK, zj]
       have hm : (L.take i ++ List.replicate (l.length - i) zBD).take i = cpI l := by
        rw [List.take_left' (by rw [List.length_take]; omega), st.hd]
        have : k + j = l.length := by omega
        rw [this, List.take_length]
        rfl
       exact Jmd hlt (by rw [List.length_append, List.length_take, List.length_replicate]; omega) (by omega) (by omega) hm
     ·rcases Nat.eq_or_lt_of_le (Nat.le_of_lt_succ b) with z | z
      ·subst z; exact q
      ·exact hk2 j a z
    ·have g1 : ((k : Int) < (l.length : Int)) = False := eq_false (by omega)
     simp only [X5g, QXB, simprocAttr, lenV, g1, false_implies, true_and]
     have hk3 : k = l.length := by omega
     have ha : cpI l = l := by
      unfold cpI
      have := Xcs (Eq (α := Dg)) l idR.d l.length (Nat.le_refl _) (by rw [← hk3]; exact hk2)
      rwa [List.take_length] at this
     rw [ha, hS, Yur h2]
     exact Bt.eq rfl (List.append_nil h)
   ·cases e
  ·cases e
 ·cases e
theorem KjK : Spec Tryz.prog 28 Yca := by
 intro args h v h' e
 unfold Yca at e
 split at e
 ·rename_i l s t
  obtain ⟨hs, hl, e⟩ := KsT e
  obtain ⟨xs, hv, e⟩ := KsT e
  obtain ⟨ds, hd, e⟩ := KsT e
  split at e
  ·rename_i hL
   refine FnAt.c (FnAt.run (by kernel_rfl) (T := ⟨[⟨31, QJG, fun _ => []⟩, ⟨79, XnA, fun _ => []⟩, ⟨81, QEg, fun _ => []⟩], []⟩) ⟨⟨JLs, Ka0, KQU, trivial⟩, trivial⟩ Tryz.func28 sw28 fun ho hh => ?_)
   simp only [znG, Z4M, Bool.and_eq_true] at ho
   have f1 := hl.fx ho.1.1 (sz := 34) rfl
   have f2 := hv.fx ho.1.2.1 (sz := 1) rfl
   have f3 := hd.fx ho.1.2.2.1 (sz := 2) rfl
   have hL' : (hs.length ≤ 1000000) = True := eq_true (by omega)
   unfold w28
   by_cases c : QjU hs xs ds = 0
   case neg =>
    rw [if_neg c] at e
    cases e
    have c' := eq_false c
    simp only [YGO, Jyg, X5g, zLK, QXB, simprocAttr, CO.tmps, Opd.tmps, optT, Nat.reducePow, Nat.reduceDiv, Nat.reduceMod, f1, f2, f3, QJG, c', hL', ne_eq, not_false_eq_true, not_true_eq_false, decide_true, decide_false]
    exact Bt.drop _ hh rfl (by simp only [znG, J2K, XzQ, Bool.and_true])
   rw [if_pos c] at e
   cases e
   simp only [YGO, Jyg, X5g, zLK, QXB, simprocAttr, CO.tmps, Opd.tmps, optT, Nat.reducePow, Nat.reduceDiv, Nat.reduceMod, f1, f2, f3, QJG, c, hL', ne_eq, not_false_eq_true, not_true_eq_false, decide_true, decide_false]
   have up : ∀ (t : AV), t.ok (fun i => decide (i < h.length)) = true → ∀ c, t.ok (fun i => decide (i < h.length + c)) = true := fun t ht c => AV.ok_mono (fun i q => by simp only [decide_eq_true_eq] at q ⊢; omega) t ht
   have rn : ∀ (t : AV), t.ok (fun i => decide (i < h.length)) = true → ∀ sel, Wk (t.ren (selN h.length sel)) t := fun t ht sel => Wk.ren (fun i hi => Xzs hi) ht
   have fo := fun c => And.intro (up l ho.1.1 c) (And.intro (up s ho.1.2.1 c) (up t ho.1.2.2.1 c))
   have fr := fun sel => And.intro (rn l ho.1.1 sel) (And.intro (rn s ho.1.2.1 sel) (rn t ho.1.2.2.1 sel))
   have hS : ∃ Sm : Nat → AV, (∀ i, i < hs.length → Sm i = apS idR (h.length + 1) ((hs.take i).map (·.2))) ∧ Sm hs.length = rsl idR (h.length + 1) (hs.map (·.2)) := ⟨fun i => if i < hs.length then apS idR (h.length + 1) ((hs.take i).map (·.2)) else rsl idR (h.length + 1) (hs.map (·.2)), fun i hi => if_pos hi, if_neg (Nat.lt_irrefl _)⟩
   obtain ⟨Sm, s1, s2⟩ := hS
   refine JEe (S := Nat) (fun i => hs.length - i) (fun i => tp 2 ++ [Sm i] ++ tp 6 ++ [l, .i .i64 hs.length, .i .i64 i] ++ tp 13) (fun i => h ++ [.blk false true [l, s, t], resB idR true ((hs.take i).map (·.2))]) (fun i => i ≤ hs.length) 0 (Nat.zero_le _) ?_ fun i hi => ?_
   ·show Bt _ _ _ _ _ (h ++ ([.blk false true [l, s, t]] ++ List.replicate 1 .dead))
    rw [← List.append_assoc]
    refine Bt.trans (Bt.wk ?_) (Bt.pad _ _ 1)
    have z : Wk (Sm 0) .ns := by
     by_cases q : 0 < hs.length
     ·rw [s1 0 q]; exact Wk.refl _
     ·have : hs = [] := List.eq_nil_of_length_eq_zero (by omega)
      subst this
      rw [show (0 : Nat) = ([] : List Hd).length from rfl, s2]
      exact Wk.nil _ _
    simp only [X5g, QXB, simprocAttr, z]
   ·by_cases gi : i < hs.length
    ·have gi' := eq_true gi
     have e1 : IntKind.i64.wrap ((i : Int) + 1) = ((i + 1 : Nat) : Int) := q6V (by unfold In64; omega)
     have hst : (hs.take (i + 1)).map (·.2) = (hs.take i).map (·.2) ++ [(hs.getD i qdS.d).2] := by
      rw [List.take_succ_eq_append_getElem gi, List.map_append, List.getD_eq_getElem?_getD, List.getElem?_eq_getElem gi]
      rfl
     have lo : ((hs.take i).map (·.2)).length = i := by rw [List.length_map, List.length_take]; omega
     have sN : Sm (i + 1) = rsl idR (h.length + 1) ((hs.take (i + 1)).map (·.2)) := by
      by_cases q : i + 1 < hs.length
      ·rw [s1 _ q, Y8V _ (by rw [List.length_map, List.length_take]; omega)]
      ·have : i + 1 = hs.length := by omega
       rw [this, s2, List.take_length]
     rw [hst] at sN
     rw [s1 i gi]
     generalize hx : hs.getD i qdS.d = x at *
     generalize ho : (hs.take i).map (·.2) = o at *
     have f5 : ∀ (a1 a2 : AB) (y : List AB), ldV (h ++ (a1 :: a2 :: .blk true true (qdS.f x) :: y)) (some 32) (.p (h.length + 2) 2) = some (.ag (idR.f x.2)) := fun a1 a2 y => by
      rw [QLU]
      simp only [J5l, qa8, Option.bind_some, Y0j]
      rw [if_pos (by decide), ZY7]
     by_cases hB : o = []
     ·have z3 : (1 * 32 ≤ 140737488355328 ∧ 1 ≤ maxLen) = True := eq_true ⟨by decide, by unfold maxLen; omega⟩
      simp only [hB, qZR, X5g, zLK, QXB, simprocAttr, CO.tmps, Opd.tmps, optT, Nat.reducePow, Nat.reduceDiv, Nat.reduceMod, f1, f2, f3, f5, gi', hx, ZyM, Y0j, XIy, zjk, Xtr, XxF, Q7f, List.length_cons, List.length_nil, e1, z3]
      refine ⟨i + 1, gi, by dsimp only; omega, ?_⟩
      simp only [sN, hst, hB, List.nil_append, XwC, K0n]
      exact Bt.sel [0, 4] hh (by decide) (by simp only [Zy2, FrSel, BlkSel, AV.ren, renL, AV.ok, okL, Option.some.injEq, exists_eq_left', List.length_cons, List.length_nil, Nat.reduceAdd, Nat.reduceLT, reduceCtorEq, implies_true, exists_eq', fo, fr]) (by simp only [Zy2, FrSel, BlkSel, AV.ren, renL, AV.ok, okL, Option.some.injEq, exists_eq_left', List.length_cons, List.length_nil, Nat.reduceAdd, Nat.reduceLT, reduceCtorEq, implies_true, exists_eq', fo, fr, KIY])
     ·have hlB : o.length ≠ 0 := fun q => hB (List.eq_nil_of_length_eq_zero q)
      have gr : ∀ id, apS idR id o = rsl idR id o := fun id => Y8V _ hlB
      have fa := fun L k ys hb => Jw1 (h := h) (p := h.length) rfl (r := idR) (sz := 32) rfl L k o 32 1 ys hlB hb (by decide) (by omega) (by unfold maxLen; omega)
      simp only [gr, X5g, zLK, QXB, simprocAttr, CO.tmps, Opd.tmps, optT, Nat.reducePow, Nat.reduceDiv, Nat.reduceMod, f1, f2, f3, f5, gi', hx, ZyM, Y0j, XIy, zjk, Xtr, XxF, Q7f, List.length_cons, List.length_nil, e1, fa]
      refine ⟨i + 1, gi, by dsimp only; omega, ?_⟩
      simp only [sN, hst, Zow, Z4W]
      exact Bt.sel [0, 4] hh (by decide) (by simp only [Zy2, FrSel, BlkSel, AV.ren, renL, AV.ok, okL, Option.some.injEq, exists_eq_left', List.length_cons, List.length_nil, Nat.reduceAdd, Nat.reduceLT, reduceCtorEq, implies_true, exists_eq', fo, fr]) (by simp only [Zy2, FrSel, BlkSel, AV.ren, renL, AV.ok, okL, Option.some.injEq, exists_eq_left', List.length_cons, List.length_nil, Nat.reduceAdd, Nat.reduceLT, reduceCtorEq, implies_true, exists_eq', fo, fr, KIY])
    ·obtain rfl : i = hs.length := by omega
     have gi' := eq_false gi
     have hlm : ((hs.map (·.2)).length ≤ 1000000) = True := eq_true (by rw [List.length_map]; omega)
     have hls : ((QBb cmpG (hs.map (·.2))).length ≤ 1000000) = True := eq_true (by rw [JjR YnG, List.length_map]; omega)
     have hsr : ∀ id, rsl idR id (hs.map (·.2)) = rsl idR id (QBb cmpG (hs.map (·.2))) := fun id => by unfold rsl; rw [JjR YnG]
     rw [s2, List.take_length]
     simp only [X5g, zLK, QXB, simprocAttr, CO.tmps, Opd.tmps, optT, Nat.reducePow, Nat.reduceDiv, Nat.reduceMod, f1, f2, f3, gi', XnA, QEg, hlm, ZnW, JNv, Zpl]
     have hD : cpI (QBb cmpG (hs.map (·.2))) = dgsL hs := rfl
     simp only [hsr, X5g, QXB, simprocAttr, QEg, hls, hD, ZnW, JNv, Zpl]
     exact Bt.sel [1] hh (by decide) (by simp only [Zy2, FrSel, BlkSel, AV.ren, renL, AV.ok, okL, Option.some.injEq, exists_eq_left', List.length_cons, List.length_nil, Nat.reduceAdd, Nat.reduceLT, reduceCtorEq, implies_true, exists_eq']) (by simp only [Zy2, FrSel, BlkSel, AV.ren, renL, AV.ok, okL, Option.some.injEq, exists_eq_left', List.length_cons, List.length_nil, Nat.reduceAdd, Nat.reduceLT, reduceCtorEq, implies_true, exists_eq'])
  ·cases e
 ·cases e
end Go.Proofs.YtfaccliekejngaaGreat
end
section
namespace Go.Proofs.YtfaccliekejngaaGreat
section
theorem XBN : ∀ (l : List Dg) (p : Dg), (p :: l).Pairwise (fun x y => ¬ cmpG y x < 0) → (p :: cmps Eq p l).Pairwise ZMi ∧ ∀ d, d ∈ p :: cmps Eq p l ↔ d ∈ p :: l
 | [], p, _ => ⟨List.pairwise_singleton _ _, fun d => by simp [cmps]⟩
 | x :: l, p, h => by
  have hc := List.pairwise_cons.1 h
  have hx := List.pairwise_cons.1 hc.2
  by_cases e : x = p
  ·subst e
   have ih := XBN l x hc.2
   have e2 : cmps Eq x (x :: l) = cmps Eq x l := by simp [cmps]
   rw [e2]
   exact ⟨ih.1, fun d => by rw [ih.2]; simp⟩
  ·have ih := XBN l x hc.2
   have e2 : cmps Eq p (x :: l) = x :: cmps Eq x l := by simp [cmps, e]
   rw [e2]
   have hpx : ZMi p x := by
    rcases Xyl p x with q | q | q
    ·exact q
    ·exact absurd q.symm e
    ·exact absurd q (hc.1 x (.head _))
   refine ⟨List.pairwise_cons.2 ⟨fun y hy => ?_, ih.1⟩, fun d => by rw [List.mem_cons, ih.2, List.mem_cons, List.mem_cons, List.mem_cons]⟩
   rcases List.mem_cons.1 hy with rfl | hy'
   ·exact hpx
   ·exact ztc.tr hpx ((List.pairwise_cons.1 ih.1).1 y hy')
theorem qBx (hs : List Hd) : (dgsL hs).Pairwise ZMi ∧ ∀ d, d ∈ dgsL hs ↔ ∃ x ∈ hs, x.2 = d := by
 have hp := Xzt YnG (hs.map (·.2))
 have hr := qg8 YnG (hs.map (·.2))
 have hm : ∀ d, d ∈ QBb cmpG (hs.map (·.2)) ↔ ∃ x ∈ hs, x.2 = d := fun d => by rw [hp.mem_iff, List.mem_map]
 unfold dgsL
 generalize QBb cmpG (hs.map (·.2)) = l at hr hm
 cases l with
 | nil => exact ⟨List.Pairwise.nil, hm⟩
 | cons p l =>
  obtain ⟨h1, h2⟩ := XBN l p hr
  exact ⟨h1, fun d => by rw [← hm]; exact h2 d⟩
end
end Go.Proofs.YtfaccliekejngaaGreat
end
section
namespace Go.Proofs.YtfaccliekejngaaGreat
open Go.Sort
set_option maxRecDepth 100000
set_option maxHeartbeats 4000000
noncomputable def Yop : List AV → List AB → Option (AV × List AB)
 | [s, y], h => (getS idR h s).bind fun l => (getI y).bind fun x => some (.i .i64 (idx (fun z : Dg => x = z) l), h)
 | _, _ => none
theorem ZeR : Spec Tryz.prog 127 Yop := by
 intro args h v h' e
 unfold Yop at e
 split at e
 ·rename_i s y
  obtain ⟨l, hl, e⟩ := KsT e
  obtain ⟨x, hx, e2⟩ := Q4F e
  clear e
  subst hx
  cases e2
  refine FnAt.c (FnAt.frz0 fun hz => ?_)
  replace hl := hl.frz
  generalize h.map AB.freeze = h at *
  refine FnAt.run (by kernel_rfl) (T := ⟨[], []⟩) ⟨trivial, trivial⟩ Tryz.func127 YOW fun ho hh => ?_
  simp only [znG, Z4M, Bool.and_eq_true] at ho
  have f1 := hl.fx ho.1 (sz := 32) rfl
  unfold w127
  simp only [YGO, Jyg, X5g, zLK, QXB, simprocAttr, CO.tmps, Opd.tmps, optT, Nat.reducePow, Nat.reduceDiv, Nat.reduceMod, f1, zjk, Xtr, XxF, Q7f]
  refine KPW (S := Nat) (fun i => l.length - i) (fun i => [s] ++ tp 2 ++ [.p (h.length + 0) 0] ++ tp 3 ++ [.i .i64 l.length, .i .i64 i] ++ tp 10) (fun i => i ≤ l.length ∧ idx (fun z : Dg => x = z) l = Jfp (fun z : Dg => x = z) (l.drop i) i) 0 ⟨Nat.zero_le _, rfl⟩ (by simp only [X5g, QXB, simprocAttr]) fun i hi => ?_
  by_cases gi : i < l.length
  ·have gi' := eq_true gi
   have e1 : IntKind.i64.wrap ((i : Int) + 1) = ((i + 1 : Nat) : Int) := q6V (by have := hl.2; unfold maxLen at this; unfold In64; omega)
   have e2 := Xyt (fun z : Dg => x = z) idR.d i gi
   generalize hy : l.getD i idR.d = y at *
   simp only [X5g, zLK, QXB, simprocAttr, CO.tmps, Opd.tmps, optT, Nat.reducePow, Nat.reduceDiv, Nat.reduceMod, f1, gi', e1, hy, QSm, XuT, zjk, Xtr, XxF, Q7f, XeO hh, QU9 hz, QLc hz, zkD hz]
   refine ⟨fun q => Bt.dropI _ hh (by rw [hi.2, e2, if_pos q]), fun q => ⟨i + 1, ⟨gi, by rw [hi.2, e2, if_neg q]⟩, by omega, Wk.refl _⟩⟩
  ·obtain rfl : i = l.length := by omega
   have gi' := eq_false gi
   simp only [X5g, zLK, QXB, simprocAttr, CO.tmps, Opd.tmps, optT, Nat.reducePow, Nat.reduceDiv, Nat.reduceMod, f1, gi']
   exact Bt.dropI _ hh (by rw [hi.2, List.drop_eq_nil_of_le (Nat.le_refl _)]; rfl)
 ·cases e
noncomputable def Y5k : List AV → List AB → Option (AV × List AB)
 | [s, y], h => (getS idR h s).bind fun l => (getI y).bind fun x => some (.b (decide (x ∈ l)), h)
 | _, _ => none
theorem JSt : Spec Tryz.prog 87 Y5k := by
 intro args h v h' e
 unfold Y5k at e
 split at e
 ·rename_i s y
  obtain ⟨l, hl, e⟩ := KsT e
  obtain ⟨x, hx, e2⟩ := Q4F e
  clear e
  subst hx
  cases e2
  refine FnAt.c (FnAt.run (by kernel_rfl) (T := ⟨[⟨127, Yop, fun _ => []⟩], []⟩) ⟨⟨ZeR, trivial⟩, trivial⟩ Tryz.func87 sw87 fun ho hh => ?_)
  simp only [znG, Z4M, Bool.and_eq_true] at ho
  have f1 := hl.fx ho.1 (sz := 32) rfl
  unfold w87
  simp only [YGO, Jyg, X5g, zLK, QXB, simprocAttr, CO.tmps, Opd.tmps, optT, Nat.reducePow, Nat.reduceDiv, Nat.reduceMod, f1, Yop, Zqj, zjk, Xtr, XxF, Q7f]
  exact Bt.dropB _ hh (decide_eq_decide.2 ((XWi _ l).trans ⟨fun ⟨z, h1, h2⟩ => by rw [h2]; exact h1, fun q => ⟨_, q, rfl⟩⟩))
 ·cases e
noncomputable def K4N : List AV → List AB → Option (AV × List AB)
 | [s, y], h => (getS qdS h s).bind fun l => (getH y).bind fun x => some (.i .i64 (idx (fun z : Hd => x = z) l), h)
 | _, _ => none
theorem XBm : Spec Tryz.prog 106 K4N := by
 intro args h v h' e
 unfold K4N at e
 split at e
 ·rename_i s y
  obtain ⟨l, hl, e⟩ := KsT e
  obtain ⟨x, hx, e2⟩ := XpI e
  clear e
  subst hx
  cases e2
  refine FnAt.c (FnAt.frz0 fun hz => ?_)
  replace hl := hl.frz
  generalize h.map AB.freeze = h at *
  refine FnAt.run (by kernel_rfl) (T := ⟨[], []⟩) ⟨trivial, trivial⟩ Tryz.func106 zy3 fun ho hh => ?_
  simp only [znG, Z4M, Bool.and_eq_true] at ho
  have f1 := hl.fx ho.1 (sz := 34) rfl
  unfold w106
  simp only [YGO, Jyg, X5g, zLK, QXB, simprocAttr, CO.tmps, Opd.tmps, optT, Nat.reducePow, Nat.reduceDiv, Nat.reduceMod, f1, ZyM, Y0j, XIy, Q7f]
  refine KPW (S := Nat) (fun i => l.length - i) (fun i => [s] ++ tp 2 ++ [.p (h.length + 0) 0] ++ tp 3 ++ [.i .i64 l.length, .i .i64 i] ++ tp 10) (fun i => i ≤ l.length ∧ idx (fun z : Hd => x = z) l = Jfp (fun z : Hd => x = z) (l.drop i) i) 0 ⟨Nat.zero_le _, rfl⟩ (by simp only [X5g, QXB, simprocAttr]) fun i hi => ?_
  by_cases gi : i < l.length
  ·have gi' := eq_true gi
   have e1 : IntKind.i64.wrap ((i : Int) + 1) = ((i + 1 : Nat) : Int) := q6V (by have := hl.2; unfold maxLen at this; unfold In64; omega)
   have e2 := Xyt (fun z : Hd => x = z) qdS.d i gi
   generalize hy : l.getD i qdS.d = y at *
   simp only [X5g, zLK, QXB, simprocAttr, CO.tmps, Opd.tmps, optT, Nat.reducePow, Nat.reduceDiv, Nat.reduceMod, f1, gi', e1, hy, zp4, QwN, ZyM, Y0j, XIy, Q7f, XeO hh, QU9 hz, QLc hz, zkD hz]
   refine ⟨fun q => Bt.dropI _ hh (by rw [hi.2, e2, if_pos q]), fun q => ⟨i + 1, ⟨gi, by rw [hi.2, e2, if_neg q]⟩, by omega, Wk.refl _⟩⟩
  ·obtain rfl : i = l.length := by omega
   have gi' := eq_false gi
   simp only [X5g, zLK, QXB, simprocAttr, CO.tmps, Opd.tmps, optT, Nat.reducePow, Nat.reduceDiv, Nat.reduceMod, f1, gi']
   exact Bt.dropI _ hh (by rw [hi.2, List.drop_eq_nil_of_le (Nat.le_refl _)]; rfl)
 ·cases e
noncomputable def Xxi : List AV → List AB → Option (AV × List AB)
 | [s, y], h => (getS qdS h s).bind fun l => (getH y).bind fun x => some (.b (decide (x ∈ l)), h)
 | _, _ => none
theorem QFy : Spec Tryz.prog 57 Xxi := by
 intro args h v h' e
 unfold Xxi at e
 split at e
 ·rename_i s y
  obtain ⟨l, hl, e⟩ := KsT e
  obtain ⟨x, hx, e2⟩ := XpI e
  clear e
  subst hx
  cases e2
  refine FnAt.c (FnAt.run (by kernel_rfl) (T := ⟨[⟨106, K4N, fun _ => []⟩], []⟩) ⟨⟨XBm, trivial⟩, trivial⟩ Tryz.func57 sw57 fun ho hh => ?_)
  simp only [znG, Z4M, Bool.and_eq_true] at ho
  have f1 := hl.fx ho.1 (sz := 34) rfl
  unfold w57
  simp only [YGO, Jyg, X5g, zLK, QXB, simprocAttr, CO.tmps, Opd.tmps, optT, Nat.reducePow, Nat.reduceDiv, Nat.reduceMod, f1, K4N, qwM, ZyM, Y0j, XIy, Q7f]
  exact Bt.dropB _ hh (decide_eq_decide.2 ((XWi _ l).trans ⟨fun ⟨z, h1, h2⟩ => by rw [h2]; exact h1, fun q => ⟨_, q, rfl⟩⟩))
 ·cases e
noncomputable def Kv1 : List AV → List AB → Option (AV × List AB)
 | [s, .ag [.i .i64 a, .i .i64 b]], h => (getS dotR h s).bind fun l => some (.i .i64 (idx (fun z : (Int × Int) => (a, b) = z) l), h)
 | _, _ => none
theorem Jqj : Spec Tryz.prog 129 Kv1 := by
 intro args h v h' e
 unfold Kv1 at e
 split at e
 ·rename_i s a b
  obtain ⟨l, hl, e⟩ := KsT e
  cases e
  refine FnAt.c (FnAt.frz0 fun hz => ?_)
  replace hl := hl.frz
  generalize h.map AB.freeze = h at *
  refine FnAt.run (by kernel_rfl) (T := ⟨[], []⟩) ⟨trivial, trivial⟩ Tryz.func129 Z2F fun ho hh => ?_
  simp only [znG, Z4M, Bool.and_eq_true] at ho
  have f1 := hl.fx ho.1 (sz := 2) rfl
  unfold w129
  simp only [YGO, Jyg, X5g, zLK, QXB, simprocAttr, CO.tmps, Opd.tmps, optT, Nat.reducePow, Nat.reduceDiv, Nat.reduceMod, f1]
  refine KPW (S := Nat) (fun i => l.length - i) (fun i => [s] ++ tp 2 ++ [.p (h.length + 0) 0] ++ tp 3 ++ [.i .i64 l.length, .i .i64 i] ++ tp 10) (fun i => i ≤ l.length ∧ idx (fun z : (Int × Int) => (a, b) = z) l = Jfp (fun z : (Int × Int) => (a, b) = z) (l.drop i) i) 0 ⟨Nat.zero_le _, rfl⟩ (by simp only [X5g, QXB, simprocAttr]) fun i hi => ?_
  by_cases gi : i < l.length
  ·have gi' := eq_true gi
   have e1 : IntKind.i64.wrap ((i : Int) + 1) = ((i + 1 : Nat) : Int) := q6V (by have := hl.2; unfold maxLen at this; unfold In64; omega)
   have e2 := Xyt (fun z : (Int × Int) => (a, b) = z) dotR.d i gi
   generalize hy : l.getD i dotR.d = y at *
   simp only [X5g, zLK, QXB, simprocAttr, CO.tmps, Opd.tmps, optT, Nat.reducePow, Nat.reduceDiv, Nat.reduceMod, f1, gi', e1, hy, eqcG, YKr, XeO hh, QU9 hz, QLc hz, zkD hz]
   refine ⟨fun q => Bt.dropI _ hh (by rw [hi.2, e2, if_pos (Prod.ext q.1 q.2)]), fun q => ⟨i + 1, ⟨gi, by rw [hi.2, e2, if_neg fun z => q (by rw [← z]; exact ⟨rfl, rfl⟩)]⟩, by omega, Wk.refl _⟩⟩
  ·obtain rfl : i = l.length := by omega
   have gi' := eq_false gi
   simp only [X5g, zLK, QXB, simprocAttr, CO.tmps, Opd.tmps, optT, Nat.reducePow, Nat.reduceDiv, Nat.reduceMod, f1, gi']
   exact Bt.dropI _ hh (by rw [hi.2, List.drop_eq_nil_of_le (Nat.le_refl _)]; rfl)
 ·cases e
noncomputable def ZEd : List AV → List AB → Option (AV × List AB)
 | [s, .ag [.i .i64 a, .i .i64 b]], h => (getS dotR h s).bind fun l => some (.b (decide ((a, b) ∈ l)), h)
 | _, _ => none
theorem YkF : Spec Tryz.prog 90 ZEd := by
 intro args h v h' e
 unfold ZEd at e
 split at e
 ·rename_i s a b
  obtain ⟨l, hl, e⟩ := KsT e
  cases e
  refine FnAt.c (FnAt.run (by kernel_rfl) (T := ⟨[⟨129, Kv1, fun _ => []⟩], []⟩) ⟨⟨Jqj, trivial⟩, trivial⟩ Tryz.func90 sw90 fun ho hh => ?_)
  simp only [znG, Z4M, Bool.and_eq_true] at ho
  have f1 := hl.fx ho.1 (sz := 2) rfl
  unfold w90
  simp only [YGO, Jyg, X5g, zLK, QXB, simprocAttr, CO.tmps, Opd.tmps, optT, Nat.reducePow, Nat.reduceDiv, Nat.reduceMod, f1, Kv1]
  exact Bt.dropB _ hh (decide_eq_decide.2 ((XWi _ l).trans ⟨fun ⟨z, h1, h2⟩ => by rw [h2]; exact h1, fun q => ⟨_, q, rfl⟩⟩))
 ·cases e
theorem Ztw {h : List AB} {α : Type} {r : Row α} (l : List α) (L : List AB) (k : Nat) (hk : (h ++ L)[h.length + k]? = some (resB r true l)) (hm : l.length ≤ maxLen) : getS r (h ++ L) (apS r (h.length + k) l) = some l := by
 by_cases h0 : l.length = 0
 ·have : l = [] := List.eq_nil_of_length_eq_zero h0
  subst this
  rw [qZR, XoA]
 ·rw [Y8V _ h0]
  exact (quw hk hm).get
noncomputable def KkK : List AV → List AB → Option (AV × List AB)
 | [.ag [l, s, t], y], h => (getS qdS h l).bind fun hs => (getS intR h s).bind fun v => (getS dotR h t).bind fun ds => (getI y).bind fun i => if hs.length ≤ 100000 then some (.b (decide (QjU hs v ds = 0 ∧ ∃ x ∈ hs, x.2 = i)), h) else none
 | _, _ => none
theorem Zk3 : Spec Tryz.prog 33 KkK := by
 intro args h v h' e
 unfold KkK at e
 split at e
 ·rename_i l s t y
  obtain ⟨hs, hl, e⟩ := KsT e
  obtain ⟨xs, hv, e⟩ := KsT e
  obtain ⟨ds, hd, e⟩ := KsT e
  obtain ⟨i, hi, e2⟩ := Q4F e
  clear e
  subst hi
  split at e2
  ·rename_i hL
   cases e2
   refine FnAt.c (FnAt.frz0 fun hz => ?_)
   replace hl := hl.frz
   replace hv := hv.frz
   replace hd := hd.frz
   generalize h.map AB.freeze = h at *
   refine FnAt.run (by kernel_rfl) (T := ⟨[⟨28, Yca, fun _ => []⟩, ⟨87, Y5k, fun _ => []⟩], []⟩) ⟨⟨KjK, JSt, trivial⟩, trivial⟩ Tryz.func33 sw33 fun ho hh => ?_
   simp only [znG, Z4M, Bool.and_eq_true] at ho
   have f1 := hl.fx ho.1.1 (sz := 34) rfl
   have f2 := hv.fx ho.1.2.1 (sz := 1) rfl
   have f3 := hd.fx ho.1.2.2.1 (sz := 2) rfl
   have hL' := eq_true hL
   have hm : ((dgsL hs).length ≤ maxLen) = True := eq_true (by have := QPO hs; unfold maxLen; omega)
   unfold w33
   by_cases c : QjU hs xs ds = 0
   ·have hi := (qBx hs).2 i
    simp only [YGO, Jyg, X5g, zLK, QXB, simprocAttr, CO.tmps, Opd.tmps, optT, Nat.reducePow, Nat.reduceDiv, Nat.reduceMod, f1, f2, f3, Yca, Y5k, Zqj, c, hL', hm, XuT, true_and, ZZ4, Zpl, Ju9, zjk, Xtr, XxF, Q7f, XeO hh, QU9 hz, QLc hz, zkD hz]
    exact Bt.dropB _ hh (decide_eq_decide.2 hi)
   ·have c' := eq_false c
    simp only [YGO, Jyg, X5g, zLK, QXB, simprocAttr, CO.tmps, Opd.tmps, optT, Nat.reducePow, Nat.reduceDiv, Nat.reduceMod, f1, f2, f3, Yca, Y5k, Zqj, XoA, c', hL', XuT, true_and, false_and, zjk, Xtr, XxF, Q7f, XeO hh, QU9 hz, QLc hz, zkD hz]
    exact Bt.dropB _ hh (by simp)
  ·cases e2
 ·cases e
noncomputable def ZWy : List AV → List AB → Option (AV × List AB)
 | [y, .p j 0], h => match QnD h j with
  | some [s, t] => (getH y).bind fun x => (getS intR h s).bind fun v => (getS dotR h t).bind fun ds => some (.b (decide (¬ (X74 v ds = 0 ∧ q2o v ds x.1))), h)
  | _ => none
 | _, _ => none
theorem KBW : Spec Tryz.prog 105 ZWy := by
 intro args h v h' e
 unfold ZWy at e
 split at e
 ·rename_i y j
  split at e
  ·rename_i s t hb
   obtain ⟨x, hx, e2⟩ := XpI e
   clear e
   subst hx
   obtain ⟨vs, hs, e3⟩ := KsT e2
   obtain ⟨ds, ht, e4⟩ := KsT e3
   cases e4
   refine FnAt.c (FnAt.run (by kernel_rfl) (T := ⟨[⟨70, qOD, fun _ => []⟩], []⟩) ⟨⟨Yjq, trivial⟩, trivial⟩ Tryz.func105 Kpx fun ho hh => ?_)
   have fb := zcl hb
   have k1 : ∀ x, getS intR (h ++ x) s = some vs := fun x => (hs.app x).get
   have k2 : ∀ x, getS dotR (h ++ x) t = some ds := fun x => (ht.app x).get
   have kd : ∀ z : Hd, (qdS.f z).take 2 = [.i .i64 z.1.1, .i .i64 z.1.2] := fun _ => rfl
   unfold w105
   simp only [YGO, Jyg, X5g, zLK, QXB, simprocAttr, CO.tmps, Opd.tmps, optT, Nat.reducePow, Nat.reduceDiv, Nat.reduceMod, fb, k1, k2, kd, ZyM, Y0j, XIy, Q7f, qOD]
   exact Bt.dropB _ hh rfl
  ·cases e
 ·cases e
def T_un : List AV → List AB → Option (AV × List AB)
 | [.ag [v, d]], h => if v.isSl = true ∧ d.isSl = true then some (.f (.func 105) [] [.p (h.length + 0) 0], h ++ [.blk false true [v, d]]) else none
 | _, _ => none
theorem Q0s : Spec Tryz.prog 55 T_un := by
 intro args h v h' e
 unfold T_un at e
 split at e
 ·rename_i v d
  split at e
  ·rename_i hs
   cases e
   refine FnAt.c (FnAt.run (by kernel_rfl) (T := ⟨[], []⟩) ⟨trivial, trivial⟩ Tryz.func55 sw55 fun ho hh => ?_)
   unfold w55
   simp only [YGO, Jyg, X5g, zLK, QXB, simprocAttr, CO.tmps, Opd.tmps, optT, Nat.reducePow, Nat.reduceDiv, Nat.reduceMod, qrP hs.1, qrP hs.2, zTI hs.1]
   exact Bt.eq rfl rfl
  ·cases e
 ·cases e
theorem YWA (x y : Hd) : ∀ (h : List AB), FnC Tryz.prog 108 [.ag (qdS.f x), .ag (qdS.f y)] h (.i .i64 (cfH x y)) h := by
 intro h
 refine FnAt.c (FnAt.run (by kernel_rfl) (T := ⟨[⟨109, XlJ, fun _ => []⟩], []⟩) ⟨⟨YYR, trivial⟩, trivial⟩ Tryz.func108 KRg fun ho hh => ?_)
 have kd : ∀ z : Hd, (qdS.f z).take 2 = [.i .i64 z.1.1, .i .i64 z.1.2] := fun _ => rfl
 unfold w108
 simp only [YGO, Jyg, X5g, zLK, QXB, simprocAttr, CO.tmps, Opd.tmps, optT, Nat.reducePow, Nat.reduceDiv, Nat.reduceMod, kd, ZyM, Y0j, XIy, Q7f, XlJ]
 exact Bt.dropI _ hh rfl
theorem Jsf : Cmps Tryz.prog 108 qdS cfH := fun x y h => YWA x y h
open Classical in
noncomputable def YbE : List AV → List AB → Option (AV × List AB)
 | [s, .f (.func 108) [] []], h => (getS qdS h s).bind fun l => match idOf s with
   | [id] => if l.length ≤ 1000000 ∧ s = rsl qdS id l ∧ h[id]? = some (resB qdS true l) then some (.tu [], h.set id (resB qdS true (QBb cfH l))) else none
   | _ => none
 | _, _ => none
theorem K6J : Spec Tryz.prog 107 YbE := by
 intro args h v h' e
 unfold YbE at e
 split at e
 ·rename_i s
  obtain ⟨l, hs, e⟩ := KsT e
  split at e
  ·rename_i id hid
   split at e
   ·rename_i hc
    cases e
    obtain ⟨h1, rfl, h3⟩ := hc
    exact zQ2 (r := qdS) Kkv Tryz.isAgg66 Tryz.sizeOf66 Zxs Jsf KQd KQE l h3 h1
   ·cases e
  ·cases e
 ·cases e
theorem zLe (id : Nat) (l : List Hd) : rsl qdS id (QBb cfH l) = rsl qdS id l := by
 unfold rsl
 rw [X7e]
open Classical in
noncomputable def Ktn : List AV → List AB → Option (AV × List AB)
 | [s], h => (getS qdS h s).bind fun l => match idOf s with
   | [id] => if l.length ≤ 1000000 ∧ s = rsl qdS id l ∧ h[id]? = some (resB qdS true l) then some (rsl qdS id (QBb cfH l), h.set id (resB qdS true (QBb cfH l))) else none
   | _ => none
 | _, _ => none
theorem XaA : Spec Tryz.prog 58 Ktn := by
 intro args h v h' e
 have e0 := e
 unfold Ktn at e
 split at e
 ·rename_i s
  obtain ⟨l, hs, e⟩ := KsT e
  split at e
  ·rename_i id hid
   split at e
   ·rename_i hc
    cases e
    obtain ⟨h1, h2, h3⟩ := hc
    refine FnAt.c (FnAt.run (by kernel_rfl) (T := ⟨[⟨107, YbE, fun _ => []⟩], []⟩) ⟨⟨K6J, trivial⟩, trivial⟩ Tryz.func58 sw58 fun ho hh => ?_)
    have q : YbE [s, .f (.func 108) [] []] (h ++ []) = some (.tu [], h.set id (resB qdS true (QBb cfH l))) := by
     rw [List.append_nil]
     simp only [YbE, hs.get, Option.bind_some, hid]
     rw [if_pos ⟨h1, h2, h3⟩]
    unfold w58
    simp only [YGO, Jyg, X5g, zLK, QXB, simprocAttr, CO.tmps, Opd.tmps, optT, Nat.reducePow, Nat.reduceDiv, Nat.reduceMod, q]
    exact Bt.eq (by rw [zLe, h2]) rfl
   ·cases e
  ·cases e
 ·cases e
def wsS : List AV → List Nat
 | [s] => idOf s
 | _ => []
theorem KSr {α : Type} {r : Row α} (i : Nat) (l : List α) : wsS [rsl r i l] = [i] := JNv i l
theorem YDo {h : List AB} (L : List AB) (k : Nat) (l : List Hd) (hk : ownM qdS l L k) (hl : l.length ≤ 1000000) : Ktn [rsl qdS (h.length + k) l] (h ++ L) = some (rsl qdS (h.length + k) (QBb cfH l), h ++ L.set k (resB qdS true (QBb cfH l))) := by
 have h1 : (h ++ L)[h.length + k]? = some (resB qdS true l) := by rw [z0m]; exact JOK l L k hk
 have g := (quw h1 (by unfold maxLen; omega)).get
 simp only [Ktn, g, Option.bind_some, JNv]
 rw [if_pos ⟨hl, rfl, h1⟩, Zbq]
end Go.Proofs.YtfaccliekejngaaGreat
end
section
namespace Go.Proofs.YtfaccliekejngaaGreat
section
variable {la lb lc : List Hd} {va vb vc : List Int} {da db dc : Dots}
theorem YXL (l l' : List Hd) (v v' : List Int) (ds ds' : Dots) : (jnL l l' v v' ds ds').length ≤ 2 * l.length + l'.length := by
 unfold jnL
 rw [X7e]
 unfold jnU
 rw [List.length_append, List.length_append]
 refine Nat.le_trans (Nat.add_le_add (Nat.add_le_add (List.length_filter_le _ l) (show (outG v' ds' l).length ≤ l.length from List.length_filter_le _ _)) (show (outG v ds l').length ≤ l'.length from List.length_filter_le _ _)) ?_
 omega
theorem Xrr (a : RG la va da) (b : RG lb vb db) {m : List Hd} (hr : m.Pairwise QdS) (hm : ∀ x, x ∈ m ↔ x ∈ jnU la lb va vb da db) : m = jnL la lb va vb da db := Jn.uniq ⟨hr, hm⟩ (Z4G a b)
end
end Go.Proofs.YtfaccliekejngaaGreat
end
section
namespace Go.Proofs.YtfaccliekejngaaGreat
section
variable {la lb : List Hd} {va vb : List Int} {da db : Dots}
def qEQ (lb : List Hd) (x : Hd) : Prop := (YZO lb x.1).2 = true ∧ (YZO lb x.1).1 ≠ x.2
theorem ZlP {x : Hd} (h : (YZO lb x.1).2 = true) : (x.1, (YZO lb x.1).1) ∈ lb := by
 unfold YZO at h ⊢
 cases e : lb.find? (fun y => decide (y.1 = x.1)) with
 | none => rw [e] at h; cases h
 | some y =>
  have h1 := List.find?_some e
  have h2 := List.mem_of_find?_eq_some e
  rw [decide_eq_true_eq] at h1
  simp only
  rw [← h1]
  exact h2
theorem Z1f {x y : Hd} (hy : y ∈ lb) (e : y.1 = x.1) : (YZO lb x.1).2 = true := by
 unfold YZO
 cases q : lb.find? (fun y => decide (y.1 = x.1)) with
 | none => exact absurd (List.find?_eq_none.1 q y hy) (by simp [e])
 | some y => rfl
end
end Go.Proofs.YtfaccliekejngaaGreat
end
section
namespace Go.Proofs.YtfaccliekejngaaGreat
section
variable {l : List Hd} {v : List Int} {ds : Dots} {nw : List Hd} {kp : Dots} {v' : List Int} {ds' : Dots}
open Classical in
noncomputable def chU (l : List Hd) (v : List Int) (ds : Dots) (nw : List Hd) (kp : Dots) (v' : List Int) (ds' : Dots) : List Hd :=
 (l.filter fun x => decide ((∃ y ∈ nw, y.1 = x.1) ∨ x.1 ∈ kp ∨ ¬ inC v' ds' x.1)) ++ outG v ds nw
theorem zOZ {x : Hd} : x ∈ chU l v ds nw kp v' ds' ↔ (x ∈ l ∧ ((∃ y ∈ nw, y.1 = x.1) ∨ x.1 ∈ kp ∨ ¬ inC v' ds' x.1)) ∨ (x ∈ nw ∧ ¬ inC v ds x.1) := by
 unfold chU
 rw [List.mem_append, List.mem_filter, QQ3]
 simp only [decide_eq_true_eq]
theorem zDJ (a : RG l v ds) (hn : nw.Pairwise QdS) : (chU l v ds nw kp v' ds').Pairwise fun x y => x.1 ≠ y.1 := by
 unfold chU
 refine List.pairwise_append.2 ⟨(KdD a.rise).filter _, KdD (K1J hn), fun x hx y hy e => ?_⟩
 have h1 := (QQ3.1 hy).2
 rw [← e] at h1
 exact h1 (a.sn x (List.mem_filter.1 hx).1)
theorem YoK : (chU l v ds nw kp v' ds').length ≤ l.length + nw.length := by
 unfold chU
 rw [List.length_append]
 exact Nat.add_le_add (List.length_filter_le _ l) (List.length_filter_le _ nw)
noncomputable def chL (l : List Hd) (v : List Int) (ds : Dots) (nw : List Hd) (kp : Dots) (v' : List Int) (ds' : Dots) : List Hd := QBb cfH (chU l v ds nw kp v' ds')
theorem Qo0 {x : Hd} : x ∈ chL l v ds nw kp v' ds' ↔ x ∈ chU l v ds nw kp v' ds' := X4C _ x
theorem Ygk (a : RG l v ds) (hn : nw.Pairwise QdS) : (chL l v ds nw kp v' ds').Pairwise QdS := ZEx (zDJ a hn)
theorem Qt2 : (chL l v ds nw kp v' ds').length ≤ l.length + nw.length := by
 unfold chL
 rw [X7e]
 exact YoK
theorem qDF (a : RG l v ds) (b : RG nw v' ds') : chL l v ds nw [] v' ds' = jnL l nw v v' ds ds' := Xrr a b (Ygk a b.rise) fun x => by
 rw [Qo0, zOZ, Y1V]
 constructor
 ·rintro (⟨h1, q | q | q⟩ | h)
  ·exact .inl ⟨h1, q⟩
  ·cases q
  ·exact .inr (.inl ⟨h1, q⟩)
  ·exact .inr (.inr h)
 ·rintro (⟨h1, q⟩ | ⟨h1, q⟩ | h)
  ·exact .inl ⟨h1, .inl q⟩
  ·exact .inl ⟨h1, .inr (.inr q)⟩
  ·exact .inr h
theorem X8E : ∀ (m : List Hd) (o : List Hd), o.Pairwise QdS → m.Pairwise (fun x y => x.1 ≠ y.1) → (∀ x ∈ o, ∀ y ∈ m, x.1 ≠ y.1) → (m.foldl (layG QdS) o).Pairwise QdS ∧ ∀ x, x ∈ m.foldl (layG QdS) o ↔ x ∈ o ∨ x ∈ m
 | [], o, ho, _, _ => ⟨ho, fun x => by simp⟩
 | y :: m, o, ho, hm, hx => by
  rw [List.foldl_cons]
  have hm' := List.pairwise_cons.1 hm
  have ho' : (layG QdS o y).Pairwise QdS := qZu Yis ho fun x q => Xaa (hx x q y (.head _))
  obtain ⟨h1, h2⟩ := X8E m (layG QdS o y) ho' hm'.2 fun x q z hz => by
   rcases (KO7 o y x).1 q with rfl | q
   ·exact hm'.1 z hz
   ·exact hx x q z (.tail _ hz)
  refine ⟨h1, fun x => ?_⟩
  rw [h2, KO7, List.mem_cons]
  constructor
  ·rintro ((q | q) | q)
   ·exact .inr (.inl q)
   ·exact .inl q
   ·exact .inr (.inr q)
  ·rintro (q | q | q)
   ·exact .inl (.inr q)
   ·exact .inl (.inl q)
   ·exact .inr q
theorem qpB {m : List Hd} (hm : m.Pairwise fun x y => x.1 ≠ y.1) : m.foldl (layG QdS) [] = QBb cfH m := by
 obtain ⟨h1, h2⟩ := X8E m [] List.Pairwise.nil hm fun x q => by cases q
 exact qwU Yis h1 (ZEx hm) fun x => by rw [h2, X4C]; simp
theorem qJC : ∀ (m o : List Hd), (m.foldl (layG QdS) o).length = o.length + m.length
 | [], o => rfl
 | y :: m, o => by
  rw [List.foldl_cons, qJC m, YzH, List.length_cons]
  omega
theorem q52 (a : RG l v ds) (hn : nw.Pairwise QdS) : (chU l v ds nw kp v' ds').foldl (layG QdS) [] = chL l v ds nw kp v' ds' := qpB (zDJ a hn)
end
end Go.Proofs.YtfaccliekejngaaGreat
end
