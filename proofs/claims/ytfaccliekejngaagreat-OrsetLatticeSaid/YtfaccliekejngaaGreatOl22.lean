/- Part 22 of what the laws' proofs rest on. No condition. -/
import Derived.Test.YtfaccliekejngaaGreatOl21
set_option linter.all false
section
namespace Go.Proofs.YtfaccliekejngaaGreat
open Go.Sort
set_option maxRecDepth 100000
set_option maxHeartbeats 4000000
noncomputable def ZhF : List AV → List AB → Option (AV × List AB)
 | [a, b], h => (getI a).bind fun x => (getI b).bind fun y => some (.b (decide (x = y)), h)
 | _, _ => none
theorem J1D : Spec Tryz.prog 82 ZhF := by
 intro args h v h' e
 unfold ZhF at e
 split at e
 ·rename_i a b
  obtain ⟨x, hx, e2⟩ := qAn e
  obtain ⟨y, hy, e3⟩ := qAn e2
  clear e e2
  subst hx hy
  cases e3
  refine FnAt.c (FnAt.run (by kernel_rfl) (T := ⟨[], []⟩) ⟨trivial, trivial⟩ Tryz.func82 sw82 fun ho hh => ?_)
  unfold w82
  simp only [X7h, KtT, YUc, YOT, XuP, simprocAttr, CO.tmps, Opd.tmps, optT, Nat.reducePow, Nat.reduceDiv, Nat.reduceMod, XRz, JUx, Q42, qdy, Y6r]
  exact Bt.dropB _ hh rfl
 ·cases e
open Classical in
noncomputable def Jwy : List AV → List AB → Option (AV × List AB)
 | [s, .f (.func 82) [] []], h => (getS idR h s).bind fun l => match idOf s with
   | [id] => if s = rsl idR id l ∧ h[id]? = some (resB idR true l) ∧ l.length ≤ 1000000 then some (rsl idR id (cpI l), h.set id (resB idR true (cpI l))) else none
   | _ => none
 | _, _ => none
theorem QNo : Spec Tryz.prog 81 Jwy := by
 intro args h v h' e
 unfold Jwy at e
 split at e
 ·rename_i s
  obtain ⟨l, hs, e⟩ := Ksy e
  split at e
  ·rename_i id hid
   split at e
   ·rename_i hc
    cases e
    obtain ⟨h1, h2, h3⟩ := hc
    have hlt := (List.getElem?_eq_some_iff.1 h2).1
    by_cases h0 : l.length < 2
    ·rw [ZdO h0, XUS h2, ← h1]
     refine FnAt.c (FnAt.run (by kernel_rfl) (T := ⟨[], []⟩) ⟨trivial, trivial⟩ Tryz.func81 sw81 fun ho hh => ?_)
     simp only [Xtq, Bool.and_eq_true] at ho
     have f1 := hs.fx ho.1 (sz := 32) rfl
     have g0 : ((l.length : Int) < 2) = True := eq_true (by omega)
     unfold w81
     simp only [X7h, KtT, YUc, XuP, simprocAttr, f1, g0]
     exact ⟨Bt.eq rfl (List.append_nil h), fun q => q.elim⟩
    have hS : rsl idR id l = .sl id 0 l.length l.length (some 32) := by unfold rsl; rw [if_neg (by omega)]; rfl
    rw [h1, hS]
    refine FnAt.c (FnAt.run (by kernel_rfl) (T := ⟨[⟨82, ZhF, fun _ => []⟩], []⟩) ⟨⟨J1D, trivial⟩, trivial⟩ Tryz.func81 sw81 fun ho hh => ?_)
    have hokS := fun L => qU3 (r := idR) hh id true L
    have hokZ := YZ4 hh
    have ld := fun (x : List AB) (o j : Nat) (hj : j < l.length) (q : o = j * 32) => Zua (r := idR) h2 hj q x
    have g0 : ((l.length : Int) < 2) = False := eq_false (by omega)
    unfold w81
    simp only [X7h, KtT, YUc, XuP, simprocAttr, lenV, g0, false_implies, true_and]
    refine KUA (S := Nat) (fun k => l.length - k) (fun k => [.sl id 0 l.length l.length (some 32), .f (.func 82) [] []] ++ tp 3 ++ [.i .i64 k] ++ tp 60) (fun k => 0 < k ∧ k ≤ l.length ∧ ∀ j, 0 < j → j < k → ¬ l.getD j idR.d = l.getD (j - 1) idR.d) 1 ⟨Nat.one_pos, by omega, fun j a b => absurd a (by omega)⟩ (by simp only [YUc, XuP, simprocAttr]) fun k hk => ?_
    obtain ⟨hk0, hk1, hk2⟩ := hk
    by_cases hkl : k < l.length
    ·have g1 : ((k : Int) < (l.length : Int)) = True := eq_true (by omega)
     have g2 : (k - 1 < l.length) = True := eq_true (by omega)
     have e1 : IntKind.i64.wrap ((k : Int) + 1) = ((k + 1 : Nat) : Int) := ZPp (by unfold In64; omega)
     have e2 : IntKind.i64.wrap ((k : Int) - 1) = ((k - 1 : Nat) : Int) := by
      have : (k : Int) - 1 = ((k - 1 : Nat) : Int) := by omega
      rw [this]
      exact ZPp (by unfold In64; omega)
     have l1 := fun x => ld x (0 + k * 32) k hkl (by omega)
     have l2 := fun x => ld x (0 + (k - 1) * 32) (k - 1) (by omega) (by omega)
     simp only [qYM] at l1 l2
     have sK : slL 32 (.sl id 0 l.length l.length (some 32)) (some (.i .i64 (k : Int))) none none = some (.sl id (0 + k * 32) (l.length - k) (l.length - k) (some 32)) := by
      simp [slL, bnd, kcut, hkl, Nat.le_of_lt hkl, Nat.ne_of_gt hk0]
     simp only [YUc, YOT, XuP, simprocAttr, CO.tmps, Opd.tmps, optT, Nat.reducePow, Nat.reduceDiv, Nat.reduceMod, lenV, g1, g2, hkl, iadV, e1, e2, l1, l2, ZhF, zJQ, JN1, hokS, hokZ, AV.ok, z1L, Jmd, hlt, Nat.add_zero, if_true, true_and, decide_true, sK]
     refine ⟨fun q => ?_, fun q => ⟨k + 1, ⟨by omega, by omega, fun j a b => ?_⟩, by omega, Wk.refl _⟩⟩
     ·have hset : h.set id (resB idR true l) = h := XUS h2
      refine QZq (S := Nat × Nat × List Dg) (fun s => l.length - s.1) (fun s => [.sl id 0 l.length l.length (some 32), .f (.func 82) [] []] ++ tp 3 ++ [.i .i64 s.2.1, .sl id (0 + k * 32) (l.length - k) (l.length - k) (some 32), .i .i64 s.1] ++ tp 58) (fun s => h.set id (resB idR true s.2.2) ++ []) (fun s => 0 < s.1 ∧ CmpSt (Eq (α := Dg)) l s.2.2 (k + s.1) s.2.1) (1, k, l) ⟨Nat.one_pos, CmpSt.first (Eq (α := Dg)) l idR.d hk0 hkl hk2 q⟩ (by rw [hset]; exact Bt.wk (by simp only [YUc, XuP, simprocAttr])) fun s hs => ?_
      obtain ⟨j, i, L⟩ := s
      obtain ⟨hj0, st⟩ := hs
      dsimp only at hj0 st ⊢
      have hL := st.len
      have hi := st.lt
      have hle := st.le
      have hi2 : (h.set id (resB idR true L))[id]? = some (resB idR true L) := List.getElem?_set_self hlt
      by_cases hjl : k + j < l.length
      ·have g3 : ((j : Int) < ((l.length - k : Nat) : Int)) = True := eq_true (by omega)
       have g4 : (j < l.length - k) = True := eq_true (by omega)
       have g5 : (j - 1 < l.length - k) = True := eq_true (by omega)
       have e3 : IntKind.i64.wrap ((j : Int) + 1) = ((j + 1 : Nat) : Int) := ZPp (by unfold In64; omega)
       have e4 : IntKind.i64.wrap ((j : Int) - 1) = ((j - 1 : Nat) : Int) := by
        have : (j : Int) - 1 = ((j - 1 : Nat) : Int) := by omega
        rw [this]
        exact ZPp (by unfold In64; omega)
       have e5 : IntKind.i64.wrap ((i : Int) + 1) = ((i + 1 : Nat) : Int) := ZPp (by unfold In64; omega)
       have q1 := fun x => Zua (r := idR) (o := 0 + (k * 32 + j * 32)) (j := k + j) hi2 (by omega) (by rw [qYM]; omega) x
       have q2 := fun x => Zua (r := idR) (o := 0 + (k * 32 + (j - 1) * 32)) (j := k + j - 1) hi2 (by omega) (by rw [qYM]; omega) x
       simp only [qYM, st.getD (Eq (α := Dg)) idR.d (show k + j - 1 ≤ k + j by omega), st.getD (Eq (α := Dg)) idR.d (Nat.le_refl (k + j - 1))] at q1 q2
       simp only [YUc, YOT, XuP, simprocAttr, CO.tmps, Opd.tmps, optT, Nat.reducePow, Nat.reduceDiv, Nat.reduceMod, lenV, g3, g4, g5, iadV, e3, e4, e5, q1, q2, ZhF, zJQ, JN1, hokS, hokZ, AV.ok, z1L, Jmd, hlt, List.length_set, Nat.add_zero, if_true, true_and, decide_true]
       have q3 := fun x => z4G (r := idR) (o := 0 + i * 32) (j := i) (y := l.getD (k + j) idR.d) hi2 (by omega) (by rw [qYM]; omega) (XRz _) x
       have g6 : (i < l.length) = True := eq_true (by omega)
       simp only [qYM, List.set_set] at q3
       simp only [YUc, YOT, XuP, simprocAttr, CO.tmps, Opd.tmps, optT, Nat.reducePow, Nat.reduceDiv, Nat.reduceMod, lenV, g4, g6, iadV, q1, q3, e3, e5, false_implies]
       exact ⟨fun q => ⟨(j + 1, i + 1, L.set i (l.getD (k + j) idR.d)), ⟨Nat.succ_pos _, st.keep (Eq (α := Dg)) idR.d hjl q⟩, by dsimp only; omega, Bt.wk (by simp only [YUc, XuP, simprocAttr])⟩, fun q => ⟨(j + 1, i, L), ⟨Nat.succ_pos _, st.skip (Eq (α := Dg)) idR.d hjl (Classical.not_not.1 q)⟩, by dsimp only; omega, Bt.wk (by simp only [YUc, XuP, simprocAttr])⟩⟩
      ·have g3 : ((j : Int) < ((l.length - k : Nat) : Int)) = False := eq_false (by omega)
       simp only [YUc, XuP, simprocAttr, lenV, g3, false_implies, true_and]
       have g6 : (i < l.length) = True := eq_true (by omega)
       have sI : slL 32 (.sl id 0 l.length l.length (some 32)) (some (.i .i64 (i : Int))) none none = some (.sl id (0 + i * 32) (l.length - i) (l.length - i) (some 32)) := by
        have i0 : i < l.length := by omega
        simp [slL, bnd, kcut, i0, Nat.le_of_lt i0, Nat.ne_of_gt st.pos]
       have sJ : slL 32 (.sl id 0 l.length l.length (some 32)) none (some (.i .i64 (i : Int))) none = some (.sl id 0 i l.length (some 32)) := by
        have i0 : i ≤ l.length := by omega
        simp [slL, bnd, kcut, i0]
       have zi : ∀ (zl : List AV), zl = idR.f ZxW → ∀ x, clrV (h.set id (resB idR true L) ++ x) zl (.sl id (0 + i * 32) (l.length - i) (l.length - i) (some 32)) = some (.tu [], h.set id (resB idR true (L.take i ++ List.replicate (l.length - i) ZxW)) ++ x) := fun zl hz x => by
        rw [hz, ZfV hi2 (by omega) (by omega), List.set_set]
       have zj := zi _ (show (List.replicate 32 (AV.i .u8 0)) = idR.f ZxW from rfl)
       simp only [List.replicate, List.cons_append, List.nil_append] at zj
       simp only [YUc, XuP, simprocAttr, sI, sJ, Ztn, zj]
       have hm : (L.take i ++ List.replicate (l.length - i) ZxW).take i = cpI l := by
        rw [List.take_left' (by rw [List.length_take]; omega), st.hd]
        have : k + j = l.length := by omega
        rw [this, List.take_length]
        rfl
       exact JC5 hlt (by rw [List.length_append, List.length_take, List.length_replicate]; omega) (by omega) (by omega) hm
     ·rcases Nat.eq_or_lt_of_le (Nat.le_of_lt_succ b) with z | z
      ·subst z; exact q
      ·exact hk2 j a z
    ·have g1 : ((k : Int) < (l.length : Int)) = False := eq_false (by omega)
     simp only [YUc, XuP, simprocAttr, lenV, g1, false_implies, true_and]
     have hk3 : k = l.length := by omega
     have ha : cpI l = l := by
      unfold cpI
      have := Kym (Eq (α := Dg)) l idR.d l.length (Nat.le_refl _) (by rw [← hk3]; exact hk2)
      rwa [List.take_length] at this
     rw [ha, hS, XUS h2]
     exact Bt.eq rfl (List.append_nil h)
   ·cases e
  ·cases e
 ·cases e
theorem KRW : Spec Tryz.prog 28 XGL := by
 intro args h v h' e
 unfold XGL at e
 split at e
 ·rename_i l s t
  obtain ⟨hs, hl, e⟩ := Ksy e
  obtain ⟨xs, hv, e⟩ := Ksy e
  obtain ⟨ds, hd, e⟩ := Ksy e
  split at e
  ·rename_i hL
   refine FnAt.c (FnAt.run (by kernel_rfl) (T := ⟨[⟨31, z0u, fun _ => []⟩, ⟨79, KI9, fun _ => []⟩, ⟨81, Jwy, fun _ => []⟩], []⟩) ⟨⟨Xz3, QKN, QNo, trivial⟩, trivial⟩ Tryz.func28 sw28 fun ho hh => ?_)
   simp only [Xtq, J9R, Bool.and_eq_true] at ho
   have f1 := hl.fx ho.1.1 (sz := 34) rfl
   have f2 := hv.fx ho.1.2.1 (sz := 1) rfl
   have f3 := hd.fx ho.1.2.2.1 (sz := 2) rfl
   have hL' : (hs.length ≤ 1000000) = True := eq_true (by omega)
   unfold w28
   by_cases c : KwK hs xs ds = 0
   case neg =>
    rw [if_neg c] at e
    cases e
    have c' := eq_false c
    simp only [X7h, KtT, YUc, YOT, XuP, simprocAttr, CO.tmps, Opd.tmps, optT, Nat.reducePow, Nat.reduceDiv, Nat.reduceMod, f1, f2, f3, z0u, c', hL', ne_eq, not_false_eq_true, not_true_eq_false, decide_true, decide_false]
    exact Bt.drop _ hh rfl (by simp only [Xtq, XSh, JoD, Bool.and_true])
   rw [if_pos c] at e
   cases e
   simp only [X7h, KtT, YUc, YOT, XuP, simprocAttr, CO.tmps, Opd.tmps, optT, Nat.reducePow, Nat.reduceDiv, Nat.reduceMod, f1, f2, f3, z0u, c, hL', ne_eq, not_false_eq_true, not_true_eq_false, decide_true, decide_false]
   have up : ∀ (t : AV), t.ok (fun i => decide (i < h.length)) = true → ∀ c, t.ok (fun i => decide (i < h.length + c)) = true := fun t ht c => AV.ok_mono (fun i q => by simp only [decide_eq_true_eq] at q ⊢; omega) t ht
   have rn : ∀ (t : AV), t.ok (fun i => decide (i < h.length)) = true → ∀ sel, Wk (t.ren (selN h.length sel)) t := fun t ht sel => Wk.ren (fun i hi => q8q hi) ht
   have fo := fun c => And.intro (up l ho.1.1 c) (And.intro (up s ho.1.2.1 c) (up t ho.1.2.2.1 c))
   have fr := fun sel => And.intro (rn l ho.1.1 sel) (And.intro (rn s ho.1.2.1 sel) (rn t ho.1.2.2.1 sel))
   have hS : ∃ Sm : Nat → AV, (∀ i, i < hs.length → Sm i = apS idR (h.length + 1) ((hs.take i).map (·.2))) ∧ Sm hs.length = rsl idR (h.length + 1) (hs.map (·.2)) := ⟨fun i => if i < hs.length then apS idR (h.length + 1) ((hs.take i).map (·.2)) else rsl idR (h.length + 1) (hs.map (·.2)), fun i hi => if_pos hi, if_neg (Nat.lt_irrefl _)⟩
   obtain ⟨Sm, s1, s2⟩ := hS
   refine QZq (S := Nat) (fun i => hs.length - i) (fun i => tp 2 ++ [Sm i] ++ tp 6 ++ [l, .i .i64 hs.length, .i .i64 i] ++ tp 13) (fun i => h ++ [.blk false true [l, s, t], resB idR true ((hs.take i).map (·.2))]) (fun i => i ≤ hs.length) 0 (Nat.zero_le _) ?_ fun i hi => ?_
   ·show Bt _ _ _ _ _ (h ++ ([.blk false true [l, s, t]] ++ List.replicate 1 .dead))
    rw [← List.append_assoc]
    refine Bt.trans (Bt.wk ?_) (Bt.pad _ _ 1)
    have z : Wk (Sm 0) .ns := by
     by_cases q : 0 < hs.length
     ·rw [s1 0 q]; exact Wk.refl _
     ·have : hs = [] := List.eq_nil_of_length_eq_zero (by omega)
      subst this
      rw [show (0 : Nat) = ([] : List Hd).length from rfl, s2]
      exact Wk.nil _ _
    simp only [YUc, XuP, simprocAttr, z]
   ·by_cases gi : i < hs.length
    ·have gi' := eq_true gi
     have e1 : IntKind.i64.wrap ((i : Int) + 1) = ((i + 1 : Nat) : Int) := ZPp (by unfold In64; omega)
     have hst : (hs.take (i + 1)).map (·.2) = (hs.take i).map (·.2) ++ [(hs.getD i Qv4.d).2] := by
      rw [List.take_succ_eq_append_getElem gi, List.map_append, List.getD_eq_getElem?_getD, List.getElem?_eq_getElem gi]
      rfl
     have lo : ((hs.take i).map (·.2)).length = i := by rw [List.length_map, List.length_take]; omega
     have sN : Sm (i + 1) = rsl idR (h.length + 1) ((hs.take (i + 1)).map (·.2)) := by
      by_cases q : i + 1 < hs.length
      ·rw [s1 _ q, ZtS _ (by rw [List.length_map, List.length_take]; omega)]
      ·have : i + 1 = hs.length := by omega
       rw [this, s2, List.take_length]
     rw [hst] at sN
     rw [s1 i gi]
     generalize hx : hs.getD i Qv4.d = x at *
     generalize ho : (hs.take i).map (·.2) = o at *
     have f5 : ∀ (a1 a2 : AB) (y : List AB), ldV (h ++ (a1 :: a2 :: .blk true true (Qv4.f x) :: y)) (some 32) (.p (h.length + 2) 2) = some (.ag (idR.f x.2)) := fun a1 a2 y => by
      rw [XJG]
      simp only [Xvc, ZpD, Option.bind_some, zso]
      rw [if_pos (by decide), Zpe]
     by_cases hB : o = []
     ·have z3 : (1 * 32 ≤ 140737488355328 ∧ 1 ≤ maxLen) = True := eq_true ⟨by decide, by unfold maxLen; omega⟩
      simp only [hB, qY6, YUc, YOT, XuP, simprocAttr, CO.tmps, Opd.tmps, optT, Nat.reducePow, Nat.reduceDiv, Nat.reduceMod, f1, f2, f3, f5, gi', hx, zqp, zso, Zcr, XRz, JUx, Q42, qdy, List.length_cons, List.length_nil, e1, z3]
      refine ⟨i + 1, gi, by dsimp only; omega, ?_⟩
      simp only [sN, hst, hB, List.nil_append, ZMu, zHR]
      exact Bt.sel [0, 4] hh (by decide) (by simp only [qpt, FrSel, BlkSel, AV.ren, renL, AV.ok, okL, Option.some.injEq, exists_eq_left', List.length_cons, List.length_nil, Nat.reduceAdd, Nat.reduceLT, reduceCtorEq, implies_true, exists_eq', fo, fr]) (by simp only [qpt, FrSel, BlkSel, AV.ren, renL, AV.ok, okL, Option.some.injEq, exists_eq_left', List.length_cons, List.length_nil, Nat.reduceAdd, Nat.reduceLT, reduceCtorEq, implies_true, exists_eq', fo, fr, qYM])
     ·have hlB : o.length ≠ 0 := fun q => hB (List.eq_nil_of_length_eq_zero q)
      have gr : ∀ id, apS idR id o = rsl idR id o := fun id => ZtS _ hlB
      have fa := fun L k ys hb => z4z (h := h) (p := h.length) rfl (r := idR) (sz := 32) rfl L k o 32 1 ys hlB hb (by decide) (by omega) (by unfold maxLen; omega)
      simp only [gr, YUc, YOT, XuP, simprocAttr, CO.tmps, Opd.tmps, optT, Nat.reducePow, Nat.reduceDiv, Nat.reduceMod, f1, f2, f3, f5, gi', hx, zqp, zso, Zcr, XRz, JUx, Q42, qdy, List.length_cons, List.length_nil, e1, fa]
      refine ⟨i + 1, gi, by dsimp only; omega, ?_⟩
      simp only [sN, hst, K3g, XJH]
      exact Bt.sel [0, 4] hh (by decide) (by simp only [qpt, FrSel, BlkSel, AV.ren, renL, AV.ok, okL, Option.some.injEq, exists_eq_left', List.length_cons, List.length_nil, Nat.reduceAdd, Nat.reduceLT, reduceCtorEq, implies_true, exists_eq', fo, fr]) (by simp only [qpt, FrSel, BlkSel, AV.ren, renL, AV.ok, okL, Option.some.injEq, exists_eq_left', List.length_cons, List.length_nil, Nat.reduceAdd, Nat.reduceLT, reduceCtorEq, implies_true, exists_eq', fo, fr, qYM])
    ·obtain rfl : i = hs.length := by omega
     have gi' := eq_false gi
     have hlm : ((hs.map (·.2)).length ≤ 1000000) = True := eq_true (by rw [List.length_map]; omega)
     have hls : ((sortP cmpG (hs.map (·.2))).length ≤ 1000000) = True := eq_true (by rw [KYQ q05, List.length_map]; omega)
     have hsr : ∀ id, rsl idR id (hs.map (·.2)) = rsl idR id (sortP cmpG (hs.map (·.2))) := fun id => by unfold rsl; rw [KYQ q05]
     rw [s2, List.take_length]
     simp only [YUc, YOT, XuP, simprocAttr, CO.tmps, Opd.tmps, optT, Nat.reducePow, Nat.reduceDiv, Nat.reduceMod, f1, f2, f3, gi', KI9, Jwy, hlm, qHA, Ju7, zn7]
     have hD : cpI (sortP cmpG (hs.map (·.2))) = dgsL hs := rfl
     simp only [hsr, YUc, XuP, simprocAttr, Jwy, hls, hD, qHA, Ju7, zn7]
     exact Bt.sel [1] hh (by decide) (by simp only [qpt, FrSel, BlkSel, AV.ren, renL, AV.ok, okL, Option.some.injEq, exists_eq_left', List.length_cons, List.length_nil, Nat.reduceAdd, Nat.reduceLT, reduceCtorEq, implies_true, exists_eq']) (by simp only [qpt, FrSel, BlkSel, AV.ren, renL, AV.ok, okL, Option.some.injEq, exists_eq_left', List.length_cons, List.length_nil, Nat.reduceAdd, Nat.reduceLT, reduceCtorEq, implies_true, exists_eq'])
  ·cases e
 ·cases e
end Go.Proofs.YtfaccliekejngaaGreat
end
section
namespace Go.Proofs.YtfaccliekejngaaGreat
section
theorem KDj : ∀ (l : List Dg) (p : Dg), (p :: l).Pairwise (fun x y => ¬ cmpG y x < 0) → (p :: cmps Eq p l).Pairwise JF8 ∧ ∀ d, d ∈ p :: cmps Eq p l ↔ d ∈ p :: l
 | [], p, _ => ⟨List.pairwise_singleton _ _, fun d => by simp [cmps]⟩
 | x :: l, p, h => by
  have hc := List.pairwise_cons.1 h
  have hx := List.pairwise_cons.1 hc.2
  by_cases e : x = p
  ·subst e
   have ih := KDj l x hc.2
   have e2 : cmps Eq x (x :: l) = cmps Eq x l := by simp [cmps]
   rw [e2]
   exact ⟨ih.1, fun d => by rw [ih.2]; simp⟩
  ·have ih := KDj l x hc.2
   have e2 : cmps Eq p (x :: l) = x :: cmps Eq x l := by simp [cmps, e]
   rw [e2]
   have hpx : JF8 p x := by
    rcases ZRA p x with q | q | q
    ·exact q
    ·exact absurd q.symm e
    ·exact absurd q (hc.1 x (.head _))
   refine ⟨List.pairwise_cons.2 ⟨fun y hy => ?_, ih.1⟩, fun d => by rw [List.mem_cons, ih.2, List.mem_cons, List.mem_cons, List.mem_cons]⟩
   rcases List.mem_cons.1 hy with rfl | hy'
   ·exact hpx
   ·exact qqI.tr hpx ((List.pairwise_cons.1 ih.1).1 y hy')
theorem qCq (hs : List Hd) : (dgsL hs).Pairwise JF8 ∧ ∀ d, d ∈ dgsL hs ↔ ∃ x ∈ hs, x.2 = d := by
 have hp := JLO q05 (hs.map (·.2))
 have hr := QfF q05 (hs.map (·.2))
 have hm : ∀ d, d ∈ sortP cmpG (hs.map (·.2)) ↔ ∃ x ∈ hs, x.2 = d := fun d => by rw [hp.mem_iff, List.mem_map]
 unfold dgsL
 generalize sortP cmpG (hs.map (·.2)) = l at hr hm
 cases l with
 | nil => exact ⟨List.Pairwise.nil, hm⟩
 | cons p l =>
  obtain ⟨h1, h2⟩ := KDj l p hr
  exact ⟨h1, fun d => by rw [← hm]; exact h2 d⟩
end
end Go.Proofs.YtfaccliekejngaaGreat
end
section
namespace Go.Proofs.YtfaccliekejngaaGreat
open Go.Sort
set_option maxRecDepth 100000
set_option maxHeartbeats 4000000
noncomputable def QAX : List AV → List AB → Option (AV × List AB)
 | [s, y], h => (getS idR h s).bind fun l => (getI y).bind fun x => some (.i .i64 (idx (fun z : Dg => x = z) l), h)
 | _, _ => none
theorem Q7B : Spec Tryz.prog 127 QAX := by
 intro args h v h' e
 unfold QAX at e
 split at e
 ·rename_i s y
  obtain ⟨l, hl, e⟩ := Ksy e
  obtain ⟨x, hx, e2⟩ := qAn e
  clear e
  subst hx
  cases e2
  refine FnAt.c (FnAt.frz0 fun hz => ?_)
  replace hl := hl.frz
  generalize h.map AB.freeze = h at *
  refine FnAt.run (by kernel_rfl) (T := ⟨[], []⟩) ⟨trivial, trivial⟩ Tryz.func127 QeS fun ho hh => ?_
  simp only [Xtq, J9R, Bool.and_eq_true] at ho
  have f1 := hl.fx ho.1 (sz := 32) rfl
  unfold w127
  simp only [X7h, KtT, YUc, YOT, XuP, simprocAttr, CO.tmps, Opd.tmps, optT, Nat.reducePow, Nat.reduceDiv, Nat.reduceMod, f1, XRz, JUx, Q42, qdy]
  refine KUA (S := Nat) (fun i => l.length - i) (fun i => [s] ++ tp 2 ++ [.p (h.length + 0) 0] ++ tp 3 ++ [.i .i64 l.length, .i .i64 i] ++ tp 10) (fun i => i ≤ l.length ∧ idx (fun z : Dg => x = z) l = qVz (fun z : Dg => x = z) (l.drop i) i) 0 ⟨Nat.zero_le _, rfl⟩ (by simp only [YUc, XuP, simprocAttr]) fun i hi => ?_
  by_cases gi : i < l.length
  ·have gi' := eq_true gi
   have e1 : IntKind.i64.wrap ((i : Int) + 1) = ((i + 1 : Nat) : Int) := ZPp (by have := hl.2; unfold maxLen at this; unfold In64; omega)
   have e2 := JXZ (fun z : Dg => x = z) idR.d i gi
   generalize hy : l.getD i idR.d = y at *
   simp only [YUc, YOT, XuP, simprocAttr, CO.tmps, Opd.tmps, optT, Nat.reducePow, Nat.reduceDiv, Nat.reduceMod, f1, gi', e1, hy, Y6r, Jmd, XRz, JUx, Q42, qdy, zN7 hh, X9n hz, Zf3 hz, QwR hz]
   refine ⟨fun q => Bt.dropI _ hh (by rw [hi.2, e2, if_pos q]), fun q => ⟨i + 1, ⟨gi, by rw [hi.2, e2, if_neg q]⟩, by omega, Wk.refl _⟩⟩
  ·obtain rfl : i = l.length := by omega
   have gi' := eq_false gi
   simp only [YUc, YOT, XuP, simprocAttr, CO.tmps, Opd.tmps, optT, Nat.reducePow, Nat.reduceDiv, Nat.reduceMod, f1, gi']
   exact Bt.dropI _ hh (by rw [hi.2, List.drop_eq_nil_of_le (Nat.le_refl _)]; rfl)
 ·cases e
noncomputable def qjm : List AV → List AB → Option (AV × List AB)
 | [s, y], h => (getS idR h s).bind fun l => (getI y).bind fun x => some (.b (decide (x ∈ l)), h)
 | _, _ => none
theorem QT7 : Spec Tryz.prog 87 qjm := by
 intro args h v h' e
 unfold qjm at e
 split at e
 ·rename_i s y
  obtain ⟨l, hl, e⟩ := Ksy e
  obtain ⟨x, hx, e2⟩ := qAn e
  clear e
  subst hx
  cases e2
  refine FnAt.c (FnAt.run (by kernel_rfl) (T := ⟨[⟨127, QAX, fun _ => []⟩], []⟩) ⟨⟨Q7B, trivial⟩, trivial⟩ Tryz.func87 sw87 fun ho hh => ?_)
  simp only [Xtq, J9R, Bool.and_eq_true] at ho
  have f1 := hl.fx ho.1 (sz := 32) rfl
  unfold w87
  simp only [X7h, KtT, YUc, YOT, XuP, simprocAttr, CO.tmps, Opd.tmps, optT, Nat.reducePow, Nat.reduceDiv, Nat.reduceMod, f1, QAX, zJQ, XRz, JUx, Q42, qdy]
  exact Bt.dropB _ hh (decide_eq_decide.2 ((J0J _ l).trans ⟨fun ⟨z, h1, h2⟩ => by rw [h2]; exact h1, fun q => ⟨_, q, rfl⟩⟩))
 ·cases e
noncomputable def Yzh : List AV → List AB → Option (AV × List AB)
 | [s, y], h => (getS Qv4 h s).bind fun l => (getH y).bind fun x => some (.i .i64 (idx (fun z : Hd => x = z) l), h)
 | _, _ => none
theorem qnH : Spec Tryz.prog 106 Yzh := by
 intro args h v h' e
 unfold Yzh at e
 split at e
 ·rename_i s y
  obtain ⟨l, hl, e⟩ := Ksy e
  obtain ⟨x, hx, e2⟩ := zZl e
  clear e
  subst hx
  cases e2
  refine FnAt.c (FnAt.frz0 fun hz => ?_)
  replace hl := hl.frz
  generalize h.map AB.freeze = h at *
  refine FnAt.run (by kernel_rfl) (T := ⟨[], []⟩) ⟨trivial, trivial⟩ Tryz.func106 JXu fun ho hh => ?_
  simp only [Xtq, J9R, Bool.and_eq_true] at ho
  have f1 := hl.fx ho.1 (sz := 34) rfl
  unfold w106
  simp only [X7h, KtT, YUc, YOT, XuP, simprocAttr, CO.tmps, Opd.tmps, optT, Nat.reducePow, Nat.reduceDiv, Nat.reduceMod, f1, zqp, zso, Zcr, qdy]
  refine KUA (S := Nat) (fun i => l.length - i) (fun i => [s] ++ tp 2 ++ [.p (h.length + 0) 0] ++ tp 3 ++ [.i .i64 l.length, .i .i64 i] ++ tp 10) (fun i => i ≤ l.length ∧ idx (fun z : Hd => x = z) l = qVz (fun z : Hd => x = z) (l.drop i) i) 0 ⟨Nat.zero_le _, rfl⟩ (by simp only [YUc, XuP, simprocAttr]) fun i hi => ?_
  by_cases gi : i < l.length
  ·have gi' := eq_true gi
   have e1 : IntKind.i64.wrap ((i : Int) + 1) = ((i + 1 : Nat) : Int) := ZPp (by have := hl.2; unfold maxLen at this; unfold In64; omega)
   have e2 := JXZ (fun z : Hd => x = z) Qv4.d i gi
   generalize hy : l.getD i Qv4.d = y at *
   simp only [YUc, YOT, XuP, simprocAttr, CO.tmps, Opd.tmps, optT, Nat.reducePow, Nat.reduceDiv, Nat.reduceMod, f1, gi', e1, hy, XjA, YiU, zqp, zso, Zcr, qdy, zN7 hh, X9n hz, Zf3 hz, QwR hz]
   refine ⟨fun q => Bt.dropI _ hh (by rw [hi.2, e2, if_pos q]), fun q => ⟨i + 1, ⟨gi, by rw [hi.2, e2, if_neg q]⟩, by omega, Wk.refl _⟩⟩
  ·obtain rfl : i = l.length := by omega
   have gi' := eq_false gi
   simp only [YUc, YOT, XuP, simprocAttr, CO.tmps, Opd.tmps, optT, Nat.reducePow, Nat.reduceDiv, Nat.reduceMod, f1, gi']
   exact Bt.dropI _ hh (by rw [hi.2, List.drop_eq_nil_of_le (Nat.le_refl _)]; rfl)
 ·cases e
noncomputable def JyP : List AV → List AB → Option (AV × List AB)
 | [s, y], h => (getS Qv4 h s).bind fun l => (getH y).bind fun x => some (.b (decide (x ∈ l)), h)
 | _, _ => none
theorem YbI : Spec Tryz.prog 57 JyP := by
 intro args h v h' e
 unfold JyP at e
 split at e
 ·rename_i s y
  obtain ⟨l, hl, e⟩ := Ksy e
  obtain ⟨x, hx, e2⟩ := zZl e
  clear e
  subst hx
  cases e2
  refine FnAt.c (FnAt.run (by kernel_rfl) (T := ⟨[⟨106, Yzh, fun _ => []⟩], []⟩) ⟨⟨qnH, trivial⟩, trivial⟩ Tryz.func57 sw57 fun ho hh => ?_)
  simp only [Xtq, J9R, Bool.and_eq_true] at ho
  have f1 := hl.fx ho.1 (sz := 34) rfl
  unfold w57
  simp only [X7h, KtT, YUc, YOT, XuP, simprocAttr, CO.tmps, Opd.tmps, optT, Nat.reducePow, Nat.reduceDiv, Nat.reduceMod, f1, Yzh, XMj, zqp, zso, Zcr, qdy]
  exact Bt.dropB _ hh (decide_eq_decide.2 ((J0J _ l).trans ⟨fun ⟨z, h1, h2⟩ => by rw [h2]; exact h1, fun q => ⟨_, q, rfl⟩⟩))
 ·cases e
noncomputable def qa6 : List AV → List AB → Option (AV × List AB)
 | [s, .ag [.i .i64 a, .i .i64 b]], h => (getS dotR h s).bind fun l => some (.i .i64 (idx (fun z : (Int × Int) => (a, b) = z) l), h)
 | _, _ => none
theorem qf0 : Spec Tryz.prog 129 qa6 := by
 intro args h v h' e
 unfold qa6 at e
 split at e
 ·rename_i s a b
  obtain ⟨l, hl, e⟩ := Ksy e
  cases e
  refine FnAt.c (FnAt.frz0 fun hz => ?_)
  replace hl := hl.frz
  generalize h.map AB.freeze = h at *
  refine FnAt.run (by kernel_rfl) (T := ⟨[], []⟩) ⟨trivial, trivial⟩ Tryz.func129 qUs fun ho hh => ?_
  simp only [Xtq, J9R, Bool.and_eq_true] at ho
  have f1 := hl.fx ho.1 (sz := 2) rfl
  unfold w129
  simp only [X7h, KtT, YUc, YOT, XuP, simprocAttr, CO.tmps, Opd.tmps, optT, Nat.reducePow, Nat.reduceDiv, Nat.reduceMod, f1]
  refine KUA (S := Nat) (fun i => l.length - i) (fun i => [s] ++ tp 2 ++ [.p (h.length + 0) 0] ++ tp 3 ++ [.i .i64 l.length, .i .i64 i] ++ tp 10) (fun i => i ≤ l.length ∧ idx (fun z : (Int × Int) => (a, b) = z) l = qVz (fun z : (Int × Int) => (a, b) = z) (l.drop i) i) 0 ⟨Nat.zero_le _, rfl⟩ (by simp only [YUc, XuP, simprocAttr]) fun i hi => ?_
  by_cases gi : i < l.length
  ·have gi' := eq_true gi
   have e1 : IntKind.i64.wrap ((i : Int) + 1) = ((i + 1 : Nat) : Int) := ZPp (by have := hl.2; unfold maxLen at this; unfold In64; omega)
   have e2 := JXZ (fun z : (Int × Int) => (a, b) = z) dotR.d i gi
   generalize hy : l.getD i dotR.d = y at *
   simp only [YUc, YOT, XuP, simprocAttr, CO.tmps, Opd.tmps, optT, Nat.reducePow, Nat.reduceDiv, Nat.reduceMod, f1, gi', e1, hy, eqcG, X5L, zN7 hh, X9n hz, Zf3 hz, QwR hz]
   refine ⟨fun q => Bt.dropI _ hh (by rw [hi.2, e2, if_pos (Prod.ext q.1 q.2)]), fun q => ⟨i + 1, ⟨gi, by rw [hi.2, e2, if_neg fun z => q (by rw [← z]; exact ⟨rfl, rfl⟩)]⟩, by omega, Wk.refl _⟩⟩
  ·obtain rfl : i = l.length := by omega
   have gi' := eq_false gi
   simp only [YUc, YOT, XuP, simprocAttr, CO.tmps, Opd.tmps, optT, Nat.reducePow, Nat.reduceDiv, Nat.reduceMod, f1, gi']
   exact Bt.dropI _ hh (by rw [hi.2, List.drop_eq_nil_of_le (Nat.le_refl _)]; rfl)
 ·cases e
noncomputable def KIO : List AV → List AB → Option (AV × List AB)
 | [s, .ag [.i .i64 a, .i .i64 b]], h => (getS dotR h s).bind fun l => some (.b (decide ((a, b) ∈ l)), h)
 | _, _ => none
theorem zIO : Spec Tryz.prog 90 KIO := by
 intro args h v h' e
 unfold KIO at e
 split at e
 ·rename_i s a b
  obtain ⟨l, hl, e⟩ := Ksy e
  cases e
  refine FnAt.c (FnAt.run (by kernel_rfl) (T := ⟨[⟨129, qa6, fun _ => []⟩], []⟩) ⟨⟨qf0, trivial⟩, trivial⟩ Tryz.func90 sw90 fun ho hh => ?_)
  simp only [Xtq, J9R, Bool.and_eq_true] at ho
  have f1 := hl.fx ho.1 (sz := 2) rfl
  unfold w90
  simp only [X7h, KtT, YUc, YOT, XuP, simprocAttr, CO.tmps, Opd.tmps, optT, Nat.reducePow, Nat.reduceDiv, Nat.reduceMod, f1, qa6]
  exact Bt.dropB _ hh (decide_eq_decide.2 ((J0J _ l).trans ⟨fun ⟨z, h1, h2⟩ => by rw [h2]; exact h1, fun q => ⟨_, q, rfl⟩⟩))
 ·cases e
theorem qW0 {h : List AB} {α : Type} {r : Row α} (l : List α) (L : List AB) (k : Nat) (hk : (h ++ L)[h.length + k]? = some (resB r true l)) (hm : l.length ≤ maxLen) : getS r (h ++ L) (apS r (h.length + k) l) = some l := by
 by_cases h0 : l.length = 0
 ·have : l = [] := List.eq_nil_of_length_eq_zero h0
  subst this
  rw [qY6, Z3U]
 ·rw [ZtS _ h0]
  exact (Qgo hk hm).get
noncomputable def YzU : List AV → List AB → Option (AV × List AB)
 | [.ag [l, s, t], y], h => (getS Qv4 h l).bind fun hs => (getS intR h s).bind fun v => (getS dotR h t).bind fun ds => (getI y).bind fun i => if hs.length ≤ 100000 then some (.b (decide (KwK hs v ds = 0 ∧ ∃ x ∈ hs, x.2 = i)), h) else none
 | _, _ => none
theorem QsO : Spec Tryz.prog 33 YzU := by
 intro args h v h' e
 unfold YzU at e
 split at e
 ·rename_i l s t y
  obtain ⟨hs, hl, e⟩ := Ksy e
  obtain ⟨xs, hv, e⟩ := Ksy e
  obtain ⟨ds, hd, e⟩ := Ksy e
  obtain ⟨i, hi, e2⟩ := qAn e
  clear e
  subst hi
  split at e2
  ·rename_i hL
   cases e2
   refine FnAt.c (FnAt.frz0 fun hz => ?_)
   replace hl := hl.frz
   replace hv := hv.frz
   replace hd := hd.frz
   generalize h.map AB.freeze = h at *
   refine FnAt.run (by kernel_rfl) (T := ⟨[⟨28, XGL, fun _ => []⟩, ⟨87, qjm, fun _ => []⟩], []⟩) ⟨⟨KRW, QT7, trivial⟩, trivial⟩ Tryz.func33 sw33 fun ho hh => ?_
   simp only [Xtq, J9R, Bool.and_eq_true] at ho
   have f1 := hl.fx ho.1.1 (sz := 34) rfl
   have f2 := hv.fx ho.1.2.1 (sz := 1) rfl
   have f3 := hd.fx ho.1.2.2.1 (sz := 2) rfl
   have hL' := eq_true hL
   have hm : ((dgsL hs).length ≤ maxLen) = True := eq_true (by have := q2R hs; unfold maxLen; omega)
   unfold w33
   by_cases c : KwK hs xs ds = 0
   ·have hi := (qCq hs).2 i
    simp only [X7h, KtT, YUc, YOT, XuP, simprocAttr, CO.tmps, Opd.tmps, optT, Nat.reducePow, Nat.reduceDiv, Nat.reduceMod, f1, f2, f3, XGL, qjm, zJQ, c, hL', hm, Jmd, true_and, z1c, zn7, ZTH, XRz, JUx, Q42, qdy, zN7 hh, X9n hz, Zf3 hz, QwR hz]
    exact Bt.dropB _ hh (decide_eq_decide.2 hi)
   ·have c' := eq_false c
    simp only [X7h, KtT, YUc, YOT, XuP, simprocAttr, CO.tmps, Opd.tmps, optT, Nat.reducePow, Nat.reduceDiv, Nat.reduceMod, f1, f2, f3, XGL, qjm, zJQ, Z3U, c', hL', Jmd, true_and, false_and, XRz, JUx, Q42, qdy, zN7 hh, X9n hz, Zf3 hz, QwR hz]
    exact Bt.dropB _ hh (by simp)
  ·cases e2
 ·cases e
noncomputable def QZN : List AV → List AB → Option (AV × List AB)
 | [y, .p j 0], h => match KFj h j with
  | some [s, t] => (getH y).bind fun x => (getS intR h s).bind fun v => (getS dotR h t).bind fun ds => some (.b (decide (¬ (ZmB v ds = 0 ∧ YC2 v ds x.1))), h)
  | _ => none
 | _, _ => none
theorem qFN : Spec Tryz.prog 105 QZN := by
 intro args h v h' e
 unfold QZN at e
 split at e
 ·rename_i y j
  split at e
  ·rename_i s t hb
   obtain ⟨x, hx, e2⟩ := zZl e
   clear e
   subst hx
   obtain ⟨vs, hs, e3⟩ := Ksy e2
   obtain ⟨ds, ht, e4⟩ := Ksy e3
   cases e4
   refine FnAt.c (FnAt.run (by kernel_rfl) (T := ⟨[⟨70, JH4, fun _ => []⟩], []⟩) ⟨⟨q69, trivial⟩, trivial⟩ Tryz.func105 zmN fun ho hh => ?_)
   have fb := YMl hb
   have k1 : ∀ x, getS intR (h ++ x) s = some vs := fun x => (hs.app x).get
   have k2 : ∀ x, getS dotR (h ++ x) t = some ds := fun x => (ht.app x).get
   have kd : ∀ z : Hd, (Qv4.f z).take 2 = [.i .i64 z.1.1, .i .i64 z.1.2] := fun _ => rfl
   unfold w105
   simp only [X7h, KtT, YUc, YOT, XuP, simprocAttr, CO.tmps, Opd.tmps, optT, Nat.reducePow, Nat.reduceDiv, Nat.reduceMod, fb, k1, k2, kd, zqp, zso, Zcr, qdy, JH4]
   exact Bt.dropB _ hh rfl
  ·cases e
 ·cases e
def T_un : List AV → List AB → Option (AV × List AB)
 | [.ag [v, d]], h => if v.isSl = true ∧ d.isSl = true then some (.f (.func 105) [] [.p (h.length + 0) 0], h ++ [.blk false true [v, d]]) else none
 | _, _ => none
theorem XcO : Spec Tryz.prog 55 T_un := by
 intro args h v h' e
 unfold T_un at e
 split at e
 ·rename_i v d
  split at e
  ·rename_i hs
   cases e
   refine FnAt.c (FnAt.run (by kernel_rfl) (T := ⟨[], []⟩) ⟨trivial, trivial⟩ Tryz.func55 sw55 fun ho hh => ?_)
   unfold w55
   simp only [X7h, KtT, YUc, YOT, XuP, simprocAttr, CO.tmps, Opd.tmps, optT, Nat.reducePow, Nat.reduceDiv, Nat.reduceMod, YOF hs.1, YOF hs.2, qLb hs.1]
   exact Bt.eq rfl rfl
  ·cases e
 ·cases e
theorem QCU (x y : Hd) : ∀ (h : List AB), FnC Tryz.prog 108 [.ag (Qv4.f x), .ag (Qv4.f y)] h (.i .i64 (cfH x y)) h := by
 intro h
 refine FnAt.c (FnAt.run (by kernel_rfl) (T := ⟨[⟨109, KyJ, fun _ => []⟩], []⟩) ⟨⟨ZHX, trivial⟩, trivial⟩ Tryz.func108 XJ1 fun ho hh => ?_)
 have kd : ∀ z : Hd, (Qv4.f z).take 2 = [.i .i64 z.1.1, .i .i64 z.1.2] := fun _ => rfl
 unfold w108
 simp only [X7h, KtT, YUc, YOT, XuP, simprocAttr, CO.tmps, Opd.tmps, optT, Nat.reducePow, Nat.reduceDiv, Nat.reduceMod, kd, zqp, zso, Zcr, qdy, KyJ]
 exact Bt.dropI _ hh rfl
theorem zew : Cmps Tryz.prog 108 Qv4 cfH := fun x y h => QCU x y h
open Classical in
noncomputable def XvK : List AV → List AB → Option (AV × List AB)
 | [s, .f (.func 108) [] []], h => (getS Qv4 h s).bind fun l => match idOf s with
   | [id] => if l.length ≤ 1000000 ∧ s = rsl Qv4 id l ∧ h[id]? = some (resB Qv4 true l) then some (.tu [], h.set id (resB Qv4 true (sortP cfH l))) else none
   | _ => none
 | _, _ => none
theorem ZpT : Spec Tryz.prog 107 XvK := by
 intro args h v h' e
 unfold XvK at e
 split at e
 ·rename_i s
  obtain ⟨l, hs, e⟩ := Ksy e
  split at e
  ·rename_i id hid
   split at e
   ·rename_i hc
    cases e
    obtain ⟨h1, rfl, h3⟩ := hc
    exact YS2 (r := Qv4) J5I Tryz.isAgg66 Tryz.sizeOf66 XIa zew XwU qvD l h3 h1
   ·cases e
  ·cases e
 ·cases e
theorem KTN (id : Nat) (l : List Hd) : rsl Qv4 id (sortP cfH l) = rsl Qv4 id l := by
 unfold rsl
 rw [qXy]
open Classical in
noncomputable def K3Y : List AV → List AB → Option (AV × List AB)
 | [s], h => (getS Qv4 h s).bind fun l => match idOf s with
   | [id] => if l.length ≤ 1000000 ∧ s = rsl Qv4 id l ∧ h[id]? = some (resB Qv4 true l) then some (rsl Qv4 id (sortP cfH l), h.set id (resB Qv4 true (sortP cfH l))) else none
   | _ => none
 | _, _ => none
theorem YgO : Spec Tryz.prog 58 K3Y := by
 intro args h v h' e
 have e0 := e
 unfold K3Y at e
 split at e
 ·rename_i s
  obtain ⟨l, hs, e⟩ := Ksy e
  split at e
  ·rename_i id hid
   split at e
   ·rename_i hc
    cases e
    obtain ⟨h1, h2, h3⟩ := hc
    refine FnAt.c (FnAt.run (by kernel_rfl) (T := ⟨[⟨107, XvK, fun _ => []⟩], []⟩) ⟨⟨ZpT, trivial⟩, trivial⟩ Tryz.func58 sw58 fun ho hh => ?_)
    have q : XvK [s, .f (.func 108) [] []] (h ++ []) = some (.tu [], h.set id (resB Qv4 true (sortP cfH l))) := by
     rw [List.append_nil]
     simp only [XvK, hs.get, Option.bind_some, hid]
     rw [if_pos ⟨h1, h2, h3⟩]
    unfold w58
    simp only [X7h, KtT, YUc, YOT, XuP, simprocAttr, CO.tmps, Opd.tmps, optT, Nat.reducePow, Nat.reduceDiv, Nat.reduceMod, q]
    exact Bt.eq (by rw [KTN, h2]) rfl
   ·cases e
  ·cases e
 ·cases e
def wsS : List AV → List Nat
 | [s] => idOf s
 | _ => []
theorem qGt {α : Type} {r : Row α} (i : Nat) (l : List α) : wsS [rsl r i l] = [i] := Ju7 i l
theorem X0b {h : List AB} (L : List AB) (k : Nat) (l : List Hd) (hk : ownM Qv4 l L k) (hl : l.length ≤ 1000000) : K3Y [rsl Qv4 (h.length + k) l] (h ++ L) = some (rsl Qv4 (h.length + k) (sortP cfH l), h ++ L.set k (resB Qv4 true (sortP cfH l))) := by
 have h1 : (h ++ L)[h.length + k]? = some (resB Qv4 true l) := by rw [Qzw]; exact Q6v l L k hk
 have g := (Qgo h1 (by unfold maxLen; omega)).get
 simp only [K3Y, g, Option.bind_some, Ju7]
 rw [if_pos ⟨hl, rfl, h1⟩, qIW]
theorem Q81 (h : List AB) (xs : List Hd) (h0 : xs.length = 0) : FnC Tryz.prog 73 [.se] h (rsl Qv4 h.length xs) (h ++ [resB Qv4 true xs]) := by
 refine FnAt.c (FnAt.run (by kernel_rfl) (T := ⟨[], []⟩) ⟨trivial, trivial⟩ Tryz.func73 sw73 fun ho hh => ?_)
 have fs : ∀ x : List AB, srcV (h ++ x) 34 .se = some (0, []) := fun _ => rfl
 unfold w73
 simp only [X7h, KtT, YUc, XuP, simprocAttr, fs]
 exact Bt.one 0 hh (fun _ => Wk.empty _ _ _ _ _ _) (by simp) (fun h => absurd h0 h)
theorem XIm (h : List AB) (xs : List Hd) (h0 : xs.length = 0) : FnC Tryz.prog 73 [.ns] h (rsl Qv4 h.length xs) (h ++ [resB Qv4 true xs]) := by
 refine FnAt.c (FnAt.run (by kernel_rfl) (T := ⟨[], []⟩) ⟨trivial, trivial⟩ Tryz.func73 sw73 fun ho hh => ?_)
 unfold w73
 simp only [X7h, KtT, YUc, XuP, simprocAttr]
 exact Bt.one0 h0 (Wk.nil _ _)
theorem q8S : Spec Tryz.prog 73 KNP := by
 intro args h v h' e
 unfold KNP at e
 split at e
 ·rename_i a
  obtain ⟨xs, ha, e⟩ := Ksy e
  split at e
  ·rename_i hl
   cases e
   by_cases hk : ∃ id off cap, a = .sl id off 0 cap (some 0)
   ·obtain ⟨id, off, cap, rfl⟩ := hk
    have h0 : xs.length = 0 := by have := ha.len; simp only [lenV, Option.some.injEq] at this; omega
    exact FnC.empty1 (XIm h xs h0) (Q81 h xs h0)
   have hs := ha.isSl
   have hlen := ha.len
   cases a <;> first | (cases hs; done) | skip
   ·rename_i id off len cap k
    have hq : YxE (.sl id off len cap k) .ns = some false := by
     rw [qcJ, if_neg]
     rintro ⟨rfl, rfl⟩
     exact hk ⟨_, _, _, rfl⟩
    refine FnAt.c (FnAt.run (by kernel_rfl) (T := ⟨[], []⟩) ⟨trivial, trivial⟩ Tryz.func73 sw73 fun ho hh => ?_)
    simp only [Xtq, Bool.and_eq_true] at ho
    have fa := ha.fx ho.1 (sz := 34) rfl
    have fs := ha.src (sz := 34) rfl
    unfold w73
    by_cases h0 : xs.length = 0
    ·simp only [X7h, KtT, YUc, XuP, simprocAttr, fa, fs, h0, hq, Yoo]
     exact Bt.one 0 hh (fun _ => Wk.empty _ _ _ _ _ _) (by simp) (fun h => absurd h0 h)
    ·simp only [X7h, KtT, YUc, XuP, simprocAttr, fa, fs, h0, hq, Yoo]
     exact ⟨⟨by omega, by unfold maxLen; omega⟩, Bt.one 1 hh (fun h => absurd h h0) (by simp) (fun _ => ⟨rfl, rfl⟩)⟩
   ·exact Q81 h xs (by simp only [lenV, Option.some.injEq] at hlen; omega)
   ·exact XIm h xs (by simp only [lenV, Option.some.injEq] at hlen; omega)
  ·cases e
 ·cases e
theorem XUD : Spec Tryz.prog 60 KAd := by
 intro args h v h' e
 unfold KAd at e
 split at e
 ·rename_i v d
  obtain ⟨xs, hv, e⟩ := Ksy e
  obtain ⟨ds, hd, e⟩ := Ksy e
  split at e
  ·rename_i hl
   cases e
   refine FnAt.c (FnAt.frz fun hz => ?_)
   rw [show h.length = (h.map AB.freeze).length from (List.length_map _).symm]
   replace hv := hv.frz
   replace hd := hd.frz
   generalize h.map AB.freeze = h at *
   refine FnAt.run (by kernel_rfl) (T := ⟨[⟨112, Jiz, fun _ => []⟩, ⟨72, Q8q, fun _ => []⟩], []⟩) ⟨⟨YZG, XKA, trivial⟩, trivial⟩ Tryz.func60 sw60 fun ho hh => ?_
   simp only [Xtq, J9R, Bool.and_eq_true] at ho
   have f1 := hv.fx ho.1.1 (sz := 1) rfl
   have f2 := hd.fx ho.1.2.1 (sz := 2) rfl
   unfold w60
   simp only [X7h, KtT, YUc, YOT, XuP, simprocAttr, CO.tmps, Opd.tmps, optT, Nat.reducePow, Nat.reduceDiv, Nat.reduceMod, f1, f2, Jiz, Q8q, hl.1, hl.2, zN7 hh, X9n hz, Zf3 hz, QwR hz]
   exact Bt.sel [2, 3] hh (by decide) (by simp only [qpt, FrSel, BlkSel, AV.ren, renL, AV.ok, okL, Option.some.injEq, exists_eq_left', List.length_cons, List.length_nil, Nat.reduceAdd, Nat.reduceLT, reduceCtorEq, implies_true, exists_eq']) (by simp only [qpt, FrSel, BlkSel, AV.ren, renL, AV.ok, okL, Option.some.injEq, exists_eq_left', List.length_cons, List.length_nil, Nat.reduceAdd, Nat.reduceLT, reduceCtorEq, implies_true, exists_eq'])
  ·cases e
 ·cases e
end Go.Proofs.YtfaccliekejngaaGreat
end
section
namespace Go.Proofs.YtfaccliekejngaaGreat
section
variable {la lb lc : List Hd} {va vb vc : List Int} {da db dc : Dots}
theorem ZmD (l l' : List Hd) (v v' : List Int) (ds ds' : Dots) : (jnL l l' v v' ds ds').length ≤ 2 * l.length + l'.length := by
 unfold jnL
 rw [qXy]
 unfold jnU
 rw [List.length_append, List.length_append]
 refine Nat.le_trans (Nat.add_le_add (Nat.add_le_add (List.length_filter_le _ l) (show (outG v' ds' l).length ≤ l.length from List.length_filter_le _ _)) (show (outG v ds l').length ≤ l'.length from List.length_filter_le _ _)) ?_
 omega
theorem KDQ {x : Hd} : x ∈ jnL la lb va vb da db ↔ x ∈ jnU la lb va vb da db := Jit _ x
theorem zs7 {x : Hd} (h : x ∈ jnL la lb va vb da db) : x ∈ la ∨ x ∈ lb := YP4 (KDQ.1 h)
theorem Xac (a : RG la va da) (b : RG lb vb db) {m : List Hd} (hr : m.Pairwise J9g) (hm : ∀ x, x ∈ m ↔ x ∈ jnU la lb va vb da db) : m = jnL la lb va vb da db := Jn.uniq ⟨hr, hm⟩ (zPc a b)
theorem QWi (a : RG la va da) (b : RG lb vb db) (hl : (Zjv va vb da db).2.length ≤ 4096) : RG (jnL la lb va vb da db) (Zjv va vb da db).1 (Zjv va vb da db).2 := (zPc a b).rg a b hl
theorem zU8 (a : RG la va da) (b : RG lb vb db) (g : agreeP la lb) : jnL lb la vb va db da = jnL la lb va vb da db := Xac a b (zPc b a).rise fun x => by rw [KDQ, YKQ g]
theorem QBy (a : RG la va da) (b : RG lb vb db) (g : agreeP la lb) (hl : (Zjv va vb da db).2.length ≤ 4096) : jnL (jnL la lb va vb da db) la (Zjv va vb da db).1 va (Zjv va vb da db).2 da = jnL la lb va vb da db := by
 have ra := QWi a b hl
 have gx : agreeP (jnL la lb va vb da db) la := fun x hx y hy e => by
  rcases zs7 hx with q | q
  ·rw [a.one q hy e]
  ·exact (g y hy x q e.symm).symm
 refine (Xac ra a ra.rise fun x => ?_).symm
 rw [ZAR gx]
 constructor
 ·intro hx
  by_cases hxa : x ∈ la
  ·exact .inl ⟨hx, hxa⟩
  ·refine .inr (.inl ⟨hx, ?_⟩)
   rcases Q3F.1 (KDQ.1 hx) with q | q | q
   ·exact absurd q.1 hxa
   ·exact absurd q.1 hxa
   ·exact q.2
 ·rintro (q | q | q)
  ·exact q.1
  ·exact q.1
  ·exact absurd ((X4j a.nf b.nf _).2 (.inl (a.sn x q.1))) q.2
theorem XPQ (a : NF va da) (b : NF vb db) : Zjv (Zjv va vb da db).1 va (Zjv va vb da db).2 da = Zjv va vb da db := by
 have := (qBj (qBj a b) a).ext (qBj a b) fun d => by
  rw [X4j (qBj a b) a, X4j a b]
  constructor
  ·rintro (q | q)
   ·exact q
   ·exact .inl q
  ·exact .inl
 exact this
theorem QcZ (a : RG la va da) (b : RG lb vb db) (c : RG lc vc dc) (gab : agreeP la lb) (gac : agreeP la lc) (gbc : agreeP lb lc) (h1 : (Zjv va vb da db).2.length ≤ 4096) (h2 : (Zjv vb vc db dc).2.length ≤ 4096) :
  jnL (jnL la lb va vb da db) lc (Zjv va vb da db).1 vc (Zjv va vb da db).2 dc = jnL la (jnL lb lc vb vc db dc) va (Zjv vb vc db dc).1 da (Zjv vb vc db dc).2 :=
 Xac a (QWi b c h2) (zPc (QWi a b h1) c).rise fun x => by rw [KDQ, Ye4 a b c gab gac gbc (zPc a b) (zPc b c)]
end
end Go.Proofs.YtfaccliekejngaaGreat
end
section
namespace Go.Proofs.YtfaccliekejngaaGreat
section
variable {l : List Hd} {v : List Int} {ds : Dots} {nw : List Hd} {kp : Dots} {v' : List Int} {ds' : Dots}
open Classical in
noncomputable def chU (l : List Hd) (v : List Int) (ds : Dots) (nw : List Hd) (kp : Dots) (v' : List Int) (ds' : Dots) : List Hd :=
 (l.filter fun x => decide ((∃ y ∈ nw, y.1 = x.1) ∨ x.1 ∈ kp ∨ ¬ inC v' ds' x.1)) ++ outG v ds nw
theorem qPd {x : Hd} : x ∈ chU l v ds nw kp v' ds' ↔ (x ∈ l ∧ ((∃ y ∈ nw, y.1 = x.1) ∨ x.1 ∈ kp ∨ ¬ inC v' ds' x.1)) ∨ (x ∈ nw ∧ ¬ inC v ds x.1) := by
 unfold chU
 rw [List.mem_append, List.mem_filter, Kct]
 simp only [decide_eq_true_eq]
theorem KIs (a : RG l v ds) (hn : nw.Pairwise J9g) : (chU l v ds nw kp v' ds').Pairwise fun x y => x.1 ≠ y.1 := by
 unfold chU
 refine List.pairwise_append.2 ⟨(KGk a.rise).filter _, KGk (YK6 hn), fun x hx y hy e => ?_⟩
 have h1 := (Kct.1 hy).2
 rw [← e] at h1
 exact h1 (a.sn x (List.mem_filter.1 hx).1)
theorem Qmu : (chU l v ds nw kp v' ds').length ≤ l.length + nw.length := by
 unfold chU
 rw [List.length_append]
 exact Nat.add_le_add (List.length_filter_le _ l) (List.length_filter_le _ nw)
noncomputable def chL (l : List Hd) (v : List Int) (ds : Dots) (nw : List Hd) (kp : Dots) (v' : List Int) (ds' : Dots) : List Hd := sortP cfH (chU l v ds nw kp v' ds')
theorem J7c {x : Hd} : x ∈ chL l v ds nw kp v' ds' ↔ x ∈ chU l v ds nw kp v' ds' := Jit _ x
theorem QeJ (a : RG l v ds) (hn : nw.Pairwise J9g) : (chL l v ds nw kp v' ds').Pairwise J9g := YsH (KIs a hn)
theorem z4D : (chL l v ds nw kp v' ds').length ≤ l.length + nw.length := by
 unfold chL
 rw [qXy]
 exact Qmu
theorem YFR (a : RG l v ds) (b : RG nw v' ds') : chL l v ds nw [] v' ds' = jnL l nw v v' ds ds' := Xac a b (QeJ a b.rise) fun x => by
 rw [J7c, qPd, Q3F]
 constructor
 ·rintro (⟨h1, q | q | q⟩ | h)
  ·exact .inl ⟨h1, q⟩
  ·cases q
  ·exact .inr (.inl ⟨h1, q⟩)
  ·exact .inr (.inr h)
 ·rintro (⟨h1, q⟩ | ⟨h1, q⟩ | h)
  ·exact .inl ⟨h1, .inl q⟩
  ·exact .inl ⟨h1, .inr (.inr q)⟩
  ·exact .inr h
end
end Go.Proofs.YtfaccliekejngaaGreat
end
