/- Part 19 of what the laws' proofs rest on. No condition. -/
import Derived.Test.YtpoojfnmhnedpaaMd18
set_option linter.all false
section
namespace Go.Proofs.Ytpoojfnmhnedpaa
set_option maxRecDepth 100000
set_option maxHeartbeats 4000000
theorem qxv {h : List AB} (L : List AB) (k n m : Nat) (xs ys : List AV) (hb : L[k]? = some (.blk true true xs)) (hx : xs.length = n * 35) (hm : m ≠ 0) (hn : n + m ≤ 1000000) : appW (h ++ L) true 35 64 (.sl (h.length + k) 0 n n (some 35)) m ys = some (.sl (h.length + L.length) 0 (n + m) (n + m) (some 35), h ++ (L.set k .dead ++ [.blk true true (xs ++ ys)])) := by
 have hk := (List.getElem?_eq_some_iff.1 hb).1
 have hg : (h ++ L)[h.length + k]? = some (.blk true true xs) := by rw [YOy]; exact hb
 simp only [appW, hg]
 rw [if_neg hm, if_neg (by omega), if_pos ⟨trivial, by omega, by omega, by unfold maxLen; omega⟩, if_neg (by simp), if_pos ⟨trivial, by decide, trivial, by omega⟩, List.drop_zero, List.length_append, List.set_append_right _ _ (by omega), Nat.add_sub_cancel_left, List.append_assoc]
theorem JnM {h : List AB} (L : List AB) (id n m : Nat) (k : Option Nat) (ys : List AV) (hm : m = 0) : appW (h ++ L) true 35 64 (.sl id 0 n n k) m ys = some (.sl id 0 n n k, h ++ L) := by subst hm; rfl
def desL (k : Int) (c : Dsc) (ls ss : List Dsc) : List Dsc := (if k = 3 then [c] else []) ++ ls ++ ss
theorem Kre (k : Int) (t : List UInt8) (c : Dsc) (ls ss : List Dsc) : (desL k c ls ss).map Dsc.de = allD (JcH k t c ls ss) := by
 unfold desL allD JcH
 dsimp only
 rw [List.map_append, List.map_append]
 split <;> rfl
noncomputable def ZtD : List AV → List AB → Option (AV × List AB)
 | [a], h => (inM h a).bind fun y => if y.2.2.2.2.2.1.length + y.2.2.2.2.2.2.length ≤ 100000 then some (apS deR h.length (desL y.1 y.2.2.1 y.2.2.2.2.2.1 y.2.2.2.2.2.2), h ++ [resB deR true (desL y.1 y.2.2.1 y.2.2.2.2.2.1 y.2.2.2.2.2.2)]) else none
 | _, _ => none
theorem Kzh {P : Program} {h : List AB} (hh : HOk h) {L : List AB} (k : Nat) (hk : k < L.length) (l : List Dsc) {v : AV} (hv : v = apS deR (h.length + k) l) (hb : l.length = 0 ∨ L[k]? = some (resB deR true l)) : Bt P h.length [v] (h ++ L) [apS deR h.length l] (h ++ [resB deR true l]) := by
 subst hv
 refine Bt.sel [k] hh (by simp) ⟨?_, trivial⟩ ⟨.inr ⟨?_, ?_⟩, trivial⟩
 ·rcases hb with h0 | hb
  ·exact ⟨L[k], List.getElem?_eq_getElem hk, by rw [ZQ8 true h0]; trivial⟩
  ·exact ⟨_, hb, of_eq_true (Q13 _ _ _ _)⟩
 ·exact qQd _ _ _ (decide_eq_true (by simp))
 ·rw [JF3, show selN h.length [k] h.length = h.length + k from YiF 0]
  exact Wk.refl _
theorem ZO2 (id : Nat) {l : List Dsc} (h0 : l.length ≠ 0) : apS deR id l = .sl id 0 l.length l.length (some 35) := by unfold apS; rw [if_neg h0]; rfl
theorem ZPd {l : List Dsc} (h0 : l.length ≠ 0) : resB deR true l = .blk true true (deR.cells l) := by unfold resB; rw [if_neg h0]
theorem K5T (a b : List Dsc) : deR.cells (a ++ b) = deR.cells a ++ deR.cells b := by simp only [Row.cells, List.flatMap_append]
theorem X3n (c : Dsc) : deR.cells [c] = deR.f c := by simp [Row.cells]
theorem Ycp : Spec Try.prog 13 ZtD := by
 intro args h v h' e
 unfold ZtD at e
 split at e
 ·rename_i a
  obtain ⟨k, t, c, l, s, ls, ss, rfl, hl, hs, e1⟩ := q2F e
  clear e
  dsimp only at e1
  split at e1
  ·rename_i hlen
   cases e1
   refine FnAt.c (FnAt.frz fun hz => ?_)
   rw [show h.length = (h.map AB.freeze).length from (List.length_map _).symm]
   replace hl := hl.frz
   replace hs := hs.frz
   generalize h.map AB.freeze = h at *
   refine FnAt.run (by kernel_rfl) (T := ⟨[], []⟩) ⟨trivial, trivial⟩ Try.func13 sw13 fun ho hh => ?_
   obtain ⟨c1, c2, c3, c4⟩ := KM0 c l s
   have ca := YNe c hl.isSl hs.isSl
   simp only [JjX, ZWl, QxI, Xx4, Bool.and_eq_true, Bool.and_true] at ho
   obtain ⟨-, -, -, ol, os⟩ := ho
   have fl := hl.fx ol (sz := 35) rfl
   have fs := hs.fx os (sz := 35) rfl
   have sl := hl.src (sz := 35) rfl
   have sl2 := hs.src (sz := 35) rfl
   obtain ⟨b1, b2, b3, b4, b5⟩ := Yeu c
   have hcl : (deR.cells ls).length = ls.length * 35 := deR.cells_len ls
   have hcs : (deR.cells ss).length = ss.length * 35 := deR.cells_len ss
   have z1 : (1 * 64 ≤ 140737488355328 ∧ 1 ≤ maxLen) = True := eq_true ⟨by decide, by unfold maxLen; omega⟩
   have z2 : (ls.length * 64 ≤ 140737488355328 ∧ ls.length ≤ maxLen) = True := eq_true ⟨by omega, by unfold maxLen; omega⟩
   have z3 : (ss.length * 64 ≤ 140737488355328 ∧ ss.length ≤ maxLen) = True := eq_true ⟨by omega, by unfold maxLen; omega⟩
   unfold w13
   by_cases g3 : k = 3
   ·have g3' := eq_true g3
    by_cases gl : ls.length = 0
    ·have gl' := eq_true gl
     by_cases gs : ss.length = 0
     ·have gs' := eq_true gs
      have hd : desL k c ls ss = [c] := by unfold desL; rw [if_pos g3]; rw [List.eq_nil_of_length_eq_zero gl]; rw [List.eq_nil_of_length_eq_zero gs]; try simp
      rw [hd]
      simp only [JaG, Qv6, Zsz, qtO, quq, simprocAttr, CO.tmps, Opd.tmps, optT, Nat.reducePow, Nat.reduceDiv, Nat.reduceMod, c1, c2, c3, c4, ca, b1, b2, b3, b4, b5, Xx4, fl, fs, sl, sl2, z1, z2, z3, zZK, JnM, List.getElem?_cons_zero, List.getElem?_cons_succ, qtq hh, Kxf hz, Xez hz, XWV hz, g3', gl', gs']
      exact Kzh hh 2 (by simp) ([c]) (by rw [ZO2 _ (by first | omega | (simp only [List.length_append, List.length_cons, List.length_nil]; omega))]; try simp only [List.length_append, List.length_cons, List.length_nil, Nat.zero_add, Nat.add_assoc]) (.inr (by rw [ZPd (by first | omega | (simp only [List.length_append, List.length_cons, List.length_nil]; omega))]; try simp only [K5T, X3n, List.getElem?_cons_zero, List.getElem?_cons_succ, List.append_assoc]))
     ·have gs' := eq_false gs
      have hd : desL k c ls ss = [c]++ss := by unfold desL; rw [if_pos g3]; rw [List.eq_nil_of_length_eq_zero gl]; try simp
      rw [hd]
      have fa1 := fun L k hb => qxv (h := h) L k (1) ss.length (deR.f c) (deR.cells ss) hb (by omega) gs (by omega)
      simp only [JaG, Qv6, Zsz, qtO, quq, simprocAttr, CO.tmps, Opd.tmps, optT, Nat.reducePow, Nat.reduceDiv, Nat.reduceMod, c1, c2, c3, c4, ca, b1, b2, b3, b4, b5, Xx4, fl, fs, sl, sl2, z1, z2, z3, zZK, JnM, List.getElem?_cons_zero, List.getElem?_cons_succ, qtq hh, Kxf hz, Xez hz, XWV hz, g3', gl', gs', fa1]
      exact Kzh hh 3 (by simp) ([c]++ss) (by rw [ZO2 _ (by first | omega | (simp only [List.length_append, List.length_cons, List.length_nil]; omega))]; try simp only [List.length_append, List.length_cons, List.length_nil, Nat.zero_add, Nat.add_assoc]) (.inr (by rw [ZPd (by first | omega | (simp only [List.length_append, List.length_cons, List.length_nil]; omega))]; try simp only [K5T, X3n, List.getElem?_cons_zero, List.getElem?_cons_succ, List.append_assoc]))
    ·have gl' := eq_false gl
     by_cases gs : ss.length = 0
     ·have gs' := eq_true gs
      have hd : desL k c ls ss = [c]++ls := by unfold desL; rw [if_pos g3]; rw [List.eq_nil_of_length_eq_zero gs]; try simp
      rw [hd]
      have fa1 := fun L k hb => qxv (h := h) L k (1) ls.length (deR.f c) (deR.cells ls) hb (by omega) gl (by omega)
      simp only [JaG, Qv6, Zsz, qtO, quq, simprocAttr, CO.tmps, Opd.tmps, optT, Nat.reducePow, Nat.reduceDiv, Nat.reduceMod, c1, c2, c3, c4, ca, b1, b2, b3, b4, b5, Xx4, fl, fs, sl, sl2, z1, z2, z3, zZK, JnM, List.getElem?_cons_zero, List.getElem?_cons_succ, qtq hh, Kxf hz, Xez hz, XWV hz, g3', gl', gs', fa1]
      exact Kzh hh 3 (by simp) ([c]++ls) (by rw [ZO2 _ (by first | omega | (simp only [List.length_append, List.length_cons, List.length_nil]; omega))]; try simp only [List.length_append, List.length_cons, List.length_nil, Nat.zero_add, Nat.add_assoc]) (.inr (by rw [ZPd (by first | omega | (simp only [List.length_append, List.length_cons, List.length_nil]; omega))]; try simp only [K5T, X3n, List.getElem?_cons_zero, List.getElem?_cons_succ, List.append_assoc]))
     ·have gs' := eq_false gs
      have hd : desL k c ls ss = [c]++ls++ss := by unfold desL; rw [if_pos g3]; try simp
      rw [hd]
      have fa1 := fun L k hb => qxv (h := h) L k (1) ls.length (deR.f c) (deR.cells ls) hb (by omega) gl (by omega)
      have fa2 := fun L k hb => qxv (h := h) L k (1 + ls.length) ss.length (deR.f c ++ deR.cells ls) (deR.cells ss) hb (by simp only [List.length_append, b1, hcl, hcs]; omega) gs (by omega)
      simp only [JaG, Qv6, Zsz, qtO, quq, simprocAttr, CO.tmps, Opd.tmps, optT, Nat.reducePow, Nat.reduceDiv, Nat.reduceMod, c1, c2, c3, c4, ca, b1, b2, b3, b4, b5, Xx4, fl, fs, sl, sl2, z1, z2, z3, zZK, JnM, List.getElem?_cons_zero, List.getElem?_cons_succ, qtq hh, Kxf hz, Xez hz, XWV hz, g3', gl', gs', fa1, fa2]
      exact Kzh hh 4 (by simp) ([c]++ls++ss) (by rw [ZO2 _ (by first | omega | (simp only [List.length_append, List.length_cons, List.length_nil]; omega))]; try simp only [List.length_append, List.length_cons, List.length_nil, Nat.zero_add, Nat.add_assoc]) (.inr (by rw [ZPd (by first | omega | (simp only [List.length_append, List.length_cons, List.length_nil]; omega))]; try simp only [K5T, X3n, List.getElem?_cons_zero, List.getElem?_cons_succ, List.append_assoc]))
   ·have g3' := eq_false g3
    by_cases gl : ls.length = 0
    ·have gl' := eq_true gl
     by_cases gs : ss.length = 0
     ·have gs' := eq_true gs
      have hd : desL k c ls ss = [] := by unfold desL; rw [if_neg g3]; rw [List.eq_nil_of_length_eq_zero gl]; rw [List.eq_nil_of_length_eq_zero gs]; try simp
      rw [hd]
      simp only [JaG, Qv6, Zsz, qtO, quq, simprocAttr, CO.tmps, Opd.tmps, optT, Nat.reducePow, Nat.reduceDiv, Nat.reduceMod, c1, c2, c3, c4, ca, b1, b2, b3, b4, b5, Xx4, fl, fs, sl, sl2, z1, z2, z3, zZK, JnM, List.getElem?_cons_zero, List.getElem?_cons_succ, qtq hh, Kxf hz, Xez hz, XWV hz, g3', gl', gs']
      exact Kzh hh 0 (by simp) [] rfl (.inl rfl)
     ·have gs' := eq_false gs
      have hd : desL k c ls ss = ss := by unfold desL; rw [if_neg g3]; rw [List.eq_nil_of_length_eq_zero gl]; try simp
      rw [hd]
      simp only [JaG, Qv6, Zsz, qtO, quq, simprocAttr, CO.tmps, Opd.tmps, optT, Nat.reducePow, Nat.reduceDiv, Nat.reduceMod, c1, c2, c3, c4, ca, b1, b2, b3, b4, b5, Xx4, fl, fs, sl, sl2, z1, z2, z3, zZK, JnM, List.getElem?_cons_zero, List.getElem?_cons_succ, qtq hh, Kxf hz, Xez hz, XWV hz, g3', gl', gs']
      exact Kzh hh 1 (by simp) (ss) (by rw [ZO2 _ (by first | omega | (simp only [List.length_append, List.length_cons, List.length_nil]; omega))]; try simp only [List.length_append, List.length_cons, List.length_nil, Nat.zero_add, Nat.add_assoc]) (.inr (by rw [ZPd (by first | omega | (simp only [List.length_append, List.length_cons, List.length_nil]; omega))]; try simp only [K5T, X3n, List.getElem?_cons_zero, List.getElem?_cons_succ, List.append_assoc]))
    ·have gl' := eq_false gl
     by_cases gs : ss.length = 0
     ·have gs' := eq_true gs
      have hd : desL k c ls ss = ls := by unfold desL; rw [if_neg g3]; rw [List.eq_nil_of_length_eq_zero gs]; try simp
      rw [hd]
      simp only [JaG, Qv6, Zsz, qtO, quq, simprocAttr, CO.tmps, Opd.tmps, optT, Nat.reducePow, Nat.reduceDiv, Nat.reduceMod, c1, c2, c3, c4, ca, b1, b2, b3, b4, b5, Xx4, fl, fs, sl, sl2, z1, z2, z3, zZK, JnM, List.getElem?_cons_zero, List.getElem?_cons_succ, qtq hh, Kxf hz, Xez hz, XWV hz, g3', gl', gs']
      exact Kzh hh 1 (by simp) (ls) (by rw [ZO2 _ (by first | omega | (simp only [List.length_append, List.length_cons, List.length_nil]; omega))]; try simp only [List.length_append, List.length_cons, List.length_nil, Nat.zero_add, Nat.add_assoc]) (.inr (by rw [ZPd (by first | omega | (simp only [List.length_append, List.length_cons, List.length_nil]; omega))]; try simp only [K5T, X3n, List.getElem?_cons_zero, List.getElem?_cons_succ, List.append_assoc]))
     ·have gs' := eq_false gs
      have hd : desL k c ls ss = ls++ss := by unfold desL; rw [if_neg g3]; try simp
      rw [hd]
      have fa1 := fun L k hb => qxv (h := h) L k (ls.length) ss.length (deR.cells ls) (deR.cells ss) hb (by omega) gs (by omega)
      simp only [JaG, Qv6, Zsz, qtO, quq, simprocAttr, CO.tmps, Opd.tmps, optT, Nat.reducePow, Nat.reduceDiv, Nat.reduceMod, c1, c2, c3, c4, ca, b1, b2, b3, b4, b5, Xx4, fl, fs, sl, sl2, z1, z2, z3, zZK, JnM, List.getElem?_cons_zero, List.getElem?_cons_succ, qtq hh, Kxf hz, Xez hz, XWV hz, g3', gl', gs', fa1]
      exact Kzh hh 2 (by simp) (ls++ss) (by rw [ZO2 _ (by first | omega | (simp only [List.length_append, List.length_cons, List.length_nil]; omega))]; try simp only [List.length_append, List.length_cons, List.length_nil, Nat.zero_add, Nat.add_assoc]) (.inr (by rw [ZPd (by first | omega | (simp only [List.length_append, List.length_cons, List.length_nil]; omega))]; try simp only [K5T, X3n, List.getElem?_cons_zero, List.getElem?_cons_succ, List.append_assoc]))
  ·cases e1
 ·cases e
end Go.Proofs.Ytpoojfnmhnedpaa
end
section
namespace Go.Proofs.Ytpoojfnmhnedpaa
set_option maxRecDepth 100000
set_option maxHeartbeats 4000000
structure EB (k : Int) (t : List UInt8) (c : Dsc) (ls ss : List Dsc) : Prop where
 k : In64 k
 t : t.length ≤ 1000000
 c : DB c
 n : ls.length + ss.length ≤ 1000
 d : ∀ d ∈ ls ++ ss, DB d
open Classical in
noncomputable def QYF : List AV → List AB → Option (AV × List AB)
 | [a], h => (inM h a).bind fun y => if EB y.1 y.2.1 y.2.2.1 y.2.2.2.2.2.1 y.2.2.2.2.2.2 then
   some (.tu [rsl Xdl h.length (menc (JcH y.1 y.2.1 y.2.2.1 y.2.2.2.2.2.1 y.2.2.2.2.2.2)).1, .i .i64 (menc (JcH y.1 y.2.1 y.2.2.1 y.2.2.2.2.2.1 y.2.2.2.2.2.2)).2], h ++ [resB Xdl true (menc (JcH y.1 y.2.1 y.2.2.1 y.2.2.2.2.2.1 y.2.2.2.2.2.2)).1]) else none
 | _, _ => none
theorem ZAd {P : Program} {h : List AB} (hh : HOk h) (L : List AB) (e : Int) : Bt P h.length [.tu [.ns, .i .i64 e]] (h ++ L) [.tu [rsl Xdl h.length [], .i .i64 e]] (h ++ [resB Xdl true []]) := by
 refine Bt.trans (Bt.wk1 (Wk.tu (l' := [rsl Xdl h.length [], .i .i64 e]) ⟨Wk.nil _ _, Wk.refl _, trivial⟩)) ?_
 exact Bt.trans (Bt.drop (P := P) (v := .tu [rsl Xdl h.length [], .i .i64 e]) (a := .tu [rsl Xdl h.length [], .i .i64 e]) L hh rfl rfl) (Bt.pad _ _ 1)
theorem JHJ : Spec Try.prog 11 QYF := by
 intro args h v h' e
 unfold QYF at e
 split at e
 ·rename_i a
  obtain ⟨k, t, c, l, s, ls, ss, rfl, hl, hs, e1⟩ := q2F e
  clear e
  dsimp only at e1
  split at e1
  ·rename_i B
   cases e1
   obtain ⟨Bk, Bt0, Bc, Bn, Bd⟩ := B
   have T0 : ∀ x : MEnv, True := fun _ => trivial
   obtain ⟨p, hp⟩ : ∃ p, p = h.length := ⟨_, rfl⟩
   obtain ⟨x, hx⟩ : ∃ x : MEnv, x = ⟨p + 2, p + 6, p + 4, p + 0, p + 5, k, t, c, l, s, ls, ss⟩ := ⟨_, rfl⟩
   refine FnAt.c (FnAt.run (by kernel_rfl) (T := ⟨[⟨31, zyD, fun _ => []⟩, ⟨13, ZtD, fun _ => []⟩, ⟨32, KOP, fun _ => []⟩, ⟨27, YQp, fun _ => []⟩, ⟨39, XHy x, fun _ => []⟩], []⟩) ⟨⟨QH7, Ycp, JTM, KRk, XTG x, trivial⟩, trivial⟩ Try.func11 sw11 fun ho hh => ?_)
   obtain ⟨c1, c2, c3, c4⟩ := KM0 c l s
   have ca := YNe c hl.isSl hs.isSl
   simp only [JjX, ZWl, QxI, Xx4, Bool.and_eq_true, Bool.and_true] at ho
   obtain ⟨-, -, -, ol, os⟩ := ho
   have fl := hl.fx ol (sz := 35) rfl
   have fs := hs.fx os (sz := 35) rfl
   have im : ∀ L, inM (h ++ L) (.ag (.i .i64 k :: .s t :: (deR.f c ++ [l, s]))) = some (k, t, c, l, s, ls, ss) := fun L => Kkh (hl.app L).get (hs.app L).get
   have tm : ((deR.f c ++ [l, s]).take 37) = deR.f c ++ [l, s] := List.take_of_length_le (by omega)
   have n1 : (ls.length + ss.length ≤ 100000) = True := eq_true (by omega)
   have hany : (desL k c ls ss).any (fun d => negD d.de) = (allD (JcH k t c ls ss)).any negD := by
    rw [← Kre k t c ls ss, List.any_map]
    rfl
   have hdl : (desL k c ls ss).length ≤ maxLen := by
    unfold desL maxLen
    rw [List.length_append, List.length_append]
    split <;> simp <;> omega
   have gd : ∀ (B0 : AB) (R : List AB), getS deR (h ++ (B0 :: resB deR true (desL k c ls ss) :: R)) (apS deR (h.length + 1) (desL k c ls ss)) = some (desL k c ls ss) := fun B0 R => by
    by_cases h0 : (desL k c ls ss).length = 0
    ·rw [List.eq_nil_of_length_eq_zero h0, qnP, JSC]
    ·rw [ZLk _ h0]
     exact KY6 (r := deR) (B0 :: resB deR true (desL k c ls ss) :: R) 1 _ ⟨true, rfl⟩ hdl
   unfold w11
   by_cases g1 : Q55 (JcH k t c ls ss) = true
   case neg =>
    have g1' : Q55 (JcH k t c ls ss) = false := by simpa using g1
    have hr : menc (JcH k t c ls ss) = ([], 20) := by unfold menc; rw [if_neg g1]
    rw [hr]
    simp only [JaG, Qv6, Zsz, qtO, quq, simprocAttr, CO.tmps, Opd.tmps, optT, Nat.reducePow, Nat.reduceDiv, Nat.reduceMod, c1, ca, tm, im, g1', zyD]
    exact ZAd hh _ 20
   by_cases g2 : (allD (JcH k t c ls ss)).any negD = true
   ·have hr : menc (JcH k t c ls ss) = ([], 3) := by unfold menc; rw [if_pos g1, if_pos g2]
    rw [hr]
    simp only [JaG, Qv6, Zsz, qtO, quq, simprocAttr, CO.tmps, Opd.tmps, optT, Nat.reducePow, Nat.reduceDiv, Nat.reduceMod, c1, ca, tm, im, g1, n1, gd, hany, g2, zyD, ZtD, KOP]
    exact ZAd hh _ 3
   have g2' : (allD (JcH k t c ls ss)).any negD = false := by simpa using g2
   by_cases g3 : 16 < ls.length
   ·have g3' : ((16 : Int) < (ls.length : Int)) = True := eq_true (by omega)
    have hr : menc (JcH k t c ls ss) = ([], 4) := by
     unfold menc
     rw [if_pos g1, if_neg g2, if_pos]
     exact .inl (by unfold JcH; simpa using g3)
    rw [hr]
    simp only [JaG, Qv6, Zsz, qtO, quq, simprocAttr, CO.tmps, Opd.tmps, optT, Nat.reducePow, Nat.reduceDiv, Nat.reduceMod, c1, c2, c3, ca, tm, im, fl, fs, g1, n1, gd, hany, g2', g3', zyD, ZtD, KOP]
    exact ZAd hh _ 4
   have g3' : ((16 : Int) < (ls.length : Int)) = False := eq_false (by omega)
   by_cases g4 : 8 < ss.length
   ·have g4' : ((8 : Int) < (ss.length : Int)) = True := eq_true (by omega)
    have hr : menc (JcH k t c ls ss) = ([], 4) := by
     unfold menc
     rw [if_pos g1, if_neg g2, if_pos]
     exact .inr (by unfold JcH; simpa using g4)
    rw [hr]
    simp only [JaG, Qv6, Zsz, qtO, quq, simprocAttr, CO.tmps, Opd.tmps, optT, Nat.reducePow, Nat.reduceDiv, Nat.reduceMod, c1, c2, c3, ca, tm, im, fl, fs, g1, n1, gd, hany, g2', g3', g4', zyD, ZtD, KOP]
    exact ZAd hh _ 4
   have g4' : ((8 : Int) < (ss.length : Int)) = False := eq_false (by omega)
   have hr : menc (JcH k t c ls ss) = (XJQ (seqR 4096 ([], 0) (JcH k t c ls ss) 5).2 (seqR 4096 ([], 0) (JcH k t c ls ss) 5).1, (seqR 4096 ([], 0) (JcH k t c ls ss) 5).2) := by
    unfold menc
    rw [if_pos g1, if_neg g2, if_neg]
    unfold JcH
    simp only [List.length_map]
    omega
   rw [hr]
   obtain ⟨st, hst⟩ : ∃ st, st = seqR 4096 ([], 0) (JcH k t c ls ss) 5 := ⟨_, rfl⟩
   rw [← hst]
   subst hp
   have ta : ∀ B1 : AB, XHy x [.p (h.length + 2) 0, .sl (h.length + 6) 0 5 5 none] (h ++ [.blk false true (.i .i64 k :: .s t :: (deR.f c ++ [l, s])), B1, .blk false true [.p (h.length + 3) 0, .i .i64 4096, .ns], .blk true true [.i .i64 0, .i .i64 0], .blk false true [.p (h.length + 2) 0], .blk false true [.f (.func 34) [] [.p (h.length + 4) 0]], .blk false true [.f (.func 40) [] [.p (h.length + 4) 0], .f (.func 41) [] [.p (h.length + 4) 0, .p (h.length + 0) 0], .f (.func 42) [] [.p (h.length + 4) 0, .p (h.length + 0) 0], .f (.func 36) [] [.p (h.length + 0) 0, .p (h.length + 5) 0], .f (.func 37) [] [.p (h.length + 0) 0, .p (h.length + 4) 0, .p (h.length + 5) 0]]]) = some (.tu [rsl Xdl (h.length + 7) (XJQ st.2 st.1), .i .i64 st.2], h ++ [.blk false true (.i .i64 k :: .s t :: (deR.f c ++ [l, s])), B1, .dead, .dead, .blk false true [.p (h.length + 2) 0], .blk false true [.f (.func 34) [] [.p (h.length + 4) 0]], .blk false true [.f (.func 40) [] [.p (h.length + 4) 0], .f (.func 41) [] [.p (h.length + 4) 0, .p (h.length + 0) 0], .f (.func 42) [] [.p (h.length + 4) 0, .p (h.length + 0) 0], .f (.func 36) [] [.p (h.length + 0) 0, .p (h.length + 5) 0], .f (.func 37) [] [.p (h.length + 0) 0, .p (h.length + 4) 0, .p (h.length + 5) 0]], resB Xdl true (XJQ st.2 st.1)]) := fun B1 => by
    generalize hLL : [.blk false true (.i .i64 k :: .s t :: (deR.f c ++ [l, s])), B1, .blk false true [.p (h.length + 3) 0, .i .i64 4096, .ns], .blk true true [.i .i64 0, .i .i64 0], .blk false true [.p (h.length + 2) 0], .blk false true [.f (.func 34) [] [.p (h.length + 4) 0]], .blk false true [.f (.func 40) [] [.p (h.length + 4) 0], .f (.func 41) [] [.p (h.length + 4) 0, .p (h.length + 0) 0], .f (.func 42) [] [.p (h.length + 4) 0, .p (h.length + 0) 0], .f (.func 36) [] [.p (h.length + 0) 0, .p (h.length + 5) 0], .f (.func 37) [] [.p (h.length + 0) 0, .p (h.length + 4) 0, .p (h.length + 5) 0]]] = LL
    have W : WrH (h ++ LL) (h.length + 2) (h.length + 3) 4096 .ns [] 0 := ⟨by rw [YOy, ← hLL]; rfl, by rw [YOy, ← hLL]; rfl, by decide, by decide, .inl ⟨rfl, rfl⟩⟩
    have E : EnvH (h ++ LL) x := by
     rw [hx]
     exact ⟨by rw [YHH, ← hLL]; simp only [J5f, Q9y], by rw [YHH, ← hLL]; simp only [J5f, Q9y], by rw [YHH, ← hLL]; simp only [J5f, Q9y], by rw [YHH, ← hLL]; simp only [J5f, Q9y], hl.app LL, hs.app LL⟩
    have EBx : EnvB x := by
     rw [hx]
     exact ⟨Bk, Bt0, Bc, Bn, Bd⟩
    have hi : x.i = h.length + 2 := by rw [hx]
    have hf : x.fid = h.length + 6 := by rw [hx]
    have hm : x.man = JcH k t c ls ss := by rw [hx]; rfl
    unfold XHy
    rw [if_pos ⟨by rw [hi, hf], E, EBx⟩, hi, W.get, Option.bind_some]
    dsimp only
    rw [if_pos ⟨rfl, by decide, rfl⟩, hm, ← hst, Y2K, Y2K, List.length_append, List.append_assoc, ← hLL]
    rfl
   have np1 : AV.np.one = true := rfl
   have nf1 : AV.nf.one = true := rfl
   simp only [JaG, Qv6, Zsz, qtO, quq, simprocAttr, CO.tmps, Opd.tmps, optT, Nat.reducePow, Nat.reduceDiv, Nat.reduceMod, c1, c2, c3, ca, tm, im, fl, fs, g1, n1, gd, hany, g2', g3', g4', np1, nf1, ta, zyD, ZtD, KOP, YQp]
   exact Bt.sel [7] hh (by simp) ⟨⟨_, rfl, of_eq_true (Q13 _ _ _ _)⟩, trivial⟩ ⟨.inr ⟨by rw [Jiv, JjX, YAk _ _ _ (decide_eq_true (by simp))]; rfl, by simp only [AV.ren, renL, qSu]; rw [show selN h.length [7] h.length = h.length + 7 from YiF 0]; exact Wk.refl _⟩, trivial⟩
  ·cases e1
 ·cases e
end Go.Proofs.Ytpoojfnmhnedpaa
end
section
namespace Go.Proofs.Ytpoojfnmhnedpaa
set_option maxRecDepth 100000
set_option maxHeartbeats 4000000
theorem Qqg (x y : List UInt8) : binV .eql (.s x) (.s y) = some (.b (decide (x = y))) := by
 rw [K8l]
 congr 2
 exact Bool.eq_iff_iff.2 (by simp)
abbrev MT := Int × List UInt8 × Dsc × AV × AV × List Dsc × List Dsc
def MT.key (x : MT) : Int × List UInt8 × Dsc × List Dsc × List Dsc := (x.1, x.2.1, x.2.2.1, x.2.2.2.2.2.1, x.2.2.2.2.2.2)
noncomputable def Khp : List AV → List AB → Option (AV × List AB)
 | [a, b], h => (inM h a).bind fun x => (inM h b).bind fun y => some (.b (decide (MT.key x = MT.key y)), h)
 | _, _ => none
theorem KXT : Spec Try.prog 18 Khp := by
 intro args h v h' e
 unfold Khp at e
 split at e
 ·rename_i a b
  obtain ⟨k, t, c, l, s, ls, ss, rfl, hl, hs, e1⟩ := q2F e
  clear e
  obtain ⟨k', t', c', l', s', ls', ss', rfl, hl', hs', e2⟩ := q2F e1
  clear e1
  cases e2
  refine FnAt.c (FnAt.run (by kernel_rfl) (T := ⟨[⟨15, YEH, fun _ => []⟩], []⟩) ⟨⟨Klo, trivial⟩, trivial⟩ Try.func18 sw18 fun ho hh => ?_)
  obtain ⟨c1, c2, c3, c4⟩ := KM0 c l s
  obtain ⟨d1, d2, d3, d4⟩ := KM0 c' l' s'
  have ca := YNe c hl.isSl hs.isSl
  have da := YNe c' hl'.isSl hs'.isSl
  have z1 := qAd c c'
  have g1 : ∀ L, getS deR (h ++ L) l = some ls := fun L => (hl.app L).get
  have g2 : ∀ L, getS deR (h ++ L) s = some ss := fun L => (hs.app L).get
  have g3 : ∀ L, getS deR (h ++ L) l' = some ls' := fun L => (hl'.app L).get
  have g4 : ∀ L, getS deR (h ++ L) s' = some ss' := fun L => (hs'.app L).get
  have r1 : (2 + 35 ≤ 37 + 1 + 1) = True := eq_true (by omega)
  have key : decide (MT.key (k, t, c, l, s, ls, ss) = MT.key (k', t', c', l', s', ls', ss')) = decide (k = k' ∧ t = t' ∧ c = c' ∧ ls = ls' ∧ ss = ss') := by
   unfold MT.key
   exact decide_eq_decide.2 (by simp only [Prod.mk.injEq])
  rw [key]
  unfold w18
  by_cases q1 : k = k'
  case neg =>
   have q1' := eq_false q1
   rw [decide_eq_false fun q => q1 q.1]
   simp only [JaG, Qv6, Zsz, qtO, quq, simprocAttr, CO.tmps, Opd.tmps, optT, Nat.reducePow, Nat.reduceDiv, Nat.reduceMod, c1, c2, c3, c4, d1, d2, d3, d4, ca, da, q1']
   exact Bt.drop _ hh rfl rfl
  have q1' := eq_true q1
  by_cases q2 : t = t'
  case neg =>
   have q2' := eq_false q2
   rw [decide_eq_false fun q => q2 q.2.1]
   simp only [JaG, Qv6, Zsz, qtO, quq, simprocAttr, CO.tmps, Opd.tmps, optT, Nat.reducePow, Nat.reduceDiv, Nat.reduceMod, Qqg, c1, c2, c3, c4, d1, d2, d3, d4, ca, da, q1', q2']
   exact Bt.drop _ hh rfl rfl
  have q2' := eq_true q2
  by_cases q3 : c = c'
  case neg =>
   have q3' := eq_false q3
   rw [decide_eq_false fun q => q3 q.2.2.1]
   simp only [JaG, Qv6, Zsz, qtO, quq, simprocAttr, CO.tmps, Opd.tmps, optT, Nat.reducePow, Nat.reduceDiv, Nat.reduceMod, Qqg, c1, c2, c3, c4, d1, d2, d3, d4, ca, da, z1, q1', q2', q3']
   exact Bt.drop _ hh rfl rfl
  have q3' := eq_true q3
  by_cases q4 : ls = ls'
  case neg =>
   have q4' := eq_false q4
   rw [decide_eq_false fun q => q4 q.2.2.2.1]
   simp only [JaG, Qv6, Zsz, qtO, quq, simprocAttr, CO.tmps, Opd.tmps, optT, Nat.reducePow, Nat.reduceDiv, Nat.reduceMod, Qqg, c1, c2, c3, c4, d1, d2, d3, d4, ca, da, z1, g1, g3, q1', q2', q3', q4', YEH]
   exact Bt.drop _ hh rfl rfl
  have q4' := eq_true q4
  have kk : decide (k = k' ∧ t = t' ∧ c = c' ∧ ls = ls' ∧ ss = ss') = decide (ss = ss') := decide_eq_decide.2 ⟨fun q => q.2.2.2.2, fun q => ⟨q1, q2, q3, q4, q⟩⟩
  rw [kk]
  simp only [JaG, Qv6, Zsz, qtO, quq, simprocAttr, CO.tmps, Opd.tmps, optT, Nat.reducePow, Nat.reduceDiv, Nat.reduceMod, Qqg, c1, c2, c3, c4, d1, d2, d3, d4, ca, da, z1, g1, g2, g3, g4, q1', q2', q3', q4', YEH]
  exact Bt.drop _ hh rfl rfl
 ·cases e
open Classical in
noncomputable def Ybe : List AV → List AB → Option (AV × List AB)
 | [a, .i .i64 e], h => (inM h a).bind fun y => if EB y.1 y.2.1 y.2.2.1 y.2.2.2.2.2.1 y.2.2.2.2.2.2 then
   some (.b (decide ((menc (JcH y.1 y.2.1 y.2.2.1 y.2.2.2.2.2.1 y.2.2.2.2.2.2)).1.length = 0 ∧ (menc (JcH y.1 y.2.1 y.2.2.1 y.2.2.2.2.2.1 y.2.2.2.2.2.2)).2 = e)), h) else none
 | _, _ => none
theorem KvC : Spec Try.prog 24 Ybe := by
 intro args h v h' e
 unfold Ybe at e
 split at e
 ·rename_i a er
  obtain ⟨k, t, c, l, s, ls, ss, rfl, hl, hs, e1⟩ := q2F e
  clear e
  dsimp only at e1
  split at e1
  ·rename_i B
   cases e1
   refine FnAt.c (FnAt.run (by kernel_rfl) (T := ⟨[⟨11, QYF, fun _ => []⟩], []⟩) ⟨⟨JHJ, trivial⟩, trivial⟩ Try.func24 sw24 fun ho hh => ?_)
   obtain ⟨c1, c2, c3, c4⟩ := KM0 c l s
   have ca := YNe c hl.isSl hs.isSl
   have tm : ((deR.f c ++ [l, s]).take 37) = deR.f c ++ [l, s] := List.take_of_length_le (by omega)
   have im : ∀ L, inM (h ++ L) (.ag (.i .i64 k :: .s t :: (deR.f c ++ [l, s]))) = some (k, t, c, l, s, ls, ss) := fun L => Kkh (hl.app L).get (hs.app L).get
   have B' := eq_true B
   obtain ⟨E, hE⟩ : ∃ E, E = menc (JcH k t c ls ss) := ⟨_, rfl⟩
   rw [← hE]
   unfold w24
   by_cases g : E.1.length = 0
   ·have g' : ((E.1.length : Int) = 0) = True := eq_true (by omega)
    have hr : decide (E.1.length = 0 ∧ E.2 = er) = decide (E.2 = er) := decide_eq_decide.2 ⟨fun q => q.2, fun q => ⟨g, q⟩⟩
    rw [hr]
    simp only [JaG, Qv6, Zsz, qtO, quq, simprocAttr, CO.tmps, Opd.tmps, optT, Nat.reducePow, Nat.reduceDiv, Nat.reduceMod, c1, ca, tm, im, B', ← hE, g', QYF]
    exact Bt.drop _ hh rfl rfl
   ·have g' : ((E.1.length : Int) = 0) = False := eq_false (by omega)
    rw [decide_eq_false fun q => g q.1]
    simp only [JaG, Qv6, Zsz, qtO, quq, simprocAttr, CO.tmps, Opd.tmps, optT, Nat.reducePow, Nat.reduceDiv, Nat.reduceMod, c1, ca, tm, im, B', ← hE, g', QYF]
    exact Bt.drop _ hh rfl rfl
  ·cases e1
 ·cases e
end Go.Proofs.Ytpoojfnmhnedpaa
end
section
namespace Go.Proofs.Ytpoojfnmhnedpaa
set_option maxRecDepth 100000
set_option maxHeartbeats 4000000
theorem JMP {α : Type} (r : Row α) (H : List AB) (id : Nat) : getS r H (rsl r id []) = some [] := by
 have : Rd r H (rsl r id []) [] := ⟨by unfold rsl; simp [rdS]; rfl, Nat.zero_le _⟩
 exact this.get
def YUu : List AV → List AB → Option (AV × List AB)
 | [], h => some (.b true, h)
 | _, _ => none
theorem EB_z (k : Int) (hk : In64 k) : EB k [] (dsc deZ) [] [] := ⟨hk, Nat.zero_le _, ⟨by decide, by decide, Nat.zero_le _⟩, Nat.zero_le _, fun d hd => by simp at hd⟩
theorem YM7 : menc (JcH 4 [] (dsc deZ) [] []) = ([77, 4, 0, 0], 0) := by kernel_rfl
theorem ziI : menc (JcH 5 [] (dsc deZ) [] []) = ([], 20) := by kernel_rfl
theorem Jww : mdec [77, 4, 0, 0] = (⟨4, [], deZ, [], []⟩, 0, 0) := by kernel_rfl
theorem Qjc : wput 100 [] 0 (JDl 77) true = ([77], 0) := by kernel_rfl
theorem K9y : wput 100 [77] 0 (JDl 4) true = ([77, 4], 0) := by kernel_rfl
theorem Z5m : wput 100 [77, 4] 0 (JDl ([] : List UInt8).length ++ []) true = ([77, 4, 0], 0) := by kernel_rfl
theorem Q0i : wput 100 [77, 4, 0] 0 (JDl 0) true = ([77, 4, 0, 0], 0) := by kernel_rfl
theorem QrV : Spec Try.prog 9 YUu := by
 intro args h v h' e
 unfold YUu at e
 split at e
 ·cases e
  refine FnAt.c (FnAt.run (by kernel_rfl) (T := ⟨[⟨27, YQp, fun _ => []⟩, ⟨28, Xta, fun _ => []⟩, ⟨29, ZZw, fun _ => []⟩, ⟨30, Yq1, fun _ => []⟩, ⟨11, QYF, fun _ => []⟩, ⟨20, Qim, fun _ => []⟩, ⟨14, Kf8, fun _ => []⟩, ⟨18, Khp, fun _ => []⟩, ⟨24, Ybe, fun _ => []⟩], []⟩) ⟨⟨KRk, Yzq, JE4, JsT, JHJ, Xqq, JkA, KXT, KvC, trivial⟩, trivial⟩ Try.func9 sw9 fun ho hh => ?_)
  obtain ⟨H0, hH0⟩ : ∃ H0, H0 = h ++ [.blk false true [.p (h.length + 1) 0, .i .i64 100, .ns], .blk true true [.i .i64 0, .i .i64 0]] := ⟨_, rfl⟩
  have W : WrH H0 (h.length + 0) (h.length + 1) 100 .ns [] 0 := ⟨by rw [hH0, YOy]; rfl, by rw [hH0, YOy]; rfl, by decide, by decide, .inl ⟨rfl, rfl⟩⟩
  have W' := W
  rw [hH0] at W'
  obtain ⟨k1, R1, q1, I1, n1⟩ := ZNh (D := []) (R := []) W (st := ([], 0)) (k := none) rfl W.hlen (JDl 77) true
  rw [wX_0 W, Qjc] at q1
  rw [Qjc] at I1 n1
  obtain ⟨k2, R2, q2, I2, n2⟩ := ZNh W I1 n1 (JDl 4) true
  rw [K9y] at q2 I2 n2
  obtain ⟨k3, R3, q3, I3, n3⟩ := ZNh W I2 n2 (JDl ([] : List UInt8).length ++ []) true
  rw [Z5m] at q3 I3 n3
  obtain ⟨k4, R4, q4, I4, n4⟩ := ZNh W I3 n3 (JDl 0) true
  rw [Q0i] at q4 I4 n4
  have X := qNk W I4 n4 (L := R4)
  have dn := zEq X (by decide)
  rw [if_pos rfl] at dn
  simp only [List.nil_append] at q1 q2 q3 q4 I4 dn
  rw [List.append_nil] at q1
  conv at q1 => lhs; rw [hH0]
  obtain ⟨bz, hbz⟩ : ∃ bz : List UInt8, bz = [77, 4, 0, 0] := ⟨_, rfl⟩
  have m4 := YM7
  have d4 := Jww
  rw [← hbz] at m4 d4 q4 dn I4
  obtain ⟨Z, hZ⟩ : ∃ Z, Z = wX H0 (h.length + 0) (h.length + 1) 100 .ns (bz, 0) k4 ++ R4 := ⟨_, rfl⟩
  rw [← hZ] at q4 dn
  obtain ⟨y1, y2, y3, y4⟩ := KM0 (dsc deZ) (rsl deR (Z.length + 2) []) (rsl deR (Z.length + 3) [])
  have y5 := YNe (dsc deZ) (X2b (r := deR) (Z.length + 2) []) (X2b (r := deR) (Z.length + 3) [])
  have y6 : ∀ zs : List AV, zs.length = 37 → over zs 0 (deR.f (dsc deZ) ++ [rsl deR (Z.length + 2) [], rsl deR (Z.length + 3) []]) = deR.f (dsc deZ) ++ [rsl deR (Z.length + 2) [], rsl deR (Z.length + 3) []] := fun zs hz => ZjI _ _ (by omega)
  have y7 : (deR.f (dsc deZ) ++ [rsl deR (Z.length + 2) [], rsl deR (Z.length + 3) []]).take 37 = deR.f (dsc deZ) ++ [rsl deR (Z.length + 2) [], rsl deR (Z.length + 3) []] := List.take_of_length_le (by omega)
  have keyz : ∀ a b c d : AV, (MT.key (4, [], dsc deZ, a, b, [], []) = MT.key (4, [], dsc deZ, c, d, [], [])) = True := fun a b c d => eq_true rfl
  have hbl : (bz.length ≤ 1000000) = True := by rw [hbz]; exact eq_true (by decide)
  have hbm : bz.length ≤ maxLen := by rw [hbz]; decide
  have i64 : ∀ n : Int, n = 77 ∨ n = 4 ∨ n = 0 → (In64 n) = True := fun n hn => eq_true (by rcases hn with rfl | rfl | rfl <;> decide)
  have i1 := i64 77 (.inl rfl)
  have i2 := i64 4 (.inr (.inl rfl))
  have i3 := i64 0 (.inr (.inr rfl))
  have z3 : (([] : List UInt8).length ≤ 1000000) = True := eq_true (by decide)
  have e4 := eq_true (EB_z 4 (by decide))
  have e5 := eq_true (EB_z 5 (by decide))
  have lit : ∀ (k : Int) (H : List AB), inM H (.ag (.i .i64 k :: .s [] :: (deR.f (dsc deZ) ++ [.ns, .ns]))) = some (k, [], dsc deZ, .ns, .ns, [], []) := fun k H => Kkh (JSC _ _) (JSC _ _)
  simp only [KO7, List.cons_append, List.nil_append] at lit
  have liz : ∀ (k : Int) (H : List AB) (a b : Nat), inM H (.ag (.i .i64 k :: .s [] :: (deR.f (dsc deZ) ++ [rsl deR a [], rsl deR b []]))) = some (k, [], dsc deZ, rsl deR a [], rsl deR b [], [], []) := fun k H a b => Kkh (JMP _ _ _) (JMP _ _ _)
  have g0 : ∀ R, getS Xdl (Z ++ (resB Xdl true bz :: R)) (rsl Xdl Z.length bz) = some bz := fun R => KY6 (r := Xdl) (resB Xdl true bz :: R) 0 bz ⟨true, rfl⟩ hbm
  have wl := fun st k => Yf1 (h := H0) (i := h.length + 0) (j := h.length + 1) (lim := 100) (s := .ns) st k
  have m5 := ziI
  unfold w9
  simp only [JaG, Qv6, Zsz, qtO, quq, simprocAttr, CO.tmps, Opd.tmps, optT, Nat.reducePow, Nat.reduceDiv, Nat.reduceMod, QjP, Yzo, qA4, ZMj, zoX, YQp, Xta, ZZw, i1, i2, i3, z3, q1, q2, q3, q4, dn, QYF, Qim, Kf8, Khp, Ybe, lit, liz, e4, e5, m4, m5, d4, hbl, hbm, y1, y5, y6, y7, eqcP, List.map_nil, keyz, g0]
  rw [hZ, List.append_assoc]
  refine Bt.trans (JY0 (h.length + 0)) (Bt.trans (JY0 (h.length + 1)) ?_)
  rw [List.set_append_left _ _ (by rw [Yf1]; exact W.il), List.set_append_left _ _ (by rw [List.length_set, Yf1]; exact W.jl), K3w, hH0, Y2K, Y2K, List.append_assoc]
  exact Bt.drop _ hh rfl rfl
 ·cases e
end Go.Proofs.Ytpoojfnmhnedpaa
end
section
namespace Go.Proofs.Ytpoojfnmhnedpaa
structure IdOk (m : Man) : Prop where
 c : m.config.id.length = 32
 l : ∀ d ∈ m.layers, d.id.length = 32
 s : ∀ d ∈ m.subs, d.id.length = 32
theorem ManIn.ids {m : Man} (h : ManIn m) : IdOk m := by
 refine ⟨?_, fun d hd => (h.all d (by unfold allD; simp [hd])).id, fun d hd => (h.all d (by unfold allD; simp [hd])).id⟩
 by_cases h3 : m.kind = 3
 ·exact (h.all m.config (by unfold allD; rw [if_pos h3]; simp)).id
 ·rw [(Jc2 h.kind h3).2.2]
  simp [deZ]
theorem Zjj (b : List UInt8) : ((mdec b).1.layers.map dsc).length ≤ maxLen ∧ ((mdec b).1.subs.map dsc).length ≤ maxLen := by
 rw [List.length_map, List.length_map]
 unfold maxLen
 by_cases h : (mdec b).2.1 = 0
 ·have := (ZXF h).1.lay
  have := (ZXF h).1.sub
  omega
 ·rw [JfM h]
  simp [manZ]
end Go.Proofs.Ytpoojfnmhnedpaa
end
section
namespace Go.Proofs.Ytpoojfnmhnedpaa
set_option maxRecDepth 100000
set_option maxHeartbeats 4000000
theorem z3G (c : Dsc) : (∀ a b (ls ss : List Dsc), (deR.f c ++ [rsl deR a ls, rsl deR b ss]).length = 37) ∧ (∀ a b (ls ss : List Dsc), (deR.f c ++ [rsl deR a ls, rsl deR b ss]).all (wrOk false) = true) ∧ (∀ a b (ls ss : List Dsc) (zs : List AV), zs.length = 37 → over zs 0 (deR.f c ++ [rsl deR a ls, rsl deR b ss]) = deR.f c ++ [rsl deR a ls, rsl deR b ss]) ∧ (∀ a b (ls ss : List Dsc), (deR.f c ++ [rsl deR a ls, rsl deR b ss]).take 37 = deR.f c ++ [rsl deR a ls, rsl deR b ss]) := by
 have h1 : ∀ a b (ls ss : List Dsc), (deR.f c ++ [rsl deR a ls, rsl deR b ss]).length = 37 := fun a b ls ss => (KM0 c _ _).1
 exact ⟨h1, fun a b ls ss => YNe c (X2b _ _) (X2b _ _), fun a b ls ss zs hz => ZjI _ _ ((h1 _ _ _ _).trans hz.symm), fun a b ls ss => List.take_of_length_le (by rw [h1]; exact Nat.le_refl _)⟩
theorem qm5 (id o n c : Nat) (k : Option Nat) : lenV (.sl id o n c k) = some (n : Int) := _root_.id rfl
end Go.Proofs.Ytpoojfnmhnedpaa
end
section
namespace Go.Proofs.Ytpoojfnmhnedpaa
set_option maxRecDepth 100000
set_option maxHeartbeats 4000000
def zMY : List UInt8 := [201, 202, 203, 204]
theorem ZsH : Xdl.cells zMY = [.i .u8 201, .i .u8 202, .i .u8 203, .i .u8 204] := _root_.id rfl
theorem XQ9 (bs : List UInt8) : Xdl.cells (bs ++ zMY) = Xdl.cells bs ++ [.i .u8 201, .i .u8 202, .i .u8 203, .i .u8 204] := by
 rw [Yq4, Yq4, List.map_append]
 rfl
theorem FnC.cap {P : Program} {g id off len cap k : Nat} {rest : List AV} {a : AV} {h h' : List AB} (hk : k ≠ 0) (hx : ∃ fn body, P.funcs[g]? = some fn ∧ fn.name ≠ "runtime.NumGoroutine" ∧ fn.body = some body) (H : ∀ c, cap ≤ c → c ≤ maxLen → FnC P g (.sl id off len c none :: rest) h a h') : FnC P g (.sl id off len cap (some k) :: rest) h a h' := by
 refine ⟨hx, fun ρ w vals hr hv => ?_⟩
 obtain ⟨c, hc, h0⟩ := hv.get (j := 0) rfl
 have mk : ∀ x : AV, VR ρ x c → VL ρ (x :: rest) vals := fun x hx => ⟨hv.1, fun j b d hb hd => by
  cases j with
  | zero =>
   cases hb
   rw [hc] at hd
   cases hd
   exact hx
  | succ j => exact hv.2 (j + 1) b d hb hd⟩
 cases h0 with
 | sl _ _ _ _ _ b o n cap' e1 e2 e3 e4 e5 e6 => exact (H cap' e3 e4).2 ρ w vals hr (mk _ (.sl _ _ _ _ _ b o n cap' e1 (by omega) (Nat.le_refl _) e4 (fun _ => rfl) (fun z hz => by cases hz)))
 | sz _ _ ad c hcap hn => exact absurd rfl hk
noncomputable def Qox : List AV → List AB → Option (AV × List AB)
 | [a], h => (getS Xdl h a).bind fun bs => if bs.length ≤ 1000000 then some (.sl h.length 0 bs.length (bs.length + 4) (some 1), h ++ [.blk true true (Xdl.cells (bs ++ zMY))]) else none
 | _, _ => none
theorem KYQ : Spec Try.prog 19 Qox := by
 intro args h v h' e
 unfold Qox at e
 split at e
 ·rename_i a
  obtain ⟨bs, ha, e⟩ := Zly e
  split at e
  ·rename_i hl
   cases e
   refine FnAt.c (FnAt.run (by kernel_rfl) (T := ⟨[], []⟩) ⟨trivial, trivial⟩ Try.func19 sw19 fun ho hh => ?_)
   simp only [JjX, Bool.and_eq_true] at ho
   have fa := ha.fx ho.1 (sz := 1) rfl
   have fs := ha.src (sz := 1) rfl
   have ft := XQ9 bs
   unfold w19
   by_cases h0 : bs.length = 0
   ·have hb : bs = [] := List.eq_nil_of_length_eq_zero h0
    subst hb
    have z1 : (4 * 1 ≤ 140737488355328 ∧ 4 ≤ maxLen) = True := eq_true ⟨by decide, by unfold maxLen; omega⟩
    have sc : slL 1 (.sl (h.length + 2) 0 4 4 (some 1)) none (some (.i .i64 0)) none = some (.sl (h.length + 2) 0 0 4 (some 1)) := by
     simp only [slL, bnd]
     rw [if_pos ⟨by omega, by omega⟩]
     rfl
    simp only [JaG, Qv6, Zsz, qtO, quq, simprocAttr, CO.tmps, Opd.tmps, optT, Nat.reducePow, Nat.reduceDiv, Nat.reduceMod, fa, fs, ft, z1, sc, Zs6, ZsH, zWS, List.length_nil, Option.map_none, Option.map_some]
    exact Bt.sel [2] hh (by decide) (by simp only [YmE, FrSel, BlkSel, AV.ren, renL, AV.ok, okL, Option.some.injEq, exists_eq_left', List.length_cons, List.length_nil, Nat.reduceAdd, Nat.reduceLT, reduceCtorEq, implies_true, exists_eq']) (by simp only [YmE, FrSel, BlkSel, AV.ren, renL, AV.ok, okL, Option.some.injEq, exists_eq_left', List.length_cons, List.length_nil, Nat.reduceAdd, Nat.reduceLT, reduceCtorEq, implies_true, exists_eq'])
   ·have n0 := eq_false h0
    have z1 : (bs.length * 1 ≤ 140737488355328 ∧ bs.length ≤ maxLen) = True := eq_true ⟨by omega, by unfold maxLen; omega⟩
    have fa2 := fun L k ys hb => qK0 (h := h) (p := h.length) rfl (r := Xdl) (sz := 1) rfl L k bs 1 4 ys h0 hb (by decide) (by omega) (by unfold maxLen; omega)
    have fe : ∀ id, AV.sl id 0 bs.length bs.length (some 1) = rsl Xdl id bs := fun id => by unfold rsl; rw [if_neg h0]; rfl
    have fr : AB.blk true true (Xdl.cells bs) = resB Xdl true bs := (Y2I h0).symm
    have sc : slL 1 (.sl (h.length + 3) 0 (bs.length + 4) (bs.length + 4) (some 1)) none (some (.i .i64 (bs.length : Nat))) none = some (.sl (h.length + 3) 0 bs.length (bs.length + 4) (some 1)) := by
     simp only [slL, bnd]
     rw [if_pos ⟨by omega, by omega⟩, Int.toNat_natCast]
     rfl
    simp only [JaG, Qv6, Zsz, qtO, quq, simprocAttr, CO.tmps, Opd.tmps, optT, Nat.reducePow, Nat.reduceDiv, Nat.reduceMod, fa, fs, ft, z1, n0, fe, fr, fa2, sc, Zs6, zWS, Option.map_none, Option.map_some]
    exact Bt.sel [3] hh (by decide) (by simp only [YmE, FrSel, BlkSel, AV.ren, renL, AV.ok, okL, Option.some.injEq, exists_eq_left', List.length_cons, List.length_nil, Nat.reduceAdd, Nat.reduceLT, reduceCtorEq, implies_true, exists_eq']) (by simp only [YmE, FrSel, BlkSel, AV.ren, renL, AV.ok, okL, Option.some.injEq, exists_eq_left', List.length_cons, List.length_nil, Nat.reduceAdd, Nat.reduceLT, reduceCtorEq, implies_true, exists_eq'])
  ·cases e
 ·cases e
open Classical in
noncomputable def XFY : List AV → List AB → Option (AV × List AB)
 | [.sl id 0 n c (some 1), b], h => (getS Xdl h b).bind fun bs => if n = bs.length ∧ c = n + 4 ∧ n ≤ 1000000 ∧ Za2 h id = some (Xdl.cells (bs ++ zMY)) then some (.b true, h) else none
 | _, _ => none
theorem Z1e : Spec Try.prog 23 XFY := by
 intro args h v h' e
 unfold XFY at e
 split at e
 ·rename_i id n c b
  obtain ⟨bs, hb, e⟩ := Zly e
  split at e
  ·rename_i hc
   cases e
   obtain ⟨rfl, rfl, hl, hi⟩ := hc
   have key : ∀ C, bs.length + 4 ≤ C → C ≤ maxLen → FnC Try.prog 23 [.sl id 0 bs.length C none, b] h (.b true) h := fun C h1 h2 => by
    refine FnAt.c (FnAt.frz0 fun hz => ?_)
    replace hb := hb.frz
    replace hi := JBq hi
    generalize h.map AB.freeze = h at *
    refine FnAt.run (by kernel_rfl) (T := ⟨[], []⟩) ⟨trivial, trivial⟩ Try.func23 sw23 fun ho hh => ?_
    simp only [JjX, Bool.and_eq_true] at ho
    have fb := hb.fx ho.2.1 (sz := 1) rfl
    have fbs := hb.src (sz := 1) rfl
    have fi := Yx2 hi
    have xl : (Xdl.cells (bs ++ zMY)).length = bs.length + 4 := by rw [Xdl.cells_len, Xcx, List.length_append, Nat.mul_one]; rfl
    have r1 : Rd Xdl h (.sl id 0 bs.length C none) bs := Rd.mk_sl hi rfl (by rw [xl, Xcx]; omega) (by rw [List.drop_zero, Xcx, Nat.mul_one, Yq4, Yq4, List.map_append, List.take_left' (by rw [List.length_map])]) (by unfold maxLen; omega)
    have r2 : Rd Xdl h (.sl id bs.length 4 (C - bs.length) none) zMY := Rd.mk_sl hi rfl (by rw [xl, Xcx]; exact Nat.le_refl _) (by
     rw [Xcx, Yq4, Yq4, List.map_append, List.drop_left' (by rw [List.length_map])]
     rfl) (by decide)
    have f1 := r1.src (sz := 1) rfl
    have f2 := r2.src (sz := 1) rfl
    have s1 : slL 1 (.sl id 0 bs.length C none) none (some (.i .i64 (C : Nat))) none = some (.sl id 0 C C none) := by
     simp only [slL, bnd]
     rw [if_pos ⟨by omega, by omega⟩, Int.toNat_natCast]
     rfl
    have s2 : slL 1 (.sl id 0 C C none) (some (.i .i64 (bs.length : Nat))) (some (.i .i64 ((bs.length + 4 : Nat) : Int))) none = some (.sl id bs.length 4 (C - bs.length) none) := by
     simp only [slL, bnd]
     rw [if_pos ⟨by omega, by omega⟩, Option.bind_some, Int.toNat_natCast, Int.toNat_natCast, if_pos (show (0 : Int) ≤ (bs.length : Int) ∧ (bs.length : Int) ≤ ((bs.length + 4 : Nat) : Int) from ⟨by omega, by omega⟩), Option.map_some, Nat.zero_add, Nat.mul_one]
     by_cases q : bs.length = 0
     ·rw [if_pos q, q, Nat.zero_add, Nat.sub_zero]
     ·rw [if_neg q, if_pos (by omega), Nat.add_sub_cancel_left]
      rfl
    have w1 : IntKind.i64.wrap ((bs.length : Int) + 4) = ((bs.length + 4 : Nat) : Int) := KqM (by unfold In64; omega)
    have g1 : (((bs.length + 4 : Nat) : Int) ≤ (C : Int)) = True := eq_true (by omega)
    have bl : bytesOf [.i .u8 201, .i .u8 202, .i .u8 203, .i .u8 204] = some zMY := rfl
    have c1 : (AV.sl id 0 C C none).isStr = false := rfl
    unfold w23
    simp only [JaG, Qv6, Zsz, qtO, quq, simprocAttr, CO.tmps, Opd.tmps, optT, Nat.reducePow, Nat.reduceDiv, Nat.reduceMod, fb, fbs, fi, f1, f2, s1, s2, w1, g1, bl, qm5, JBE, XH2, Z8A, X8j, K8l, zWS, QVz, beq_self_eq_true, qtq hh, Kxf hz, Xez hz, XWV hz, Option.map_none, Option.map_some]
    exact Bt.drop _ hh rfl rfl
   obtain ⟨hx, -⟩ := key (bs.length + 4) (Nat.le_refl _) (by unfold maxLen; omega)
   exact FnC.cap (by decide) hx key
  ·cases e
 ·cases e
end Go.Proofs.Ytpoojfnmhnedpaa
end
