/- Part 19 of what the laws' proofs rest on. No condition. -/
import Derived.Test.YtpoojfnmhnedpaaMe18
set_option linter.all false
section
namespace Go.Proofs.Ytpoojfnmhnedpaa
set_option maxRecDepth 100000
set_option maxHeartbeats 4000000
theorem Qc6 : Spec Try.prog 16 Z6C := by
 intro args h v h' e
 unfold Z6C at e
 split at e
 ·rename_i a
  obtain ⟨k, t, c, l, s, ls, ss, rfl, hl, hs, e1⟩ := QNw e
  clear e
  dsimp only at e1
  split at e1
  ·rename_i hlen
   cases e1
   refine FnAt.c (FnAt.frz fun hz => ?_)
   rw [show h.length = (h.map AB.freeze).length from (List.length_map _).symm]
   replace hl := hl.frz
   replace hs := hs.frz
   generalize h.map AB.freeze = h at *
   refine FnAt.run (by kernel_rfl) (T := ⟨[], []⟩) ⟨trivial, trivial⟩ Try.func16 sw16 fun ho hh => ?_
   obtain ⟨c1, c2, c3, c4⟩ := qoS c l s
   have ca := YfG c hl.isSl hs.isSl
   simp only [Z3W, Kt4, YwG, q43, Bool.and_eq_true, Bool.and_true] at ho
   obtain ⟨-, -, -, ol, os⟩ := ho
   have fl := hl.fx ol (sz := 35) rfl
   have fs := hs.fx os (sz := 35) rfl
   have sl := hl.src (sz := 35) rfl
   have sl2 := hs.src (sz := 35) rfl
   obtain ⟨b1, b2, b3, b4, b5⟩ := KoS c
   have hcl : (deR.cells ls).length = ls.length * 35 := deR.cells_len ls
   have hcs : (deR.cells ss).length = ss.length * 35 := deR.cells_len ss
   have z1 : (1 * 64 ≤ 140737488355328 ∧ 1 ≤ maxLen) = True := eq_true ⟨by decide, by unfold maxLen; omega⟩
   have z2 : (ls.length * 64 ≤ 140737488355328 ∧ ls.length ≤ maxLen) = True := eq_true ⟨by omega, by unfold maxLen; omega⟩
   have z3 : (ss.length * 64 ≤ 140737488355328 ∧ ss.length ≤ maxLen) = True := eq_true ⟨by omega, by unfold maxLen; omega⟩
   unfold w16
   by_cases g3 : k = 3
   ·have g3' := eq_true g3
    by_cases gl : ls.length = 0
    ·have gl' := eq_true gl
     by_cases gs : ss.length = 0
     ·have gs' := eq_true gs
      have hd : desL k c ls ss = [c] := by unfold desL; rw [if_pos g3]; rw [List.eq_nil_of_length_eq_zero gl]; rw [List.eq_nil_of_length_eq_zero gs]; try simp
      rw [hd]
      simp only [Qfy, Q7I, qe2, qur, X6x, simprocAttr, CO.tmps, Opd.tmps, optT, Nat.reducePow, Nat.reduceDiv, Nat.reduceMod, c1, c2, c3, c4, ca, b1, b2, b3, b4, b5, q43, fl, fs, sl, sl2, z1, z2, z3, zb6, qzt, List.getElem?_cons_zero, List.getElem?_cons_succ, zDt hh, qwE hz, ZqV hz, zhe hz, g3', gl', gs']
      exact zoP hh 2 (by simp) ([c]) (by rw [zP0 _ (by first | omega | (simp only [List.length_append, List.length_cons, List.length_nil]; omega))]; try simp only [List.length_append, List.length_cons, List.length_nil, Nat.zero_add, Nat.add_assoc]) (.inr (by rw [qqz (by first | omega | (simp only [List.length_append, List.length_cons, List.length_nil]; omega))]; try simp only [KPH, QN5, List.getElem?_cons_zero, List.getElem?_cons_succ, List.append_assoc]))
     ·have gs' := eq_false gs
      have hd : desL k c ls ss = [c]++ss := by unfold desL; rw [if_pos g3]; rw [List.eq_nil_of_length_eq_zero gl]; try simp
      rw [hd]
      have fa1 := fun L k hb => Kz8 (h := h) L k (1) ss.length (deR.f c) (deR.cells ss) hb (by omega) gs (by omega)
      simp only [Qfy, Q7I, qe2, qur, X6x, simprocAttr, CO.tmps, Opd.tmps, optT, Nat.reducePow, Nat.reduceDiv, Nat.reduceMod, c1, c2, c3, c4, ca, b1, b2, b3, b4, b5, q43, fl, fs, sl, sl2, z1, z2, z3, zb6, qzt, List.getElem?_cons_zero, List.getElem?_cons_succ, zDt hh, qwE hz, ZqV hz, zhe hz, g3', gl', gs', fa1]
      exact zoP hh 3 (by simp) ([c]++ss) (by rw [zP0 _ (by first | omega | (simp only [List.length_append, List.length_cons, List.length_nil]; omega))]; try simp only [List.length_append, List.length_cons, List.length_nil, Nat.zero_add, Nat.add_assoc]) (.inr (by rw [qqz (by first | omega | (simp only [List.length_append, List.length_cons, List.length_nil]; omega))]; try simp only [KPH, QN5, List.getElem?_cons_zero, List.getElem?_cons_succ, List.append_assoc]))
    ·have gl' := eq_false gl
     by_cases gs : ss.length = 0
     ·have gs' := eq_true gs
      have hd : desL k c ls ss = [c]++ls := by unfold desL; rw [if_pos g3]; rw [List.eq_nil_of_length_eq_zero gs]; try simp
      rw [hd]
      have fa1 := fun L k hb => Kz8 (h := h) L k (1) ls.length (deR.f c) (deR.cells ls) hb (by omega) gl (by omega)
      simp only [Qfy, Q7I, qe2, qur, X6x, simprocAttr, CO.tmps, Opd.tmps, optT, Nat.reducePow, Nat.reduceDiv, Nat.reduceMod, c1, c2, c3, c4, ca, b1, b2, b3, b4, b5, q43, fl, fs, sl, sl2, z1, z2, z3, zb6, qzt, List.getElem?_cons_zero, List.getElem?_cons_succ, zDt hh, qwE hz, ZqV hz, zhe hz, g3', gl', gs', fa1]
      exact zoP hh 3 (by simp) ([c]++ls) (by rw [zP0 _ (by first | omega | (simp only [List.length_append, List.length_cons, List.length_nil]; omega))]; try simp only [List.length_append, List.length_cons, List.length_nil, Nat.zero_add, Nat.add_assoc]) (.inr (by rw [qqz (by first | omega | (simp only [List.length_append, List.length_cons, List.length_nil]; omega))]; try simp only [KPH, QN5, List.getElem?_cons_zero, List.getElem?_cons_succ, List.append_assoc]))
     ·have gs' := eq_false gs
      have hd : desL k c ls ss = [c]++ls++ss := by unfold desL; rw [if_pos g3]; try simp
      rw [hd]
      have fa1 := fun L k hb => Kz8 (h := h) L k (1) ls.length (deR.f c) (deR.cells ls) hb (by omega) gl (by omega)
      have fa2 := fun L k hb => Kz8 (h := h) L k (1 + ls.length) ss.length (deR.f c ++ deR.cells ls) (deR.cells ss) hb (by simp only [List.length_append, b1, hcl, hcs]; omega) gs (by omega)
      simp only [Qfy, Q7I, qe2, qur, X6x, simprocAttr, CO.tmps, Opd.tmps, optT, Nat.reducePow, Nat.reduceDiv, Nat.reduceMod, c1, c2, c3, c4, ca, b1, b2, b3, b4, b5, q43, fl, fs, sl, sl2, z1, z2, z3, zb6, qzt, List.getElem?_cons_zero, List.getElem?_cons_succ, zDt hh, qwE hz, ZqV hz, zhe hz, g3', gl', gs', fa1, fa2]
      exact zoP hh 4 (by simp) ([c]++ls++ss) (by rw [zP0 _ (by first | omega | (simp only [List.length_append, List.length_cons, List.length_nil]; omega))]; try simp only [List.length_append, List.length_cons, List.length_nil, Nat.zero_add, Nat.add_assoc]) (.inr (by rw [qqz (by first | omega | (simp only [List.length_append, List.length_cons, List.length_nil]; omega))]; try simp only [KPH, QN5, List.getElem?_cons_zero, List.getElem?_cons_succ, List.append_assoc]))
   ·have g3' := eq_false g3
    by_cases gl : ls.length = 0
    ·have gl' := eq_true gl
     by_cases gs : ss.length = 0
     ·have gs' := eq_true gs
      have hd : desL k c ls ss = [] := by unfold desL; rw [if_neg g3]; rw [List.eq_nil_of_length_eq_zero gl]; rw [List.eq_nil_of_length_eq_zero gs]; try simp
      rw [hd]
      simp only [Qfy, Q7I, qe2, qur, X6x, simprocAttr, CO.tmps, Opd.tmps, optT, Nat.reducePow, Nat.reduceDiv, Nat.reduceMod, c1, c2, c3, c4, ca, b1, b2, b3, b4, b5, q43, fl, fs, sl, sl2, z1, z2, z3, zb6, qzt, List.getElem?_cons_zero, List.getElem?_cons_succ, zDt hh, qwE hz, ZqV hz, zhe hz, g3', gl', gs']
      exact zoP hh 0 (by simp) [] rfl (.inl rfl)
     ·have gs' := eq_false gs
      have hd : desL k c ls ss = ss := by unfold desL; rw [if_neg g3]; rw [List.eq_nil_of_length_eq_zero gl]; try simp
      rw [hd]
      simp only [Qfy, Q7I, qe2, qur, X6x, simprocAttr, CO.tmps, Opd.tmps, optT, Nat.reducePow, Nat.reduceDiv, Nat.reduceMod, c1, c2, c3, c4, ca, b1, b2, b3, b4, b5, q43, fl, fs, sl, sl2, z1, z2, z3, zb6, qzt, List.getElem?_cons_zero, List.getElem?_cons_succ, zDt hh, qwE hz, ZqV hz, zhe hz, g3', gl', gs']
      exact zoP hh 1 (by simp) (ss) (by rw [zP0 _ (by first | omega | (simp only [List.length_append, List.length_cons, List.length_nil]; omega))]; try simp only [List.length_append, List.length_cons, List.length_nil, Nat.zero_add, Nat.add_assoc]) (.inr (by rw [qqz (by first | omega | (simp only [List.length_append, List.length_cons, List.length_nil]; omega))]; try simp only [KPH, QN5, List.getElem?_cons_zero, List.getElem?_cons_succ, List.append_assoc]))
    ·have gl' := eq_false gl
     by_cases gs : ss.length = 0
     ·have gs' := eq_true gs
      have hd : desL k c ls ss = ls := by unfold desL; rw [if_neg g3]; rw [List.eq_nil_of_length_eq_zero gs]; try simp
      rw [hd]
      simp only [Qfy, Q7I, qe2, qur, X6x, simprocAttr, CO.tmps, Opd.tmps, optT, Nat.reducePow, Nat.reduceDiv, Nat.reduceMod, c1, c2, c3, c4, ca, b1, b2, b3, b4, b5, q43, fl, fs, sl, sl2, z1, z2, z3, zb6, qzt, List.getElem?_cons_zero, List.getElem?_cons_succ, zDt hh, qwE hz, ZqV hz, zhe hz, g3', gl', gs']
      exact zoP hh 1 (by simp) (ls) (by rw [zP0 _ (by first | omega | (simp only [List.length_append, List.length_cons, List.length_nil]; omega))]; try simp only [List.length_append, List.length_cons, List.length_nil, Nat.zero_add, Nat.add_assoc]) (.inr (by rw [qqz (by first | omega | (simp only [List.length_append, List.length_cons, List.length_nil]; omega))]; try simp only [KPH, QN5, List.getElem?_cons_zero, List.getElem?_cons_succ, List.append_assoc]))
     ·have gs' := eq_false gs
      have hd : desL k c ls ss = ls++ss := by unfold desL; rw [if_neg g3]; try simp
      rw [hd]
      have fa1 := fun L k hb => Kz8 (h := h) L k (ls.length) ss.length (deR.cells ls) (deR.cells ss) hb (by omega) gs (by omega)
      simp only [Qfy, Q7I, qe2, qur, X6x, simprocAttr, CO.tmps, Opd.tmps, optT, Nat.reducePow, Nat.reduceDiv, Nat.reduceMod, c1, c2, c3, c4, ca, b1, b2, b3, b4, b5, q43, fl, fs, sl, sl2, z1, z2, z3, zb6, qzt, List.getElem?_cons_zero, List.getElem?_cons_succ, zDt hh, qwE hz, ZqV hz, zhe hz, g3', gl', gs', fa1]
      exact zoP hh 2 (by simp) (ls++ss) (by rw [zP0 _ (by first | omega | (simp only [List.length_append, List.length_cons, List.length_nil]; omega))]; try simp only [List.length_append, List.length_cons, List.length_nil, Nat.zero_add, Nat.add_assoc]) (.inr (by rw [qqz (by first | omega | (simp only [List.length_append, List.length_cons, List.length_nil]; omega))]; try simp only [KPH, QN5, List.getElem?_cons_zero, List.getElem?_cons_succ, List.append_assoc]))
  ·cases e1
 ·cases e
end Go.Proofs.Ytpoojfnmhnedpaa
end
section
namespace Go.Proofs.Ytpoojfnmhnedpaa
set_option maxRecDepth 100000
set_option maxHeartbeats 4000000
def Jjp (m : Man) : Int := if zHI m = true then (if (allD m).any negD = true then 3 else if 16 < m.layers.length ∨ 8 < m.subs.length then 4 else 0) else 20
noncomputable def qji : List AV → List AB → Option (AV × List AB)
 | [a], h => (inM h a).bind fun y => if y.2.2.2.2.2.1.length + y.2.2.2.2.2.2.length ≤ 100000 then some (.i .i64 (Jjp (ZVh y.1 y.2.1 y.2.2.1 y.2.2.2.2.2.1 y.2.2.2.2.2.2)), h) else none
 | _, _ => none
theorem zx3 (d : Dsc) : negD d.de = true ↔ d.media < 0 ∨ d.size < 0 := by
 unfold negD
 rw [Bool.or_eq_true, decide_eq_true_iff, decide_eq_true_iff]
 exact Iff.rfl
theorem X7e : Spec Try.prog 43 qji := by
 intro args h v h' e
 unfold qji at e
 split at e
 ·rename_i a
  obtain ⟨k, t, c, l, s, ls, ss, rfl, hl, hs, e1⟩ := QNw e
  clear e
  dsimp only at e1
  split at e1
  ·rename_i hlen
   cases e1
   refine FnAt.c (FnAt.frz0 fun hz => ?_)
   replace hl := hl.frz
   replace hs := hs.frz
   generalize h.map AB.freeze = h at *
   refine FnAt.run (by kernel_rfl) (T := ⟨[⟨16, Z6C, fun _ => []⟩], []⟩) ⟨⟨Qc6, trivial⟩, trivial⟩ Try.func43 sw43 fun ho hh => ?_
   obtain ⟨c1, c2, c3, c4⟩ := qoS c l s
   have ca := YfG c hl.isSl hs.isSl
   have l1 := QYh hl.isSl
   have s1 := QYh hs.isSl
   have l2 := hl.len
   have s2 := hs.len
   have r1 : (2 + 35 ≤ 37 + 1 + 1) = True := eq_true (by omega)
   have z1 := zA3 c (dsc deZ)
   have tm : ((deR.f c ++ [l, s]).take 37) = deR.f c ++ [l, s] := List.take_of_length_le (by omega)
   have im : ∀ L, inM (h ++ L) (.ag (.i .i64 k :: .s t :: (deR.f c ++ [l, s]))) = some (k, t, c, l, s, ls, ss) := fun L => Xi3 (hl.app L).get (hs.app L).get
   have n1 := eq_true hlen
   obtain ⟨m, hm⟩ : ∃ m, m = ZVh k t c ls ss := ⟨_, rfl⟩
   rw [← hm]
   have hany : (desL k c ls ss).any (fun d => negD d.de) = (allD m).any negD := by
    rw [hm, ← QbO k t c ls ss, List.any_map]
    rfl
   have hdl : (desL k c ls ss).length ≤ 100001 := by
    unfold desL
    rw [List.length_append, List.length_append]
    split <;> simp <;> omega
   obtain ⟨box, hbox⟩ : ∃ box, box = AB.blk false true (.i .i64 k :: .s t :: (deR.f c ++ [l, s])) := ⟨_, rfl⟩
   obtain ⟨D, hD⟩ : ∃ D, D = desL k c ls ss := ⟨_, rfl⟩
   rw [← hD] at hany hdl
   have gd : Rd deR (h ++ [box, resB deR true D]) (rsl deR (h.length + 1) D) D := zpN (m := true) (by rw [zSD]; rfl) (by unfold maxLen; omega)
   have gi := fun k => gd.iad .i64 k
   have gf := fun o n j hn => gd.fad o 35 n j hn
   have gl := fun n j hn hj => gd.ld n j hn hj
   rw [hbox] at gl
   have da := fun d => (Q98 d).1
   have db := fun d => (Q98 d).2.1
   have ml : m.layers.length = ls.length := by rw [hm]; exact List.length_map _
   have ms : m.subs.length = ss.length := by rw [hm]; exact List.length_map _
   unfold w43
   by_cases g3 : k = 3
   ·have g3' := eq_true g3
    have g4' : (k = 4) = False := eq_false (by omega)
    have hkb : zHI m = decide ((ss.length : Int) = 0) := by
     rw [hm]
     unfold zHI ZVh
     dsimp only
     rw [if_pos g3, List.length_map]
     exact decide_eq_decide.2 (by omega)
    by_cases g5 : ss.length = 0
    ·have g5' : ((0 : Int) < (ss.length : Int)) = False := eq_false (by omega)
     have hk : zHI m = true := by rw [hkb]; exact decide_eq_true (by omega)
     have zz : (c = dsc deZ) = False ∨ (c = dsc deZ) = True := (Classical.em (c = dsc deZ)).elim (fun q => .inr (eq_true q)) (fun q => .inl (eq_false q))
     rcases zz with zz | zz
     ·have zc := zz
      simp only [Qfy, Q7I, qe2, qur, X6x, simprocAttr, CO.tmps, Opd.tmps, optT, Nat.reducePow, Nat.reduceDiv, Nat.reduceMod, Q3v, JFu, c1, c2, c3, c4, ca, tm, im, l1, s1, l2, s2, n1, Z6C, ← hD, List.getElem?_cons_zero, List.getElem?_cons_succ, zDt hh, qwE hz, ZqV hz, zhe hz, zms, g3', g4', g5', ← Qwh, z1, zz]
      refine J4A (S := Nat) (fun k => D.length - k) (fun k => tp 1 ++ [.p (h.length + 0) 0] ++ tp 4 ++ [apS deR (h.length + 1) D, .i .i64 (k : Nat)] ++ tp 70) (fun k => k ≤ D.length ∧ ∀ j, j < k → negD (D.getD j deR.d).de = false) 0 ⟨Nat.zero_le _, fun j hj => absurd hj (Nat.not_lt_zero _)⟩ (by simp only [qe2, X6x, simprocAttr]) fun n hn => ?_
      obtain ⟨hn1, hn2⟩ := hn
      by_cases gn : n < D.length
      ·have gn' : ((n : Int) < (D.length : Int)) = True := eq_true (by omega)
       have gn2 : ((0 : Int) ≤ (n : Int) ∧ (n : Int) < (D.length : Int)) = True := eq_true (by omega)
       have gr : ∀ id, apS deR id D = rsl deR id D := fun id => JeD _ (by omega)
       have w1 : IntKind.i64.wrap ((n : Int) + 1) = ((n + 1 : Nat) : Int) := zdT (by unfold In64; omega)
       have gi' : iadV 35 (rsl deR (h.length + 1) D) (.i .i64 (n : Nat)) = some (elP 35 (rsl deR (h.length + 1) D) n 0) := by
        have := gi n
        rw [if_pos (by omega), Int.toNat_natCast] at this
        exact this
       have f0 : fadV 0 (elP 35 (rsl deR (h.length + 1) D) n 0) = some (elP 35 (rsl deR (h.length + 1) D) n 0) := gf 0 n 0 gn
       have f33 : fadV 33 (elP 35 (rsl deR (h.length + 1) D) n 0) = some (elP 35 (rsl deR (h.length + 1) D) n 33) := gf 33 n 0 gn
       have q0 : ldV (h ++ [AB.blk false true (.i .i64 k :: .s t :: (deR.f c ++ [l, s])), resB deR true D]) none (elP 35 (rsl deR (h.length + 1) D) n 0) = some (.i .i64 (D.getD n deR.d).media) := (gl n 0 gn (by decide)).trans (da _)
       have q33 : ldV (h ++ [AB.blk false true (.i .i64 k :: .s t :: (deR.f c ++ [l, s])), resB deR true D]) none (elP 35 (rsl deR (h.length + 1) D) n 33) = some (.i .i64 (D.getD n deR.d).size) := (gl n 33 gn (by decide)).trans (db _)
       by_cases x1 : (D.getD n deR.d).media < 0
       ·have x1' := eq_true x1
        have hr : Jjp m = 3 := by
         unfold Jjp
         rw [if_pos hk, if_pos]
         rw [← hany, List.any_eq_true]
         exact ⟨D.getD n deR.d, by rw [List.getD_eq_getElem?_getD, List.getElem?_eq_getElem gn]; exact List.getElem_mem gn, (zx3 _).2 (.inl x1)⟩
        rw [hr]
        simp only [Qfy, Q7I, qe2, qur, X6x, simprocAttr, CO.tmps, Opd.tmps, optT, Nat.reducePow, Nat.reduceDiv, Nat.reduceMod, Q3v, JFu, c1, c2, c3, c4, ca, tm, im, l1, s1, l2, s2, n1, Z6C, ← hD, List.getElem?_cons_zero, List.getElem?_cons_succ, zDt hh, qwE hz, ZqV hz, zhe hz, zms, gr, gn', gi', f0, f33, JLP, q0, q33, x1']
        exact Bt.drop _ hh rfl rfl
       have x1' := eq_false x1
       by_cases x2 : (D.getD n deR.d).size < 0
       ·have x2' := eq_true x2
        have hr : Jjp m = 3 := by
         unfold Jjp
         rw [if_pos hk, if_pos]
         rw [← hany, List.any_eq_true]
         exact ⟨D.getD n deR.d, by rw [List.getD_eq_getElem?_getD, List.getElem?_eq_getElem gn]; exact List.getElem_mem gn, (zx3 _).2 (.inr x2)⟩
        rw [hr]
        simp only [Qfy, Q7I, qe2, qur, X6x, simprocAttr, CO.tmps, Opd.tmps, optT, Nat.reducePow, Nat.reduceDiv, Nat.reduceMod, Q3v, JFu, c1, c2, c3, c4, ca, tm, im, l1, s1, l2, s2, n1, Z6C, ← hD, List.getElem?_cons_zero, List.getElem?_cons_succ, zDt hh, qwE hz, ZqV hz, zhe hz, zms, gr, gn', gi', f0, f33, JLP, q0, q33, x1', x2']
        exact Bt.drop _ hh rfl rfl
       have x2' := eq_false x2
       simp only [Qfy, Q7I, qe2, qur, X6x, simprocAttr, CO.tmps, Opd.tmps, optT, Nat.reducePow, Nat.reduceDiv, Nat.reduceMod, Q3v, JFu, c1, c2, c3, c4, ca, tm, im, l1, s1, l2, s2, n1, Z6C, ← hD, List.getElem?_cons_zero, List.getElem?_cons_succ, zDt hh, qwE hz, ZqV hz, zhe hz, zms, gr, gn', gi', f0, f33, JLP, q0, q33, x1', x2', w1]
       refine ⟨n + 1, ⟨gn, fun j hj => ?_⟩, by omega, by simp only [qe2, X6x, simprocAttr]⟩
       rcases Nat.lt_or_ge j n with q | q
       ·exact hn2 j q
       ·obtain rfl : j = n := by omega
        exact Bool.eq_false_iff.2 fun q => ((zx3 _).1 q).elim x1 x2
      ·have gn' : ((n : Int) < (D.length : Int)) = False := eq_false (by omega)
       have hno : (allD m).any negD = false := by
        rw [← hany, List.any_eq_false]
        intro d hd q
        obtain ⟨j, hj, rfl⟩ := List.getElem_of_mem hd
        have := hn2 j (by omega)
        rw [List.getD_eq_getElem?_getD, List.getElem?_eq_getElem hj] at this
        rw [show negD (D[j]).de = false from this] at q
        cases q
       by_cases y1 : 16 < ls.length
       ·have y1' : ((16 : Int) < (ls.length : Int)) = True := eq_true (by omega)
        have hr : Jjp m = 4 := by unfold Jjp; rw [if_pos hk, if_neg (by rw [hno]; decide), if_pos (.inl (by omega))]
        rw [hr]
        simp only [Qfy, Q7I, qe2, qur, X6x, simprocAttr, CO.tmps, Opd.tmps, optT, Nat.reducePow, Nat.reduceDiv, Nat.reduceMod, Q3v, JFu, c1, c2, c3, c4, ca, tm, im, l1, s1, l2, s2, n1, Z6C, ← hD, List.getElem?_cons_zero, List.getElem?_cons_succ, zDt hh, qwE hz, ZqV hz, zhe hz, zms, gn', y1']
        exact Bt.drop _ hh rfl rfl
       have y1' : ((16 : Int) < (ls.length : Int)) = False := eq_false (by omega)
       by_cases y2 : 8 < ss.length
       ·have y2' : ((8 : Int) < (ss.length : Int)) = True := eq_true (by omega)
        have hr : Jjp m = 4 := by unfold Jjp; rw [if_pos hk, if_neg (by rw [hno]; decide), if_pos (.inr (by omega))]
        rw [hr]
        simp only [Qfy, Q7I, qe2, qur, X6x, simprocAttr, CO.tmps, Opd.tmps, optT, Nat.reducePow, Nat.reduceDiv, Nat.reduceMod, Q3v, JFu, c1, c2, c3, c4, ca, tm, im, l1, s1, l2, s2, n1, Z6C, ← hD, List.getElem?_cons_zero, List.getElem?_cons_succ, zDt hh, qwE hz, ZqV hz, zhe hz, zms, gn', y1', y2']
        exact Bt.drop _ hh rfl rfl
       have y2' : ((8 : Int) < (ss.length : Int)) = False := eq_false (by omega)
       have hr : Jjp m = 0 := by unfold Jjp; rw [if_pos hk, if_neg (by rw [hno]; decide), if_neg (by omega)]
       rw [hr]
       simp only [Qfy, Q7I, qe2, qur, X6x, simprocAttr, CO.tmps, Opd.tmps, optT, Nat.reducePow, Nat.reduceDiv, Nat.reduceMod, Q3v, JFu, c1, c2, c3, c4, ca, tm, im, l1, s1, l2, s2, n1, Z6C, ← hD, List.getElem?_cons_zero, List.getElem?_cons_succ, zDt hh, qwE hz, ZqV hz, zhe hz, zms, gn', y1', y2']
       exact Bt.drop _ hh rfl rfl
     ·have zc := zz
      by_cases zl : ls.length = 0
      ·have zl' : ((ls.length : Int) = 0) = True := eq_true (by omega)
       simp only [Qfy, Q7I, qe2, qur, X6x, simprocAttr, CO.tmps, Opd.tmps, optT, Nat.reducePow, Nat.reduceDiv, Nat.reduceMod, Q3v, JFu, c1, c2, c3, c4, ca, tm, im, l1, s1, l2, s2, n1, Z6C, ← hD, List.getElem?_cons_zero, List.getElem?_cons_succ, zDt hh, qwE hz, ZqV hz, zhe hz, zms, g3', g4', g5', ← Qwh, z1, zz, zl']
       refine J4A (S := Nat) (fun k => D.length - k) (fun k => tp 1 ++ [.p (h.length + 0) 0] ++ tp 4 ++ [apS deR (h.length + 1) D, .i .i64 (k : Nat)] ++ tp 70) (fun k => k ≤ D.length ∧ ∀ j, j < k → negD (D.getD j deR.d).de = false) 0 ⟨Nat.zero_le _, fun j hj => absurd hj (Nat.not_lt_zero _)⟩ (by simp only [qe2, X6x, simprocAttr]) fun n hn => ?_
       obtain ⟨hn1, hn2⟩ := hn
       by_cases gn : n < D.length
       ·have gn' : ((n : Int) < (D.length : Int)) = True := eq_true (by omega)
        have gn2 : ((0 : Int) ≤ (n : Int) ∧ (n : Int) < (D.length : Int)) = True := eq_true (by omega)
        have gr : ∀ id, apS deR id D = rsl deR id D := fun id => JeD _ (by omega)
        have w1 : IntKind.i64.wrap ((n : Int) + 1) = ((n + 1 : Nat) : Int) := zdT (by unfold In64; omega)
        have gi' : iadV 35 (rsl deR (h.length + 1) D) (.i .i64 (n : Nat)) = some (elP 35 (rsl deR (h.length + 1) D) n 0) := by
         have := gi n
         rw [if_pos (by omega), Int.toNat_natCast] at this
         exact this
        have f0 : fadV 0 (elP 35 (rsl deR (h.length + 1) D) n 0) = some (elP 35 (rsl deR (h.length + 1) D) n 0) := gf 0 n 0 gn
        have f33 : fadV 33 (elP 35 (rsl deR (h.length + 1) D) n 0) = some (elP 35 (rsl deR (h.length + 1) D) n 33) := gf 33 n 0 gn
        have q0 : ldV (h ++ [AB.blk false true (.i .i64 k :: .s t :: (deR.f c ++ [l, s])), resB deR true D]) none (elP 35 (rsl deR (h.length + 1) D) n 0) = some (.i .i64 (D.getD n deR.d).media) := (gl n 0 gn (by decide)).trans (da _)
        have q33 : ldV (h ++ [AB.blk false true (.i .i64 k :: .s t :: (deR.f c ++ [l, s])), resB deR true D]) none (elP 35 (rsl deR (h.length + 1) D) n 33) = some (.i .i64 (D.getD n deR.d).size) := (gl n 33 gn (by decide)).trans (db _)
        by_cases x1 : (D.getD n deR.d).media < 0
        ·have x1' := eq_true x1
         have hr : Jjp m = 3 := by
          unfold Jjp
          rw [if_pos hk, if_pos]
          rw [← hany, List.any_eq_true]
          exact ⟨D.getD n deR.d, by rw [List.getD_eq_getElem?_getD, List.getElem?_eq_getElem gn]; exact List.getElem_mem gn, (zx3 _).2 (.inl x1)⟩
         rw [hr]
         simp only [Qfy, Q7I, qe2, qur, X6x, simprocAttr, CO.tmps, Opd.tmps, optT, Nat.reducePow, Nat.reduceDiv, Nat.reduceMod, Q3v, JFu, c1, c2, c3, c4, ca, tm, im, l1, s1, l2, s2, n1, Z6C, ← hD, List.getElem?_cons_zero, List.getElem?_cons_succ, zDt hh, qwE hz, ZqV hz, zhe hz, zms, gr, gn', gi', f0, f33, JLP, q0, q33, x1']
         exact Bt.drop _ hh rfl rfl
        have x1' := eq_false x1
        by_cases x2 : (D.getD n deR.d).size < 0
        ·have x2' := eq_true x2
         have hr : Jjp m = 3 := by
          unfold Jjp
          rw [if_pos hk, if_pos]
          rw [← hany, List.any_eq_true]
          exact ⟨D.getD n deR.d, by rw [List.getD_eq_getElem?_getD, List.getElem?_eq_getElem gn]; exact List.getElem_mem gn, (zx3 _).2 (.inr x2)⟩
         rw [hr]
         simp only [Qfy, Q7I, qe2, qur, X6x, simprocAttr, CO.tmps, Opd.tmps, optT, Nat.reducePow, Nat.reduceDiv, Nat.reduceMod, Q3v, JFu, c1, c2, c3, c4, ca, tm, im, l1, s1, l2, s2, n1, Z6C, ← hD, List.getElem?_cons_zero, List.getElem?_cons_succ, zDt hh, qwE hz, ZqV hz, zhe hz, zms, gr, gn', gi', f0, f33, JLP, q0, q33, x1', x2']
         exact Bt.drop _ hh rfl rfl
        have x2' := eq_false x2
        simp only [Qfy, Q7I, qe2, qur, X6x, simprocAttr, CO.tmps, Opd.tmps, optT, Nat.reducePow, Nat.reduceDiv, Nat.reduceMod, Q3v, JFu, c1, c2, c3, c4, ca, tm, im, l1, s1, l2, s2, n1, Z6C, ← hD, List.getElem?_cons_zero, List.getElem?_cons_succ, zDt hh, qwE hz, ZqV hz, zhe hz, zms, gr, gn', gi', f0, f33, JLP, q0, q33, x1', x2', w1]
        refine ⟨n + 1, ⟨gn, fun j hj => ?_⟩, by omega, by simp only [qe2, X6x, simprocAttr]⟩
        rcases Nat.lt_or_ge j n with q | q
        ·exact hn2 j q
        ·obtain rfl : j = n := by omega
         exact Bool.eq_false_iff.2 fun q => ((zx3 _).1 q).elim x1 x2
       ·have gn' : ((n : Int) < (D.length : Int)) = False := eq_false (by omega)
        have hno : (allD m).any negD = false := by
         rw [← hany, List.any_eq_false]
         intro d hd q
         obtain ⟨j, hj, rfl⟩ := List.getElem_of_mem hd
         have := hn2 j (by omega)
         rw [List.getD_eq_getElem?_getD, List.getElem?_eq_getElem hj] at this
         rw [show negD (D[j]).de = false from this] at q
         cases q
        by_cases y1 : 16 < ls.length
        ·have y1' : ((16 : Int) < (ls.length : Int)) = True := eq_true (by omega)
         have hr : Jjp m = 4 := by unfold Jjp; rw [if_pos hk, if_neg (by rw [hno]; decide), if_pos (.inl (by omega))]
         rw [hr]
         simp only [Qfy, Q7I, qe2, qur, X6x, simprocAttr, CO.tmps, Opd.tmps, optT, Nat.reducePow, Nat.reduceDiv, Nat.reduceMod, Q3v, JFu, c1, c2, c3, c4, ca, tm, im, l1, s1, l2, s2, n1, Z6C, ← hD, List.getElem?_cons_zero, List.getElem?_cons_succ, zDt hh, qwE hz, ZqV hz, zhe hz, zms, gn', y1']
         exact Bt.drop _ hh rfl rfl
        have y1' : ((16 : Int) < (ls.length : Int)) = False := eq_false (by omega)
        by_cases y2 : 8 < ss.length
        ·have y2' : ((8 : Int) < (ss.length : Int)) = True := eq_true (by omega)
         have hr : Jjp m = 4 := by unfold Jjp; rw [if_pos hk, if_neg (by rw [hno]; decide), if_pos (.inr (by omega))]
         rw [hr]
         simp only [Qfy, Q7I, qe2, qur, X6x, simprocAttr, CO.tmps, Opd.tmps, optT, Nat.reducePow, Nat.reduceDiv, Nat.reduceMod, Q3v, JFu, c1, c2, c3, c4, ca, tm, im, l1, s1, l2, s2, n1, Z6C, ← hD, List.getElem?_cons_zero, List.getElem?_cons_succ, zDt hh, qwE hz, ZqV hz, zhe hz, zms, gn', y1', y2']
         exact Bt.drop _ hh rfl rfl
        have y2' : ((8 : Int) < (ss.length : Int)) = False := eq_false (by omega)
        have hr : Jjp m = 0 := by unfold Jjp; rw [if_pos hk, if_neg (by rw [hno]; decide), if_neg (by omega)]
        rw [hr]
        simp only [Qfy, Q7I, qe2, qur, X6x, simprocAttr, CO.tmps, Opd.tmps, optT, Nat.reducePow, Nat.reduceDiv, Nat.reduceMod, Q3v, JFu, c1, c2, c3, c4, ca, tm, im, l1, s1, l2, s2, n1, Z6C, ← hD, List.getElem?_cons_zero, List.getElem?_cons_succ, zDt hh, qwE hz, ZqV hz, zhe hz, zms, gn', y1', y2']
        exact Bt.drop _ hh rfl rfl
      ·have zl' : ((ls.length : Int) = 0) = False := eq_false (by omega)
       simp only [Qfy, Q7I, qe2, qur, X6x, simprocAttr, CO.tmps, Opd.tmps, optT, Nat.reducePow, Nat.reduceDiv, Nat.reduceMod, Q3v, JFu, c1, c2, c3, c4, ca, tm, im, l1, s1, l2, s2, n1, Z6C, ← hD, List.getElem?_cons_zero, List.getElem?_cons_succ, zDt hh, qwE hz, ZqV hz, zhe hz, zms, g3', g4', g5', ← Qwh, z1, zz, zl']
       refine J4A (S := Nat) (fun k => D.length - k) (fun k => tp 1 ++ [.p (h.length + 0) 0] ++ tp 4 ++ [apS deR (h.length + 1) D, .i .i64 (k : Nat)] ++ tp 70) (fun k => k ≤ D.length ∧ ∀ j, j < k → negD (D.getD j deR.d).de = false) 0 ⟨Nat.zero_le _, fun j hj => absurd hj (Nat.not_lt_zero _)⟩ (by simp only [qe2, X6x, simprocAttr]) fun n hn => ?_
       obtain ⟨hn1, hn2⟩ := hn
       by_cases gn : n < D.length
       ·have gn' : ((n : Int) < (D.length : Int)) = True := eq_true (by omega)
        have gn2 : ((0 : Int) ≤ (n : Int) ∧ (n : Int) < (D.length : Int)) = True := eq_true (by omega)
        have gr : ∀ id, apS deR id D = rsl deR id D := fun id => JeD _ (by omega)
        have w1 : IntKind.i64.wrap ((n : Int) + 1) = ((n + 1 : Nat) : Int) := zdT (by unfold In64; omega)
        have gi' : iadV 35 (rsl deR (h.length + 1) D) (.i .i64 (n : Nat)) = some (elP 35 (rsl deR (h.length + 1) D) n 0) := by
         have := gi n
         rw [if_pos (by omega), Int.toNat_natCast] at this
         exact this
        have f0 : fadV 0 (elP 35 (rsl deR (h.length + 1) D) n 0) = some (elP 35 (rsl deR (h.length + 1) D) n 0) := gf 0 n 0 gn
        have f33 : fadV 33 (elP 35 (rsl deR (h.length + 1) D) n 0) = some (elP 35 (rsl deR (h.length + 1) D) n 33) := gf 33 n 0 gn
        have q0 : ldV (h ++ [AB.blk false true (.i .i64 k :: .s t :: (deR.f c ++ [l, s])), resB deR true D]) none (elP 35 (rsl deR (h.length + 1) D) n 0) = some (.i .i64 (D.getD n deR.d).media) := (gl n 0 gn (by decide)).trans (da _)
        have q33 : ldV (h ++ [AB.blk false true (.i .i64 k :: .s t :: (deR.f c ++ [l, s])), resB deR true D]) none (elP 35 (rsl deR (h.length + 1) D) n 33) = some (.i .i64 (D.getD n deR.d).size) := (gl n 33 gn (by decide)).trans (db _)
        by_cases x1 : (D.getD n deR.d).media < 0
        ·have x1' := eq_true x1
         have hr : Jjp m = 3 := by
          unfold Jjp
          rw [if_pos hk, if_pos]
          rw [← hany, List.any_eq_true]
          exact ⟨D.getD n deR.d, by rw [List.getD_eq_getElem?_getD, List.getElem?_eq_getElem gn]; exact List.getElem_mem gn, (zx3 _).2 (.inl x1)⟩
         rw [hr]
         simp only [Qfy, Q7I, qe2, qur, X6x, simprocAttr, CO.tmps, Opd.tmps, optT, Nat.reducePow, Nat.reduceDiv, Nat.reduceMod, Q3v, JFu, c1, c2, c3, c4, ca, tm, im, l1, s1, l2, s2, n1, Z6C, ← hD, List.getElem?_cons_zero, List.getElem?_cons_succ, zDt hh, qwE hz, ZqV hz, zhe hz, zms, gr, gn', gi', f0, f33, JLP, q0, q33, x1']
         exact Bt.drop _ hh rfl rfl
        have x1' := eq_false x1
        by_cases x2 : (D.getD n deR.d).size < 0
        ·have x2' := eq_true x2
         have hr : Jjp m = 3 := by
          unfold Jjp
          rw [if_pos hk, if_pos]
          rw [← hany, List.any_eq_true]
          exact ⟨D.getD n deR.d, by rw [List.getD_eq_getElem?_getD, List.getElem?_eq_getElem gn]; exact List.getElem_mem gn, (zx3 _).2 (.inr x2)⟩
         rw [hr]
         simp only [Qfy, Q7I, qe2, qur, X6x, simprocAttr, CO.tmps, Opd.tmps, optT, Nat.reducePow, Nat.reduceDiv, Nat.reduceMod, Q3v, JFu, c1, c2, c3, c4, ca, tm, im, l1, s1, l2, s2, n1, Z6C, ← hD, List.getElem?_cons_zero, List.getElem?_cons_succ, zDt hh, qwE hz, ZqV hz, zhe hz, zms, gr, gn', gi', f0, f33, JLP, q0, q33, x1', x2']
         exact Bt.drop _ hh rfl rfl
        have x2' := eq_false x2
        simp only [Qfy, Q7I, qe2, qur, X6x, simprocAttr, CO.tmps, Opd.tmps, optT, Nat.reducePow, Nat.reduceDiv, Nat.reduceMod, Q3v, JFu, c1, c2, c3, c4, ca, tm, im, l1, s1, l2, s2, n1, Z6C, ← hD, List.getElem?_cons_zero, List.getElem?_cons_succ, zDt hh, qwE hz, ZqV hz, zhe hz, zms, gr, gn', gi', f0, f33, JLP, q0, q33, x1', x2', w1]
        refine ⟨n + 1, ⟨gn, fun j hj => ?_⟩, by omega, by simp only [qe2, X6x, simprocAttr]⟩
        rcases Nat.lt_or_ge j n with q | q
        ·exact hn2 j q
        ·obtain rfl : j = n := by omega
         exact Bool.eq_false_iff.2 fun q => ((zx3 _).1 q).elim x1 x2
       ·have gn' : ((n : Int) < (D.length : Int)) = False := eq_false (by omega)
        have hno : (allD m).any negD = false := by
         rw [← hany, List.any_eq_false]
         intro d hd q
         obtain ⟨j, hj, rfl⟩ := List.getElem_of_mem hd
         have := hn2 j (by omega)
         rw [List.getD_eq_getElem?_getD, List.getElem?_eq_getElem hj] at this
         rw [show negD (D[j]).de = false from this] at q
         cases q
        by_cases y1 : 16 < ls.length
        ·have y1' : ((16 : Int) < (ls.length : Int)) = True := eq_true (by omega)
         have hr : Jjp m = 4 := by unfold Jjp; rw [if_pos hk, if_neg (by rw [hno]; decide), if_pos (.inl (by omega))]
         rw [hr]
         simp only [Qfy, Q7I, qe2, qur, X6x, simprocAttr, CO.tmps, Opd.tmps, optT, Nat.reducePow, Nat.reduceDiv, Nat.reduceMod, Q3v, JFu, c1, c2, c3, c4, ca, tm, im, l1, s1, l2, s2, n1, Z6C, ← hD, List.getElem?_cons_zero, List.getElem?_cons_succ, zDt hh, qwE hz, ZqV hz, zhe hz, zms, gn', y1']
         exact Bt.drop _ hh rfl rfl
        have y1' : ((16 : Int) < (ls.length : Int)) = False := eq_false (by omega)
        by_cases y2 : 8 < ss.length
        ·have y2' : ((8 : Int) < (ss.length : Int)) = True := eq_true (by omega)
         have hr : Jjp m = 4 := by unfold Jjp; rw [if_pos hk, if_neg (by rw [hno]; decide), if_pos (.inr (by omega))]
         rw [hr]
         simp only [Qfy, Q7I, qe2, qur, X6x, simprocAttr, CO.tmps, Opd.tmps, optT, Nat.reducePow, Nat.reduceDiv, Nat.reduceMod, Q3v, JFu, c1, c2, c3, c4, ca, tm, im, l1, s1, l2, s2, n1, Z6C, ← hD, List.getElem?_cons_zero, List.getElem?_cons_succ, zDt hh, qwE hz, ZqV hz, zhe hz, zms, gn', y1', y2']
         exact Bt.drop _ hh rfl rfl
        have y2' : ((8 : Int) < (ss.length : Int)) = False := eq_false (by omega)
        have hr : Jjp m = 0 := by unfold Jjp; rw [if_pos hk, if_neg (by rw [hno]; decide), if_neg (by omega)]
        rw [hr]
        simp only [Qfy, Q7I, qe2, qur, X6x, simprocAttr, CO.tmps, Opd.tmps, optT, Nat.reducePow, Nat.reduceDiv, Nat.reduceMod, Q3v, JFu, c1, c2, c3, c4, ca, tm, im, l1, s1, l2, s2, n1, Z6C, ← hD, List.getElem?_cons_zero, List.getElem?_cons_succ, zDt hh, qwE hz, ZqV hz, zhe hz, zms, gn', y1', y2']
        exact Bt.drop _ hh rfl rfl
    ·have g5' : ((0 : Int) < (ss.length : Int)) = True := eq_true (by omega)
     have hk : zHI m = false := by rw [hkb]; exact decide_eq_false (by omega)
     by_cases zz : c = dsc deZ
     ·have zz' := eq_true zz
      by_cases zl : ls.length = 0
      ·have zl' : ((ls.length : Int) = 0) = True := eq_true (by omega)
       have hr : Jjp m = 20 := by unfold Jjp; rw [if_neg (by rw [hk]; decide)]
       rw [hr]
       simp only [Qfy, Q7I, qe2, qur, X6x, simprocAttr, CO.tmps, Opd.tmps, optT, Nat.reducePow, Nat.reduceDiv, Nat.reduceMod, Q3v, JFu, c1, c2, c3, c4, ca, tm, im, l1, s1, l2, s2, n1, Z6C, ← hD, List.getElem?_cons_zero, List.getElem?_cons_succ, zDt hh, qwE hz, ZqV hz, zhe hz, zms, g3', g4', g5', ← Qwh, z1, zz', zl']
       exact Bt.drop _ hh rfl rfl
      ·have zl' : ((ls.length : Int) = 0) = False := eq_false (by omega)
       have hr : Jjp m = 20 := by unfold Jjp; rw [if_neg (by rw [hk]; decide)]
       rw [hr]
       simp only [Qfy, Q7I, qe2, qur, X6x, simprocAttr, CO.tmps, Opd.tmps, optT, Nat.reducePow, Nat.reduceDiv, Nat.reduceMod, Q3v, JFu, c1, c2, c3, c4, ca, tm, im, l1, s1, l2, s2, n1, Z6C, ← hD, List.getElem?_cons_zero, List.getElem?_cons_succ, zDt hh, qwE hz, ZqV hz, zhe hz, zms, g3', g4', g5', ← Qwh, z1, zz', zl']
       exact Bt.drop _ hh rfl rfl
     ·have zz' := eq_false zz
      have hr : Jjp m = 20 := by unfold Jjp; rw [if_neg (by rw [hk]; decide)]
      rw [hr]
      simp only [Qfy, Q7I, qe2, qur, X6x, simprocAttr, CO.tmps, Opd.tmps, optT, Nat.reducePow, Nat.reduceDiv, Nat.reduceMod, Q3v, JFu, c1, c2, c3, c4, ca, tm, im, l1, s1, l2, s2, n1, Z6C, ← hD, List.getElem?_cons_zero, List.getElem?_cons_succ, zDt hh, qwE hz, ZqV hz, zhe hz, zms, g3', g4', g5', ← Qwh, z1, zz']
      exact Bt.drop _ hh rfl rfl
   have g3' := eq_false g3
   by_cases g4 : k = 4
   ·have g4' := eq_true g4
    have hkb : zHI m = (decide (ls.length = 0) && decide (c = dsc deZ)) := by
     rw [hm]
     unfold zHI ZVh
     dsimp only
     rw [if_neg g3, if_pos g4, List.length_map, QEH]
    by_cases zz : c = dsc deZ
    ·have zz' := eq_true zz
     by_cases zl : ls.length = 0
     ·have zl' : ((ls.length : Int) = 0) = True := eq_true (by omega)
      have hk : zHI m = true := by rw [hkb, decide_eq_true zl, decide_eq_true zz]; rfl
      simp only [Qfy, Q7I, qe2, qur, X6x, simprocAttr, CO.tmps, Opd.tmps, optT, Nat.reducePow, Nat.reduceDiv, Nat.reduceMod, Q3v, JFu, c1, c2, c3, c4, ca, tm, im, l1, s1, l2, s2, n1, Z6C, ← hD, List.getElem?_cons_zero, List.getElem?_cons_succ, zDt hh, qwE hz, ZqV hz, zhe hz, zms, g3', g4', ← Qwh, z1, zz', zl']
      refine J4A (S := Nat) (fun k => D.length - k) (fun k => tp 1 ++ [.p (h.length + 0) 0] ++ tp 4 ++ [apS deR (h.length + 1) D, .i .i64 (k : Nat)] ++ tp 70) (fun k => k ≤ D.length ∧ ∀ j, j < k → negD (D.getD j deR.d).de = false) 0 ⟨Nat.zero_le _, fun j hj => absurd hj (Nat.not_lt_zero _)⟩ (by simp only [qe2, X6x, simprocAttr]) fun n hn => ?_
      obtain ⟨hn1, hn2⟩ := hn
      by_cases gn : n < D.length
      ·have gn' : ((n : Int) < (D.length : Int)) = True := eq_true (by omega)
       have gn2 : ((0 : Int) ≤ (n : Int) ∧ (n : Int) < (D.length : Int)) = True := eq_true (by omega)
       have gr : ∀ id, apS deR id D = rsl deR id D := fun id => JeD _ (by omega)
       have w1 : IntKind.i64.wrap ((n : Int) + 1) = ((n + 1 : Nat) : Int) := zdT (by unfold In64; omega)
       have gi' : iadV 35 (rsl deR (h.length + 1) D) (.i .i64 (n : Nat)) = some (elP 35 (rsl deR (h.length + 1) D) n 0) := by
        have := gi n
        rw [if_pos (by omega), Int.toNat_natCast] at this
        exact this
       have f0 : fadV 0 (elP 35 (rsl deR (h.length + 1) D) n 0) = some (elP 35 (rsl deR (h.length + 1) D) n 0) := gf 0 n 0 gn
       have f33 : fadV 33 (elP 35 (rsl deR (h.length + 1) D) n 0) = some (elP 35 (rsl deR (h.length + 1) D) n 33) := gf 33 n 0 gn
       have q0 : ldV (h ++ [AB.blk false true (.i .i64 k :: .s t :: (deR.f c ++ [l, s])), resB deR true D]) none (elP 35 (rsl deR (h.length + 1) D) n 0) = some (.i .i64 (D.getD n deR.d).media) := (gl n 0 gn (by decide)).trans (da _)
       have q33 : ldV (h ++ [AB.blk false true (.i .i64 k :: .s t :: (deR.f c ++ [l, s])), resB deR true D]) none (elP 35 (rsl deR (h.length + 1) D) n 33) = some (.i .i64 (D.getD n deR.d).size) := (gl n 33 gn (by decide)).trans (db _)
       by_cases x1 : (D.getD n deR.d).media < 0
       ·have x1' := eq_true x1
        have hr : Jjp m = 3 := by
         unfold Jjp
         rw [if_pos hk, if_pos]
         rw [← hany, List.any_eq_true]
         exact ⟨D.getD n deR.d, by rw [List.getD_eq_getElem?_getD, List.getElem?_eq_getElem gn]; exact List.getElem_mem gn, (zx3 _).2 (.inl x1)⟩
        rw [hr]
        simp only [Qfy, Q7I, qe2, qur, X6x, simprocAttr, CO.tmps, Opd.tmps, optT, Nat.reducePow, Nat.reduceDiv, Nat.reduceMod, Q3v, JFu, c1, c2, c3, c4, ca, tm, im, l1, s1, l2, s2, n1, Z6C, ← hD, List.getElem?_cons_zero, List.getElem?_cons_succ, zDt hh, qwE hz, ZqV hz, zhe hz, zms, gr, gn', gi', f0, f33, JLP, q0, q33, x1']
        exact Bt.drop _ hh rfl rfl
       have x1' := eq_false x1
       by_cases x2 : (D.getD n deR.d).size < 0
       ·have x2' := eq_true x2
        have hr : Jjp m = 3 := by
         unfold Jjp
         rw [if_pos hk, if_pos]
         rw [← hany, List.any_eq_true]
         exact ⟨D.getD n deR.d, by rw [List.getD_eq_getElem?_getD, List.getElem?_eq_getElem gn]; exact List.getElem_mem gn, (zx3 _).2 (.inr x2)⟩
        rw [hr]
        simp only [Qfy, Q7I, qe2, qur, X6x, simprocAttr, CO.tmps, Opd.tmps, optT, Nat.reducePow, Nat.reduceDiv, Nat.reduceMod, Q3v, JFu, c1, c2, c3, c4, ca, tm, im, l1, s1, l2, s2, n1, Z6C, ← hD, List.getElem?_cons_zero, List.getElem?_cons_succ, zDt hh, qwE hz, ZqV hz, zhe hz, zms, gr, gn', gi', f0, f33, JLP, q0, q33, x1', x2']
        exact Bt.drop _ hh rfl rfl
       have x2' := eq_false x2
       simp only [Qfy, Q7I, qe2, qur, X6x, simprocAttr, CO.tmps, Opd.tmps, optT, Nat.reducePow, Nat.reduceDiv, Nat.reduceMod, Q3v, JFu, c1, c2, c3, c4, ca, tm, im, l1, s1, l2, s2, n1, Z6C, ← hD, List.getElem?_cons_zero, List.getElem?_cons_succ, zDt hh, qwE hz, ZqV hz, zhe hz, zms, gr, gn', gi', f0, f33, JLP, q0, q33, x1', x2', w1]
       refine ⟨n + 1, ⟨gn, fun j hj => ?_⟩, by omega, by simp only [qe2, X6x, simprocAttr]⟩
       rcases Nat.lt_or_ge j n with q | q
       ·exact hn2 j q
       ·obtain rfl : j = n := by omega
        exact Bool.eq_false_iff.2 fun q => ((zx3 _).1 q).elim x1 x2
      ·have gn' : ((n : Int) < (D.length : Int)) = False := eq_false (by omega)
       have hno : (allD m).any negD = false := by
        rw [← hany, List.any_eq_false]
        intro d hd q
        obtain ⟨j, hj, rfl⟩ := List.getElem_of_mem hd
        have := hn2 j (by omega)
        rw [List.getD_eq_getElem?_getD, List.getElem?_eq_getElem hj] at this
        rw [show negD (D[j]).de = false from this] at q
        cases q
       by_cases y1 : 16 < ls.length
       ·have y1' : ((16 : Int) < (ls.length : Int)) = True := eq_true (by omega)
        have hr : Jjp m = 4 := by unfold Jjp; rw [if_pos hk, if_neg (by rw [hno]; decide), if_pos (.inl (by omega))]
        rw [hr]
        simp only [Qfy, Q7I, qe2, qur, X6x, simprocAttr, CO.tmps, Opd.tmps, optT, Nat.reducePow, Nat.reduceDiv, Nat.reduceMod, Q3v, JFu, c1, c2, c3, c4, ca, tm, im, l1, s1, l2, s2, n1, Z6C, ← hD, List.getElem?_cons_zero, List.getElem?_cons_succ, zDt hh, qwE hz, ZqV hz, zhe hz, zms, gn', y1']
        exact Bt.drop _ hh rfl rfl
       have y1' : ((16 : Int) < (ls.length : Int)) = False := eq_false (by omega)
       by_cases y2 : 8 < ss.length
       ·have y2' : ((8 : Int) < (ss.length : Int)) = True := eq_true (by omega)
        have hr : Jjp m = 4 := by unfold Jjp; rw [if_pos hk, if_neg (by rw [hno]; decide), if_pos (.inr (by omega))]
        rw [hr]
        simp only [Qfy, Q7I, qe2, qur, X6x, simprocAttr, CO.tmps, Opd.tmps, optT, Nat.reducePow, Nat.reduceDiv, Nat.reduceMod, Q3v, JFu, c1, c2, c3, c4, ca, tm, im, l1, s1, l2, s2, n1, Z6C, ← hD, List.getElem?_cons_zero, List.getElem?_cons_succ, zDt hh, qwE hz, ZqV hz, zhe hz, zms, gn', y1', y2']
        exact Bt.drop _ hh rfl rfl
       have y2' : ((8 : Int) < (ss.length : Int)) = False := eq_false (by omega)
       have hr : Jjp m = 0 := by unfold Jjp; rw [if_pos hk, if_neg (by rw [hno]; decide), if_neg (by omega)]
       rw [hr]
       simp only [Qfy, Q7I, qe2, qur, X6x, simprocAttr, CO.tmps, Opd.tmps, optT, Nat.reducePow, Nat.reduceDiv, Nat.reduceMod, Q3v, JFu, c1, c2, c3, c4, ca, tm, im, l1, s1, l2, s2, n1, Z6C, ← hD, List.getElem?_cons_zero, List.getElem?_cons_succ, zDt hh, qwE hz, ZqV hz, zhe hz, zms, gn', y1', y2']
       exact Bt.drop _ hh rfl rfl
     ·have zl' : ((ls.length : Int) = 0) = False := eq_false (by omega)
      have hk : zHI m = false := by rw [hkb, decide_eq_false zl, Bool.false_and]
      have hr : Jjp m = 20 := by unfold Jjp; rw [if_neg (by rw [hk]; decide)]
      rw [hr]
      simp only [Qfy, Q7I, qe2, qur, X6x, simprocAttr, CO.tmps, Opd.tmps, optT, Nat.reducePow, Nat.reduceDiv, Nat.reduceMod, Q3v, JFu, c1, c2, c3, c4, ca, tm, im, l1, s1, l2, s2, n1, Z6C, ← hD, List.getElem?_cons_zero, List.getElem?_cons_succ, zDt hh, qwE hz, ZqV hz, zhe hz, zms, g3', g4', ← Qwh, z1, zz', zl']
      exact Bt.drop _ hh rfl rfl
    ·have zz' := eq_false zz
     have hk : zHI m = false := by rw [hkb, decide_eq_false zz, Bool.and_false]
     have hr : Jjp m = 20 := by unfold Jjp; rw [if_neg (by rw [hk]; decide)]
     rw [hr]
     simp only [Qfy, Q7I, qe2, qur, X6x, simprocAttr, CO.tmps, Opd.tmps, optT, Nat.reducePow, Nat.reduceDiv, Nat.reduceMod, Q3v, JFu, c1, c2, c3, c4, ca, tm, im, l1, s1, l2, s2, n1, Z6C, ← hD, List.getElem?_cons_zero, List.getElem?_cons_succ, zDt hh, qwE hz, ZqV hz, zhe hz, zms, g3', g4', ← Qwh, z1, zz']
     exact Bt.drop _ hh rfl rfl
   have g4' := eq_false g4
   have hk : zHI m = false := by
    rw [hm]
    unfold zHI ZVh
    dsimp only
    rw [if_neg g3, if_neg g4]
   by_cases zz : c = dsc deZ
   ·have zz' := eq_true zz
    by_cases zl : ls.length = 0
    ·have zl' : ((ls.length : Int) = 0) = True := eq_true (by omega)
     have hr : Jjp m = 20 := by unfold Jjp; rw [if_neg (by rw [hk]; decide)]
     rw [hr]
     simp only [Qfy, Q7I, qe2, qur, X6x, simprocAttr, CO.tmps, Opd.tmps, optT, Nat.reducePow, Nat.reduceDiv, Nat.reduceMod, Q3v, JFu, c1, c2, c3, c4, ca, tm, im, l1, s1, l2, s2, n1, Z6C, ← hD, List.getElem?_cons_zero, List.getElem?_cons_succ, zDt hh, qwE hz, ZqV hz, zhe hz, zms, g3', g4', ← Qwh, z1, zz', zl']
     exact Bt.drop _ hh rfl rfl
    ·have zl' : ((ls.length : Int) = 0) = False := eq_false (by omega)
     have hr : Jjp m = 20 := by unfold Jjp; rw [if_neg (by rw [hk]; decide)]
     rw [hr]
     simp only [Qfy, Q7I, qe2, qur, X6x, simprocAttr, CO.tmps, Opd.tmps, optT, Nat.reducePow, Nat.reduceDiv, Nat.reduceMod, Q3v, JFu, c1, c2, c3, c4, ca, tm, im, l1, s1, l2, s2, n1, Z6C, ← hD, List.getElem?_cons_zero, List.getElem?_cons_succ, zDt hh, qwE hz, ZqV hz, zhe hz, zms, g3', g4', ← Qwh, z1, zz', zl']
     exact Bt.drop _ hh rfl rfl
   ·have zz' := eq_false zz
    have hr : Jjp m = 20 := by unfold Jjp; rw [if_neg (by rw [hk]; decide)]
    rw [hr]
    simp only [Qfy, Q7I, qe2, qur, X6x, simprocAttr, CO.tmps, Opd.tmps, optT, Nat.reducePow, Nat.reduceDiv, Nat.reduceMod, Q3v, JFu, c1, c2, c3, c4, ca, tm, im, l1, s1, l2, s2, n1, Z6C, ← hD, List.getElem?_cons_zero, List.getElem?_cons_succ, zDt hh, qwE hz, ZqV hz, zhe hz, zms, g3', g4', ← Qwh, z1, zz']
    exact Bt.drop _ hh rfl rfl
  ·cases e1
 ·cases e
end Go.Proofs.Ytpoojfnmhnedpaa
end
section
namespace Go.Proofs.Ytpoojfnmhnedpaa
set_option maxRecDepth 100000
set_option maxHeartbeats 4000000
def QAj : List AV → List AB → Option (AV × List AB)
 | [.i .i64 lim], h => if 0 ≤ lim ∧ lim ≤ 67108864 then some (.tu [.p h.length 0, .i .i64 0], h ++ [blkV lim .ns 0]) else none
 | _, _ => none
theorem Jfc : Spec Try.prog 44 QAj := by
 intro args h v h' e
 unfold QAj at e
 split at e
 ·rename_i lim
  split at e
  ·rename_i hl
   cases e
   refine FnAt.c (FnAt.run (by kernel_rfl) (T := ⟨[], []⟩) ⟨trivial, trivial⟩ Try.func44 sw44 fun ho hh => ?_)
   have g1 : (lim < 0) = False := eq_false (by omega)
   have g2 : ((67108864 : Int) < lim) = False := eq_false (by omega)
   unfold w44
   simp only [Qfy, Q7I, qe2, qur, X6x, simprocAttr, CO.tmps, Opd.tmps, optT, Nat.reducePow, Nat.reduceDiv, Nat.reduceMod, g1, g2]
   exact Bt.eq rfl rfl
  ·cases e
 ·cases e
theorem XPz {P : Program} {h L : List AB} {v : AV} {l : List UInt8} {e : Int} (k : Nat) (hh : HOk h) (h0 : l.length = 0 → Wk (.sl h.length 0 0 0 (some 0)) v) (h1 : l.length ≠ 0 → v = .sl (h.length + k) 0 l.length l.length (some 1) ∧ L[k]? = some (.blk true true (XQp.cells l))) : Bt P h.length [.tu [v, .i .i64 e]] (h ++ L) [.tu [rsl XQp h.length l, .i .i64 e]] (h ++ [resB XQp true l]) := by
 by_cases g : l.length = 0
 ·have hl : l = [] := List.eq_nil_of_length_eq_zero g
  subst hl
  refine Bt.trans (Bt.wk1 (Wk.tu (l' := [rsl XQp h.length [], .i .i64 e]) ⟨h0 rfl, Wk.refl _, trivial⟩)) ?_
  exact Bt.trans (Bt.drop (P := P) (v := .tu [rsl XQp h.length [], .i .i64 e]) (a := .tu [rsl XQp h.length [], .i .i64 e]) L hh rfl rfl) (Bt.pad _ _ 1)
 ·obtain ⟨rfl, hb⟩ := h1 g
  rw [← qgk g] at hb
  rw [show AV.sl (h.length + k) 0 l.length l.length (some 1) = rsl XQp (h.length + k) l by unfold rsl; rw [if_neg g]; rfl]
  exact Bt.sel [k] hh (by simp) ⟨⟨_, hb, of_eq_true (Ygp _ _ _ _)⟩, trivial⟩ ⟨.inr ⟨by rw [zEo, Z3W, XPo _ _ _ (decide_eq_true (by simp))]; rfl, by simp only [AV.ren, renL, zsP]; rw [show selN h.length [k] h.length = h.length + k from Qbt 0]; exact Wk.refl _⟩, trivial⟩
theorem VrH.rd {h : List AB} {i : Nat} {lim : Int} {s : AV} {bs : List UInt8} {e : Int} (H : VrH h i lim s bs e) : Rd XQp h s bs := by
 have h1 := H.hlim
 have h2 := H.hlen
 rcases H.hs with ⟨q1, q2⟩ | ⟨q, q1, q2, q3⟩
 ·rw [q1, q2]
  exact QKn _ _
 ·rw [q1, JeD _ q2]
  exact zpN q3 (by unfold maxLen; omega)
noncomputable def Y9i : List AV → List AB → Option (AV × List AB)
 | [.p i 0], h => (vrM h i).bind fun x => some (.tu [rsl XQp h.length (Xc0 x.2.2.2 x.2.2.1), .i .i64 x.2.2.2], h ++ [resB XQp true (Xc0 x.2.2.2 x.2.2.1)])
 | _, _ => none
theorem ZC7 : Spec Try.prog 48 Y9i := by
 intro args h v h' e
 unfold Y9i at e
 split at e
 ·rename_i i
  obtain ⟨lim, s, bs, er, H, e2⟩ := qOv e
  clear e
  cases e2
  dsimp only
  refine FnAt.c (FnAt.run (by kernel_rfl) (T := ⟨[], []⟩) ⟨trivial, trivial⟩ Try.func48 sw48 fun ho hh => ?_)
  have f1 := zW9 (qwo H)
  have hl1 := H.hlim
  have hl2 := H.hlen
  have hso : s.ok (fun k => decide (k < h.length)) = true := by
   have := hh i _ H.hi
   simp only [blkV, AB.ok, Z3W, Bool.and_eq_true] at this
   exact this.2.1
  have fs := H.rd.fx hso (sz := 1) rfl
  have fc := H.rd.src (sz := 1) rfl
  unfold w48
  by_cases g : er = 0
  case neg =>
   have g' := eq_false g
   have hd : Xc0 er bs = [] := by unfold Xc0; rw [if_neg g]
   rw [hd]
   simp only [Qfy, Q7I, qe2, qur, X6x, simprocAttr, CO.tmps, Opd.tmps, optT, Nat.reducePow, Nat.reduceDiv, Nat.reduceMod, f1, g', List.getElem?_cons_zero, List.getElem?_cons_succ, ne_eq, not_false_eq_true, decide_true]
   exact YFw hh [] er
  subst g
  have hd : Xc0 0 bs = bs := by unfold Xc0; rw [if_pos rfl]
  rw [hd]
  by_cases h0 : bs.length = 0
  ·have h0' := eq_true h0
   simp only [Qfy, Q7I, qe2, qur, X6x, simprocAttr, CO.tmps, Opd.tmps, optT, Nat.reducePow, Nat.reduceDiv, Nat.reduceMod, f1, fs, fc, h0', h0, qtp, List.getElem?_cons_zero, List.getElem?_cons_succ, ne_eq, not_true_eq_false, decide_false]
   exact XPz 0 hh (fun _ => Wk.empty _ _ _ _ _ _) (fun q => absurd h0 q)
  ·have h0' := eq_false h0
   have z1 : (bs.length * 1 ≤ 140737488355328 ∧ bs.length ≤ maxLen) = True := eq_true ⟨by omega, by unfold maxLen; omega⟩
   simp only [Qfy, Q7I, qe2, qur, X6x, simprocAttr, CO.tmps, Opd.tmps, optT, Nat.reducePow, Nat.reduceDiv, Nat.reduceMod, f1, fs, fc, h0', z1, qtp, List.getElem?_cons_zero, List.getElem?_cons_succ, ne_eq, not_true_eq_false, decide_false]
   exact XPz 1 hh (fun q => absurd q h0) (fun _ => ⟨rfl, rfl⟩)
 ·cases e
end Go.Proofs.Ytpoojfnmhnedpaa
end
