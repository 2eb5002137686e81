/- Part 18 of what the laws' proofs rest on. No condition. -/
import Derived.Test.YtpoojfnmhnedpaaMo17
set_option linter.all false
section
namespace Go.Proofs.Ytpoojfnmhnedpaa
set_option maxRecDepth 100000
set_option maxHeartbeats 4000000
def manC (y : Int × List UInt8 × Dsc × AV × AV) : List AV := .i .i64 y.1 :: .s y.2.1 :: (deR.f y.2.2.1 ++ [y.2.2.2.1, y.2.2.2.2])
theorem qfP {y z : Int × List UInt8 × Dsc × AV × AV} (h : manC y = manC z) : y = z := by
 obtain ⟨a, b, c, d, e⟩ := y
 obtain ⟨a', b', c', d', e'⟩ := z
 simp only [manC, List.cons.injEq, AV.i.injEq, AV.s.injEq, true_and] at h
 obtain ⟨rfl, rfl, h⟩ := h
 have h2 := List.append_inj h (by rw [deR.len, deR.len])
 have h3 := deR.inj _ _ h2.1
 simp only [List.cons.injEq, and_true] at h2
 rw [h3, h2.2.1, h2.2.2]
open Classical in
noncomputable def getM (a : AV) : Option (Int × List UInt8 × Dsc × AV × AV) := if e : ∃ y, a = .ag (manC y) then some e.choose else none
theorem ZEb (y : Int × List UInt8 × Dsc × AV × AV) : getM (.ag (manC y)) = some y := by
 unfold getM
 have hx : ∃ z, AV.ag (manC y) = .ag (manC z) := ⟨y, rfl⟩
 rw [dif_pos hx]
 have := hx.choose_spec
 injection this with h
 rw [qfP h.symm]
theorem QLI {a : AV} {y : Int × List UInt8 × Dsc × AV × AV} (e : getM a = some y) : a = .ag (manC y) := by
 unfold getM at e
 split at e
 ·rename_i h
  cases e
  exact h.choose_spec
 ·cases e
noncomputable def inM (h : List AB) (a : AV) : Option (Int × List UInt8 × Dsc × AV × AV × List Dsc × List Dsc) := (getM a).bind fun y => (getS deR h y.2.2.2.1).bind fun ls => (getS deR h y.2.2.2.2).bind fun ss => some (y.1, y.2.1, y.2.2.1, y.2.2.2.1, y.2.2.2.2, ls, ss)
theorem q2E {β : Type} {h : List AB} {a : AV} {f : Int × List UInt8 × Dsc × AV × AV × List Dsc × List Dsc → Option β} {b : β} (e : (inM h a).bind f = some b) : ∃ k t c l s ls ss, a = .ag (.i .i64 k :: .s t :: (deR.f c ++ [l, s])) ∧ Rd deR h l ls ∧ Rd deR h s ss ∧ f (k, t, c, l, s, ls, ss) = some b := by
 obtain ⟨x, h1, h2⟩ := Option.bind_eq_some_iff.1 e
 unfold inM at h1
 obtain ⟨⟨k, t, c, l, s⟩, h3, h4⟩ := Option.bind_eq_some_iff.1 h1
 obtain ⟨ls, h5, h6⟩ := Zly h4
 obtain ⟨ss, h7, h8⟩ := Zly h6
 cases h8
 exact ⟨k, t, c, l, s, ls, ss, QLI h3, h5, h7, h2⟩
theorem Kkg {h : List AB} {k : Int} {t : List UInt8} {c : Dsc} {l s : AV} {ls ss : List Dsc} (h1 : getS deR h l = some ls) (h2 : getS deR h s = some ss) : inM h (.ag (.i .i64 k :: .s t :: (deR.f c ++ [l, s]))) = some (k, t, c, l, s, ls, ss) := by
 unfold inM
 have := ZEb (k, t, c, l, s)
 unfold manC at this
 dsimp only at this
 rw [this, Option.bind_some]
 dsimp only
 rw [h1, Option.bind_some, h2, Option.bind_some]
noncomputable def zyD : List AV → List AB → Option (AV × List AB)
 | [a], h => (inM h a).bind fun y => some (.b (Q54 (JcG y.1 y.2.1 y.2.2.1 y.2.2.2.2.2.1 y.2.2.2.2.2.2)), h)
 | _, _ => none
theorem KMZ (c : Dsc) (l s : AV) : (deR.f c ++ [l, s]).length = 37 ∧ (deR.f c ++ [l, s])[35]? = some l ∧ (deR.f c ++ [l, s])[36]? = some s ∧ (deR.f c ++ [l, s]).take 35 = deR.f c := by
 have h : (deR.f c).length = 35 := deR.len c
 refine ⟨by simp [h], ?_, ?_, List.take_left' h⟩
 ·rw [List.getElem?_append_right (by omega), h]; rfl
 ·rw [List.getElem?_append_right (by omega), h]; rfl
theorem qVW (c : Dsc) : deEq c.de deZ = decide (c = dsc deZ) := by
 rw [Bool.eq_iff_iff, J2R, decide_eq_true_eq]
 have hz : (dsc deZ).de = deZ := K9B rfl
 constructor
 ·intro q
  rw [← hz] at q
  exact Dsc.de_inj q
 ·intro q
  rw [q, hz]
theorem YNd (c : Dsc) {l s : AV} (hl : l.isSl = true) (hs : s.isSl = true) : (deR.f c ++ [l, s]).all (wrOk false) = true := by
 rw [List.all_append, zPU]
 simp [wrOk, YWW hl, YWW hs]
theorem QH6 : Spec Try.prog 31 zyD := by
 intro args h v h' e
 unfold zyD at e
 split at e
 ·rename_i a
  obtain ⟨k, t, c, l, s, ls, ss, rfl, hl, hs, e1⟩ := q2E e
  clear e
  cases e1
  refine FnAt.c (FnAt.run (by kernel_rfl) (T := ⟨[], []⟩) ⟨trivial, trivial⟩ Try.func31 sw31 fun ho hh => ?_)
  obtain ⟨c1, c2, c3, c4⟩ := KMZ c l s
  have ca := YNd c hl.isSl hs.isSl
  have l1 := zuq hl.isSl
  have s1 := zuq hs.isSl
  have l2 := hl.len
  have s2 := hs.len
  have r1 : (2 + 35 ≤ 37 + 1 + 1) = True := eq_true (by omega)
  have z1 := qAc c (dsc deZ)
  unfold w31
  by_cases g3 : k = 3
  ·have g3' := eq_true g3
   have hr : Q54 (JcG k t c ls ss) = decide ((ss.length : Int) = 0) := by
    unfold Q54 JcG
    dsimp only
    rw [if_pos g3, List.length_map]
    exact decide_eq_decide.2 (by omega)
   rw [hr]
   simp only [JaF, Qv5, Zsz, qtN, qup, simprocAttr, CO.tmps, Opd.tmps, optT, Nat.reducePow, Nat.reduceDiv, Nat.reduceMod, c1, c2, c3, c4, ca, l1, s1, l2, s2, g3']
   exact Bt.drop _ hh rfl rfl
  ·have g3' := eq_false g3
   by_cases g4 : k = 4
   ·have g4' := eq_true g4
    by_cases g5 : ls.length = 0
    ·have g5' : ((ls.length : Int) = 0) = True := eq_true (by omega)
     have hr : Q54 (JcG k t c ls ss) = decide (c = dsc deZ) := by
      unfold Q54 JcG
      dsimp only
      rw [if_neg g3, if_pos g4, List.length_map, qVW, decide_eq_true g5, Bool.true_and]
     rw [hr]
     simp only [JaF, Qv5, Zsz, qtN, qup, simprocAttr, CO.tmps, Opd.tmps, optT, Nat.reducePow, Nat.reduceDiv, Nat.reduceMod, c1, c2, c3, c4, ca, l1, s1, l2, s2, g3', g4', g5', ← KO6, z1]
     exact Bt.drop _ hh rfl rfl
    ·have g5' : ((ls.length : Int) = 0) = False := eq_false (by omega)
     have hr : Q54 (JcG k t c ls ss) = false := by
      unfold Q54 JcG
      dsimp only
      rw [if_neg g3, if_pos g4, List.length_map, decide_eq_false g5, Bool.false_and]
     rw [hr]
     simp only [JaF, Qv5, Zsz, qtN, qup, simprocAttr, CO.tmps, Opd.tmps, optT, Nat.reducePow, Nat.reduceDiv, Nat.reduceMod, c1, c2, c3, c4, ca, l1, s1, l2, s2, g3', g4', g5']
     exact Bt.drop _ hh rfl rfl
   ·have g4' := eq_false g4
    have hr : Q54 (JcG k t c ls ss) = false := by
     unfold Q54 JcG
     dsimp only
     rw [if_neg g3, if_neg g4]
    rw [hr]
    simp only [JaF, Qv5, Zsz, qtN, qup, simprocAttr, CO.tmps, Opd.tmps, optT, Nat.reducePow, Nat.reduceDiv, Nat.reduceMod, c1, c2, c3, c4, ca, l1, s1, l2, s2, g3', g4']
    exact Bt.drop _ hh rfl rfl
 ·cases e
noncomputable def Qgx : List AV → List AB → Option (AV × List AB)
 | [a], h => (YrU a).bind fun d => some (.b (negD d.de), h)
 | _, _ => none
theorem Z4x : Spec Try.prog 33 Qgx := by
 intro args h v h' e
 unfold Qgx at e
 split at e
 ·rename_i a
  obtain ⟨d, hd, e1⟩ := Option.bind_eq_some_iff.1 e
  clear e
  cases e1
  obtain rfl := qAW hd
  refine FnAt.c (FnAt.run (by kernel_rfl) (T := ⟨[], []⟩) ⟨trivial, trivial⟩ Try.func33 sw33 fun ho hh => ?_)
  obtain ⟨b1, b2, b3, b4, b5⟩ := Yet d
  obtain ⟨c1, c2, c3, c4⟩ := XcV d
  unfold w33
  by_cases g : d.media < 0
  ·have g' := eq_true g
   have hr : negD d.de = true := by unfold negD Dsc.de; rw [decide_eq_true g]; rfl
   rw [hr]
   simp only [JaF, Qv5, Zsz, qtN, qup, simprocAttr, CO.tmps, Opd.tmps, optT, Nat.reducePow, Nat.reduceDiv, Nat.reduceMod, b1, b3, c1, c2, g']
   exact Bt.drop _ hh rfl rfl
  ·have g' := eq_false g
   have hr : negD d.de = decide (d.size < 0) := by unfold negD Dsc.de; rw [decide_eq_false g, Bool.false_or]
   rw [hr]
   simp only [JaF, Qv5, Zsz, qtN, qup, simprocAttr, CO.tmps, Opd.tmps, optT, Nat.reducePow, Nat.reduceDiv, Nat.reduceMod, b1, b3, c1, c2, g']
   exact Bt.drop _ hh rfl rfl
 ·cases e
noncomputable def XKw : List Dsc → Nat → Int
 | [], _ => -1
 | d :: l, k => if negD d.de = true then (k : Int) else XKw l (k + 1)
theorem Qkr : ∀ (l : List Dsc) (k : Nat), (0 ≤ XKw l k) ↔ l.any (fun d => negD d.de) = true
 | [], k => by simp [XKw]
 | d :: l, k => by
  unfold XKw
  by_cases g : negD d.de = true
  ·rw [if_pos g]; simp [g]
  ·rw [if_neg g, List.any_cons, Qkr l (k + 1)]; simp [g]
theorem QFt (l : List Dsc) {n : Nat} (h : n < l.length) : XKw (l.drop n) n = if negD (l.getD n deR.d).de = true then (n : Int) else XKw (l.drop (n + 1)) (n + 1) := by
 rw [List.drop_eq_getElem_cons h, List.getD_eq_getElem?_getD, List.getElem?_eq_getElem h]
 rfl
noncomputable def YGn : List AV → List AB → Option (AV × List AB)
 | [a, .f (.func g) [] []], h => if g = 33 then (getS deR h a).bind fun l => some (.i .i64 (XKw l 0), h) else none
 | _, _ => none
theorem Qib : Spec Try.prog 60 YGn := by
 intro args h v h' e
 unfold YGn at e
 split at e
 ·rename_i a g
  split at e
  ·rename_i hg
   subst hg
   obtain ⟨l, hl, e1⟩ := Zly e
   clear e
   cases e1
   refine FnAt.c (FnAt.run (by kernel_rfl) (T := ⟨[⟨33, Qgx, fun _ => []⟩], []⟩) ⟨⟨Z4x, trivial⟩, trivial⟩ Try.func60 sw60 fun ho hh => ?_)
   simp only [JjW, Bool.and_eq_true] at ho
   have f1 := hl.fx ho.1 (sz := 35) rfl
   unfold w60
   simp only [JaF, Qv5, Zsz, qtN, qup, simprocAttr, CO.tmps, Opd.tmps, optT, Nat.reducePow, Nat.reduceDiv, Nat.reduceMod, f1]
   refine KIj (S := Nat) (fun k => l.length - k) (fun k => [a, .f (.func 33) [] []] ++ tp 5 ++ [.i .i64 l.length, .i .i64 k] ++ tp 10) (fun k => k ≤ l.length ∧ XKw l 0 = XKw (l.drop k) k) 0 ⟨Nat.zero_le _, rfl⟩ (by simp only [Zsz, qup, simprocAttr, Int.natCast_zero]) fun k hk => ?_
   obtain ⟨k1, k2⟩ := hk
   by_cases gk : k < l.length
   ·have gk' : ((k : Int) < (l.length : Int)) = True := eq_true (by omega)
    have gk2 : ((0 : Int) ≤ (k : Int) ∧ (k : Int) < (l.length : Int)) = True := eq_true ⟨by omega, by omega⟩
    have gk3 := eq_true gk
    have e1 : IntKind.i64.wrap ((k : Int) + 1) = ((k + 1 : Nat) : Int) := KqL (by have := hl.2; unfold maxLen at this; unfold In64; omega)
    rw [k2]
    have st := QFt l gk
    obtain ⟨d, hd⟩ : ∃ d, d = l.getD k deR.d := ⟨_, rfl⟩
    rw [← hd] at st
    by_cases gd : negD d.de = true
    ·rw [if_pos gd] at st
     rw [st]
     simp only [Zsz, qtN, qup, simprocAttr, CO.tmps, Opd.tmps, optT, Nat.reducePow, Nat.reduceDiv, Nat.reduceMod, f1, gk', gk2, gk3, ← hd, KFw, gd, Qgx]
     exact Bt.drop _ hh rfl rfl
    ·rw [if_neg gd] at st
     have gd' : negD d.de = false := by simpa using gd
     simp only [Zsz, qtN, qup, simprocAttr, CO.tmps, Opd.tmps, optT, Nat.reducePow, Nat.reduceDiv, Nat.reduceMod, f1, gk', gk2, gk3, ← hd, KFw, gd', e1, Qgx]
     exact ⟨k + 1, ⟨gk, by first | exact st | rw [k2, st]⟩, by omega, Wk.refl _⟩
   ·obtain rfl : k = l.length := by omega
    have gk' : ((l.length : Int) < (l.length : Int)) = False := eq_false (by omega)
    rw [k2, List.drop_length]
    simp only [Zsz, qtN, qup, simprocAttr, CO.tmps, Opd.tmps, optT, Nat.reducePow, Nat.reduceDiv, Nat.reduceMod, f1, gk']
    exact Bt.drop _ hh rfl rfl
  ·cases e
 ·cases e
noncomputable def KOO : List AV → List AB → Option (AV × List AB)
 | [a, .f (.func g) [] []], h => if g = 33 then (getS deR h a).bind fun l => some (.b (l.any (fun d => negD d.de)), h) else none
 | _, _ => none
theorem JTL : Spec Try.prog 32 KOO := by
 intro args h v h' e
 unfold KOO at e
 split at e
 ·rename_i a g
  split at e
  ·rename_i hg
   subst hg
   obtain ⟨l, hl, e1⟩ := Zly e
   clear e
   cases e1
   refine FnAt.c (FnAt.run (by kernel_rfl) (T := ⟨[⟨60, YGn, fun _ => []⟩], []⟩) ⟨⟨Qib, trivial⟩, trivial⟩ Try.func32 sw32 fun ho hh => ?_)
   simp only [JjW, Bool.and_eq_true] at ho
   have f1 := hl.fx ho.1 (sz := 35) rfl
   unfold w32
   simp only [JaF, Qv5, Zsz, qtN, qup, simprocAttr, CO.tmps, Opd.tmps, optT, Nat.reducePow, Nat.reduceDiv, Nat.reduceMod, f1, X8i, YGn]
   refine Bt.drop _ hh ?_ rfl
   rw [AV.b.injEq, Bool.eq_iff_iff, decide_eq_true_eq]
   exact Qkr l 0
  ·cases e
 ·cases e
end Go.Proofs.Ytpoojfnmhnedpaa
end
section
namespace Go.Proofs.Ytpoojfnmhnedpaa
set_option maxRecDepth 100000
set_option maxHeartbeats 4000000
theorem qxu {h : List AB} (L : List AB) (k n m : Nat) (xs ys : List AV) (hb : L[k]? = some (.blk true true xs)) (hx : xs.length = n * 35) (hm : m ≠ 0) (hn : n + m ≤ 1000000) : appW (h ++ L) true 35 64 (.sl (h.length + k) 0 n n (some 35)) m ys = some (.sl (h.length + L.length) 0 (n + m) (n + m) (some 35), h ++ (L.set k .dead ++ [.blk true true (xs ++ ys)])) := by
 have hk := (List.getElem?_eq_some_iff.1 hb).1
 have hg : (h ++ L)[h.length + k]? = some (.blk true true xs) := by rw [YOx]; exact hb
 simp only [appW, hg]
 rw [if_neg hm, if_neg (by omega), if_pos ⟨trivial, by omega, by omega, by unfold maxLen; omega⟩, if_neg (by simp), if_pos ⟨trivial, by decide, trivial, by omega⟩, List.drop_zero, List.length_append, List.set_append_right _ _ (by omega), Nat.add_sub_cancel_left, List.append_assoc]
theorem JnL {h : List AB} (L : List AB) (id n m : Nat) (k : Option Nat) (ys : List AV) (hm : m = 0) : appW (h ++ L) true 35 64 (.sl id 0 n n k) m ys = some (.sl id 0 n n k, h ++ L) := by subst hm; rfl
def desL (k : Int) (c : Dsc) (ls ss : List Dsc) : List Dsc := (if k = 3 then [c] else []) ++ ls ++ ss
theorem Krd (k : Int) (t : List UInt8) (c : Dsc) (ls ss : List Dsc) : (desL k c ls ss).map Dsc.de = allD (JcG k t c ls ss) := by
 unfold desL allD JcG
 dsimp only
 rw [List.map_append, List.map_append]
 split <;> rfl
noncomputable def ZtD : List AV → List AB → Option (AV × List AB)
 | [a], h => (inM h a).bind fun y => if y.2.2.2.2.2.1.length + y.2.2.2.2.2.2.length ≤ 100000 then some (apS deR h.length (desL y.1 y.2.2.1 y.2.2.2.2.2.1 y.2.2.2.2.2.2), h ++ [resB deR true (desL y.1 y.2.2.1 y.2.2.2.2.2.1 y.2.2.2.2.2.2)]) else none
 | _, _ => none
theorem Kzg {P : Program} {h : List AB} (hh : HOk h) {L : List AB} (k : Nat) (hk : k < L.length) (l : List Dsc) {v : AV} (hv : v = apS deR (h.length + k) l) (hb : l.length = 0 ∨ L[k]? = some (resB deR true l)) : Bt P h.length [v] (h ++ L) [apS deR h.length l] (h ++ [resB deR true l]) := by
 subst hv
 refine Bt.sel [k] hh (by simp) ⟨?_, trivial⟩ ⟨.inr ⟨?_, ?_⟩, trivial⟩
 ·rcases hb with h0 | hb
  ·exact ⟨L[k], List.getElem?_eq_getElem hk, by rw [ZQ8 true h0]; trivial⟩
  ·exact ⟨_, hb, of_eq_true (Q12 _ _ _ _)⟩
 ·exact qQc _ _ _ (decide_eq_true (by simp))
 ·rw [JF2, show selN h.length [k] h.length = h.length + k from YiE 0]
  exact Wk.refl _
theorem ZO2 (id : Nat) {l : List Dsc} (h0 : l.length ≠ 0) : apS deR id l = .sl id 0 l.length l.length (some 35) := by unfold apS; rw [if_neg h0]; rfl
theorem ZPd {l : List Dsc} (h0 : l.length ≠ 0) : resB deR true l = .blk true true (deR.cells l) := by unfold resB; rw [if_neg h0]
theorem K5S (a b : List Dsc) : deR.cells (a ++ b) = deR.cells a ++ deR.cells b := by simp only [Row.cells, List.flatMap_append]
theorem X3m (c : Dsc) : deR.cells [c] = deR.f c := by simp [Row.cells]
theorem Yco : Spec Try.prog 13 ZtD := by
 intro args h v h' e
 unfold ZtD at e
 split at e
 ·rename_i a
  obtain ⟨k, t, c, l, s, ls, ss, rfl, hl, hs, e1⟩ := q2E e
  clear e
  dsimp only at e1
  split at e1
  ·rename_i hlen
   cases e1
   refine FnAt.c (FnAt.frz fun hz => ?_)
   rw [show h.length = (h.map AB.freeze).length from (List.length_map _).symm]
   replace hl := hl.frz
   replace hs := hs.frz
   generalize h.map AB.freeze = h at *
   refine FnAt.run (by kernel_rfl) (T := ⟨[], []⟩) ⟨trivial, trivial⟩ Try.func13 sw13 fun ho hh => ?_
   obtain ⟨c1, c2, c3, c4⟩ := KMZ c l s
   have ca := YNd c hl.isSl hs.isSl
   simp only [JjW, ZWl, QxH, Xx3, Bool.and_eq_true, Bool.and_true] at ho
   obtain ⟨-, -, -, ol, os⟩ := ho
   have fl := hl.fx ol (sz := 35) rfl
   have fs := hs.fx os (sz := 35) rfl
   have sl := hl.src (sz := 35) rfl
   have sl2 := hs.src (sz := 35) rfl
   obtain ⟨b1, b2, b3, b4, b5⟩ := Yet c
   have hcl : (deR.cells ls).length = ls.length * 35 := deR.cells_len ls
   have hcs : (deR.cells ss).length = ss.length * 35 := deR.cells_len ss
   have z1 : (1 * 64 ≤ 140737488355328 ∧ 1 ≤ maxLen) = True := eq_true ⟨by decide, by unfold maxLen; omega⟩
   have z2 : (ls.length * 64 ≤ 140737488355328 ∧ ls.length ≤ maxLen) = True := eq_true ⟨by omega, by unfold maxLen; omega⟩
   have z3 : (ss.length * 64 ≤ 140737488355328 ∧ ss.length ≤ maxLen) = True := eq_true ⟨by omega, by unfold maxLen; omega⟩
   unfold w13
   by_cases g3 : k = 3
   ·have g3' := eq_true g3
    by_cases gl : ls.length = 0
    ·have gl' := eq_true gl
     by_cases gs : ss.length = 0
     ·have gs' := eq_true gs
      have hd : desL k c ls ss = [c] := by unfold desL; rw [if_pos g3]; rw [List.eq_nil_of_length_eq_zero gl]; rw [List.eq_nil_of_length_eq_zero gs]; try simp
      rw [hd]
      simp only [JaF, Qv5, Zsz, qtN, qup, simprocAttr, CO.tmps, Opd.tmps, optT, Nat.reducePow, Nat.reduceDiv, Nat.reduceMod, c1, c2, c3, c4, ca, b1, b2, b3, b4, b5, Xx3, fl, fs, sl, sl2, z1, z2, z3, zZK, JnL, List.getElem?_cons_zero, List.getElem?_cons_succ, qtp hh, Kxe hz, Xey hz, XWU hz, g3', gl', gs']
      exact Kzg hh 2 (by simp) ([c]) (by rw [ZO2 _ (by first | omega | (simp only [List.length_append, List.length_cons, List.length_nil]; omega))]; try simp only [List.length_append, List.length_cons, List.length_nil, Nat.zero_add, Nat.add_assoc]) (.inr (by rw [ZPd (by first | omega | (simp only [List.length_append, List.length_cons, List.length_nil]; omega))]; try simp only [K5S, X3m, List.getElem?_cons_zero, List.getElem?_cons_succ, List.append_assoc]))
     ·have gs' := eq_false gs
      have hd : desL k c ls ss = [c]++ss := by unfold desL; rw [if_pos g3]; rw [List.eq_nil_of_length_eq_zero gl]; try simp
      rw [hd]
      have fa1 := fun L k hb => qxu (h := h) L k (1) ss.length (deR.f c) (deR.cells ss) hb (by omega) gs (by omega)
      simp only [JaF, Qv5, Zsz, qtN, qup, simprocAttr, CO.tmps, Opd.tmps, optT, Nat.reducePow, Nat.reduceDiv, Nat.reduceMod, c1, c2, c3, c4, ca, b1, b2, b3, b4, b5, Xx3, fl, fs, sl, sl2, z1, z2, z3, zZK, JnL, List.getElem?_cons_zero, List.getElem?_cons_succ, qtp hh, Kxe hz, Xey hz, XWU hz, g3', gl', gs', fa1]
      exact Kzg hh 3 (by simp) ([c]++ss) (by rw [ZO2 _ (by first | omega | (simp only [List.length_append, List.length_cons, List.length_nil]; omega))]; try simp only [List.length_append, List.length_cons, List.length_nil, Nat.zero_add, Nat.add_assoc]) (.inr (by rw [ZPd (by first | omega | (simp only [List.length_append, List.length_cons, List.length_nil]; omega))]; try simp only [K5S, X3m, List.getElem?_cons_zero, List.getElem?_cons_succ, List.append_assoc]))
    ·have gl' := eq_false gl
     by_cases gs : ss.length = 0
     ·have gs' := eq_true gs
      have hd : desL k c ls ss = [c]++ls := by unfold desL; rw [if_pos g3]; rw [List.eq_nil_of_length_eq_zero gs]; try simp
      rw [hd]
      have fa1 := fun L k hb => qxu (h := h) L k (1) ls.length (deR.f c) (deR.cells ls) hb (by omega) gl (by omega)
      simp only [JaF, Qv5, Zsz, qtN, qup, simprocAttr, CO.tmps, Opd.tmps, optT, Nat.reducePow, Nat.reduceDiv, Nat.reduceMod, c1, c2, c3, c4, ca, b1, b2, b3, b4, b5, Xx3, fl, fs, sl, sl2, z1, z2, z3, zZK, JnL, List.getElem?_cons_zero, List.getElem?_cons_succ, qtp hh, Kxe hz, Xey hz, XWU hz, g3', gl', gs', fa1]
      exact Kzg hh 3 (by simp) ([c]++ls) (by rw [ZO2 _ (by first | omega | (simp only [List.length_append, List.length_cons, List.length_nil]; omega))]; try simp only [List.length_append, List.length_cons, List.length_nil, Nat.zero_add, Nat.add_assoc]) (.inr (by rw [ZPd (by first | omega | (simp only [List.length_append, List.length_cons, List.length_nil]; omega))]; try simp only [K5S, X3m, List.getElem?_cons_zero, List.getElem?_cons_succ, List.append_assoc]))
     ·have gs' := eq_false gs
      have hd : desL k c ls ss = [c]++ls++ss := by unfold desL; rw [if_pos g3]; try simp
      rw [hd]
      have fa1 := fun L k hb => qxu (h := h) L k (1) ls.length (deR.f c) (deR.cells ls) hb (by omega) gl (by omega)
      have fa2 := fun L k hb => qxu (h := h) L k (1 + ls.length) ss.length (deR.f c ++ deR.cells ls) (deR.cells ss) hb (by simp only [List.length_append, b1, hcl, hcs]; omega) gs (by omega)
      simp only [JaF, Qv5, Zsz, qtN, qup, simprocAttr, CO.tmps, Opd.tmps, optT, Nat.reducePow, Nat.reduceDiv, Nat.reduceMod, c1, c2, c3, c4, ca, b1, b2, b3, b4, b5, Xx3, fl, fs, sl, sl2, z1, z2, z3, zZK, JnL, List.getElem?_cons_zero, List.getElem?_cons_succ, qtp hh, Kxe hz, Xey hz, XWU hz, g3', gl', gs', fa1, fa2]
      exact Kzg hh 4 (by simp) ([c]++ls++ss) (by rw [ZO2 _ (by first | omega | (simp only [List.length_append, List.length_cons, List.length_nil]; omega))]; try simp only [List.length_append, List.length_cons, List.length_nil, Nat.zero_add, Nat.add_assoc]) (.inr (by rw [ZPd (by first | omega | (simp only [List.length_append, List.length_cons, List.length_nil]; omega))]; try simp only [K5S, X3m, List.getElem?_cons_zero, List.getElem?_cons_succ, List.append_assoc]))
   ·have g3' := eq_false g3
    by_cases gl : ls.length = 0
    ·have gl' := eq_true gl
     by_cases gs : ss.length = 0
     ·have gs' := eq_true gs
      have hd : desL k c ls ss = [] := by unfold desL; rw [if_neg g3]; rw [List.eq_nil_of_length_eq_zero gl]; rw [List.eq_nil_of_length_eq_zero gs]; try simp
      rw [hd]
      simp only [JaF, Qv5, Zsz, qtN, qup, simprocAttr, CO.tmps, Opd.tmps, optT, Nat.reducePow, Nat.reduceDiv, Nat.reduceMod, c1, c2, c3, c4, ca, b1, b2, b3, b4, b5, Xx3, fl, fs, sl, sl2, z1, z2, z3, zZK, JnL, List.getElem?_cons_zero, List.getElem?_cons_succ, qtp hh, Kxe hz, Xey hz, XWU hz, g3', gl', gs']
      exact Kzg hh 0 (by simp) [] rfl (.inl rfl)
     ·have gs' := eq_false gs
      have hd : desL k c ls ss = ss := by unfold desL; rw [if_neg g3]; rw [List.eq_nil_of_length_eq_zero gl]; try simp
      rw [hd]
      simp only [JaF, Qv5, Zsz, qtN, qup, simprocAttr, CO.tmps, Opd.tmps, optT, Nat.reducePow, Nat.reduceDiv, Nat.reduceMod, c1, c2, c3, c4, ca, b1, b2, b3, b4, b5, Xx3, fl, fs, sl, sl2, z1, z2, z3, zZK, JnL, List.getElem?_cons_zero, List.getElem?_cons_succ, qtp hh, Kxe hz, Xey hz, XWU hz, g3', gl', gs']
      exact Kzg hh 1 (by simp) (ss) (by rw [ZO2 _ (by first | omega | (simp only [List.length_append, List.length_cons, List.length_nil]; omega))]; try simp only [List.length_append, List.length_cons, List.length_nil, Nat.zero_add, Nat.add_assoc]) (.inr (by rw [ZPd (by first | omega | (simp only [List.length_append, List.length_cons, List.length_nil]; omega))]; try simp only [K5S, X3m, List.getElem?_cons_zero, List.getElem?_cons_succ, List.append_assoc]))
    ·have gl' := eq_false gl
     by_cases gs : ss.length = 0
     ·have gs' := eq_true gs
      have hd : desL k c ls ss = ls := by unfold desL; rw [if_neg g3]; rw [List.eq_nil_of_length_eq_zero gs]; try simp
      rw [hd]
      simp only [JaF, Qv5, Zsz, qtN, qup, simprocAttr, CO.tmps, Opd.tmps, optT, Nat.reducePow, Nat.reduceDiv, Nat.reduceMod, c1, c2, c3, c4, ca, b1, b2, b3, b4, b5, Xx3, fl, fs, sl, sl2, z1, z2, z3, zZK, JnL, List.getElem?_cons_zero, List.getElem?_cons_succ, qtp hh, Kxe hz, Xey hz, XWU hz, g3', gl', gs']
      exact Kzg hh 1 (by simp) (ls) (by rw [ZO2 _ (by first | omega | (simp only [List.length_append, List.length_cons, List.length_nil]; omega))]; try simp only [List.length_append, List.length_cons, List.length_nil, Nat.zero_add, Nat.add_assoc]) (.inr (by rw [ZPd (by first | omega | (simp only [List.length_append, List.length_cons, List.length_nil]; omega))]; try simp only [K5S, X3m, List.getElem?_cons_zero, List.getElem?_cons_succ, List.append_assoc]))
     ·have gs' := eq_false gs
      have hd : desL k c ls ss = ls++ss := by unfold desL; rw [if_neg g3]; try simp
      rw [hd]
      have fa1 := fun L k hb => qxu (h := h) L k (ls.length) ss.length (deR.cells ls) (deR.cells ss) hb (by omega) gs (by omega)
      simp only [JaF, Qv5, Zsz, qtN, qup, simprocAttr, CO.tmps, Opd.tmps, optT, Nat.reducePow, Nat.reduceDiv, Nat.reduceMod, c1, c2, c3, c4, ca, b1, b2, b3, b4, b5, Xx3, fl, fs, sl, sl2, z1, z2, z3, zZK, JnL, List.getElem?_cons_zero, List.getElem?_cons_succ, qtp hh, Kxe hz, Xey hz, XWU hz, g3', gl', gs', fa1]
      exact Kzg hh 2 (by simp) (ls++ss) (by rw [ZO2 _ (by first | omega | (simp only [List.length_append, List.length_cons, List.length_nil]; omega))]; try simp only [List.length_append, List.length_cons, List.length_nil, Nat.zero_add, Nat.add_assoc]) (.inr (by rw [ZPd (by first | omega | (simp only [List.length_append, List.length_cons, List.length_nil]; omega))]; try simp only [K5S, X3m, List.getElem?_cons_zero, List.getElem?_cons_succ, List.append_assoc]))
  ·cases e1
 ·cases e
end Go.Proofs.Ytpoojfnmhnedpaa
end
section
namespace Go.Proofs.Ytpoojfnmhnedpaa
set_option maxRecDepth 100000
set_option maxHeartbeats 4000000
structure EB (k : Int) (t : List UInt8) (c : Dsc) (ls ss : List Dsc) : Prop where
 k : In64 k
 t : t.length ≤ 1000000
 c : DB c
 n : ls.length + ss.length ≤ 1000
 d : ∀ d ∈ ls ++ ss, DB d
open Classical in
noncomputable def QYE : List AV → List AB → Option (AV × List AB)
 | [a], h => (inM h a).bind fun y => if EB y.1 y.2.1 y.2.2.1 y.2.2.2.2.2.1 y.2.2.2.2.2.2 then
   some (.tu [rsl Xdk h.length (menc (JcG y.1 y.2.1 y.2.2.1 y.2.2.2.2.2.1 y.2.2.2.2.2.2)).1, .i .i64 (menc (JcG y.1 y.2.1 y.2.2.1 y.2.2.2.2.2.1 y.2.2.2.2.2.2)).2], h ++ [resB Xdk true (menc (JcG y.1 y.2.1 y.2.2.1 y.2.2.2.2.2.1 y.2.2.2.2.2.2)).1]) else none
 | _, _ => none
theorem ZAd {P : Program} {h : List AB} (hh : HOk h) (L : List AB) (e : Int) : Bt P h.length [.tu [.ns, .i .i64 e]] (h ++ L) [.tu [rsl Xdk h.length [], .i .i64 e]] (h ++ [resB Xdk true []]) := by
 refine Bt.trans (Bt.wk1 (Wk.tu (l' := [rsl Xdk h.length [], .i .i64 e]) ⟨Wk.nil _ _, Wk.refl _, trivial⟩)) ?_
 exact Bt.trans (Bt.drop (P := P) (v := .tu [rsl Xdk h.length [], .i .i64 e]) (a := .tu [rsl Xdk h.length [], .i .i64 e]) L hh rfl rfl) (Bt.pad _ _ 1)
theorem JHI : Spec Try.prog 11 QYE := by
 intro args h v h' e
 unfold QYE at e
 split at e
 ·rename_i a
  obtain ⟨k, t, c, l, s, ls, ss, rfl, hl, hs, e1⟩ := q2E e
  clear e
  dsimp only at e1
  split at e1
  ·rename_i B
   cases e1
   obtain ⟨Bk, Bt0, Bc, Bn, Bd⟩ := B
   have T0 : ∀ x : MEnv, True := fun _ => trivial
   obtain ⟨p, hp⟩ : ∃ p, p = h.length := ⟨_, rfl⟩
   obtain ⟨x, hx⟩ : ∃ x : MEnv, x = ⟨p + 2, p + 6, p + 4, p + 0, p + 5, k, t, c, l, s, ls, ss⟩ := ⟨_, rfl⟩
   refine FnAt.c (FnAt.run (by kernel_rfl) (T := ⟨[⟨31, zyD, fun _ => []⟩, ⟨13, ZtD, fun _ => []⟩, ⟨32, KOO, fun _ => []⟩, ⟨27, YQo, fun _ => []⟩, ⟨39, XHx x, fun _ => []⟩], []⟩) ⟨⟨QH6, Yco, JTL, KRj, XTF x, trivial⟩, trivial⟩ Try.func11 sw11 fun ho hh => ?_)
   obtain ⟨c1, c2, c3, c4⟩ := KMZ c l s
   have ca := YNd c hl.isSl hs.isSl
   simp only [JjW, ZWl, QxH, Xx3, Bool.and_eq_true, Bool.and_true] at ho
   obtain ⟨-, -, -, ol, os⟩ := ho
   have fl := hl.fx ol (sz := 35) rfl
   have fs := hs.fx os (sz := 35) rfl
   have im : ∀ L, inM (h ++ L) (.ag (.i .i64 k :: .s t :: (deR.f c ++ [l, s]))) = some (k, t, c, l, s, ls, ss) := fun L => Kkg (hl.app L).get (hs.app L).get
   have tm : ((deR.f c ++ [l, s]).take 37) = deR.f c ++ [l, s] := List.take_of_length_le (by omega)
   have n1 : (ls.length + ss.length ≤ 100000) = True := eq_true (by omega)
   have hany : (desL k c ls ss).any (fun d => negD d.de) = (allD (JcG k t c ls ss)).any negD := by
    rw [← Krd k t c ls ss, List.any_map]
    rfl
   have hdl : (desL k c ls ss).length ≤ maxLen := by
    unfold desL maxLen
    rw [List.length_append, List.length_append]
    split <;> simp <;> omega
   have gd : ∀ (B0 : AB) (R : List AB), getS deR (h ++ (B0 :: resB deR true (desL k c ls ss) :: R)) (apS deR (h.length + 1) (desL k c ls ss)) = some (desL k c ls ss) := fun B0 R => by
    by_cases h0 : (desL k c ls ss).length = 0
    ·rw [List.eq_nil_of_length_eq_zero h0, qnO, JSB]
    ·rw [ZLk _ h0]
     exact KY5 (r := deR) (B0 :: resB deR true (desL k c ls ss) :: R) 1 _ ⟨true, rfl⟩ hdl
   unfold w11
   by_cases g1 : Q54 (JcG k t c ls ss) = true
   case neg =>
    have g1' : Q54 (JcG k t c ls ss) = false := by simpa using g1
    have hr : menc (JcG k t c ls ss) = ([], 20) := by unfold menc; rw [if_neg g1]
    rw [hr]
    simp only [JaF, Qv5, Zsz, qtN, qup, simprocAttr, CO.tmps, Opd.tmps, optT, Nat.reducePow, Nat.reduceDiv, Nat.reduceMod, c1, ca, tm, im, g1', zyD]
    exact ZAd hh _ 20
   by_cases g2 : (allD (JcG k t c ls ss)).any negD = true
   ·have hr : menc (JcG k t c ls ss) = ([], 3) := by unfold menc; rw [if_pos g1, if_pos g2]
    rw [hr]
    simp only [JaF, Qv5, Zsz, qtN, qup, simprocAttr, CO.tmps, Opd.tmps, optT, Nat.reducePow, Nat.reduceDiv, Nat.reduceMod, c1, ca, tm, im, g1, n1, gd, hany, g2, zyD, ZtD, KOO]
    exact ZAd hh _ 3
   have g2' : (allD (JcG k t c ls ss)).any negD = false := by simpa using g2
   by_cases g3 : 16 < ls.length
   ·have g3' : ((16 : Int) < (ls.length : Int)) = True := eq_true (by omega)
    have hr : menc (JcG k t c ls ss) = ([], 4) := by
     unfold menc
     rw [if_pos g1, if_neg g2, if_pos]
     exact .inl (by unfold JcG; simpa using g3)
    rw [hr]
    simp only [JaF, Qv5, Zsz, qtN, qup, simprocAttr, CO.tmps, Opd.tmps, optT, Nat.reducePow, Nat.reduceDiv, Nat.reduceMod, c1, c2, c3, ca, tm, im, fl, fs, g1, n1, gd, hany, g2', g3', zyD, ZtD, KOO]
    exact ZAd hh _ 4
   have g3' : ((16 : Int) < (ls.length : Int)) = False := eq_false (by omega)
   by_cases g4 : 8 < ss.length
   ·have g4' : ((8 : Int) < (ss.length : Int)) = True := eq_true (by omega)
    have hr : menc (JcG k t c ls ss) = ([], 4) := by
     unfold menc
     rw [if_pos g1, if_neg g2, if_pos]
     exact .inr (by unfold JcG; simpa using g4)
    rw [hr]
    simp only [JaF, Qv5, Zsz, qtN, qup, simprocAttr, CO.tmps, Opd.tmps, optT, Nat.reducePow, Nat.reduceDiv, Nat.reduceMod, c1, c2, c3, ca, tm, im, fl, fs, g1, n1, gd, hany, g2', g3', g4', zyD, ZtD, KOO]
    exact ZAd hh _ 4
   have g4' : ((8 : Int) < (ss.length : Int)) = False := eq_false (by omega)
   have hr : menc (JcG k t c ls ss) = (XJP (seqR 4096 ([], 0) (JcG k t c ls ss) 5).2 (seqR 4096 ([], 0) (JcG k t c ls ss) 5).1, (seqR 4096 ([], 0) (JcG k t c ls ss) 5).2) := by
    unfold menc
    rw [if_pos g1, if_neg g2, if_neg]
    unfold JcG
    simp only [List.length_map]
    omega
   rw [hr]
   obtain ⟨st, hst⟩ : ∃ st, st = seqR 4096 ([], 0) (JcG k t c ls ss) 5 := ⟨_, rfl⟩
   rw [← hst]
   subst hp
   have ta : ∀ B1 : AB, XHx x [.p (h.length + 2) 0, .sl (h.length + 6) 0 5 5 none] (h ++ [.blk false true (.i .i64 k :: .s t :: (deR.f c ++ [l, s])), B1, .blk false true [.p (h.length + 3) 0, .i .i64 4096, .ns], .blk true true [.i .i64 0, .i .i64 0], .blk false true [.p (h.length + 2) 0], .blk false true [.f (.func 34) [] [.p (h.length + 4) 0]], .blk false true [.f (.func 40) [] [.p (h.length + 4) 0], .f (.func 41) [] [.p (h.length + 4) 0, .p (h.length + 0) 0], .f (.func 42) [] [.p (h.length + 4) 0, .p (h.length + 0) 0], .f (.func 36) [] [.p (h.length + 0) 0, .p (h.length + 5) 0], .f (.func 37) [] [.p (h.length + 0) 0, .p (h.length + 4) 0, .p (h.length + 5) 0]]]) = some (.tu [rsl Xdk (h.length + 7) (XJP st.2 st.1), .i .i64 st.2], h ++ [.blk false true (.i .i64 k :: .s t :: (deR.f c ++ [l, s])), B1, .dead, .dead, .blk false true [.p (h.length + 2) 0], .blk false true [.f (.func 34) [] [.p (h.length + 4) 0]], .blk false true [.f (.func 40) [] [.p (h.length + 4) 0], .f (.func 41) [] [.p (h.length + 4) 0, .p (h.length + 0) 0], .f (.func 42) [] [.p (h.length + 4) 0, .p (h.length + 0) 0], .f (.func 36) [] [.p (h.length + 0) 0, .p (h.length + 5) 0], .f (.func 37) [] [.p (h.length + 0) 0, .p (h.length + 4) 0, .p (h.length + 5) 0]], resB Xdk true (XJP st.2 st.1)]) := fun B1 => by
    generalize hLL : [.blk false true (.i .i64 k :: .s t :: (deR.f c ++ [l, s])), B1, .blk false true [.p (h.length + 3) 0, .i .i64 4096, .ns], .blk true true [.i .i64 0, .i .i64 0], .blk false true [.p (h.length + 2) 0], .blk false true [.f (.func 34) [] [.p (h.length + 4) 0]], .blk false true [.f (.func 40) [] [.p (h.length + 4) 0], .f (.func 41) [] [.p (h.length + 4) 0, .p (h.length + 0) 0], .f (.func 42) [] [.p (h.length + 4) 0, .p (h.length + 0) 0], .f (.func 36) [] [.p (h.length + 0) 0, .p (h.length + 5) 0], .f (.func 37) [] [.p (h.length + 0) 0, .p (h.length + 4) 0, .p (h.length + 5) 0]]] = LL
    have W : WrH (h ++ LL) (h.length + 2) (h.length + 3) 4096 .ns [] 0 := ⟨by rw [YOx, ← hLL]; rfl, by rw [YOx, ← hLL]; rfl, by decide, by decide, .inl ⟨rfl, rfl⟩⟩
    have E : EnvH (h ++ LL) x := by
     rw [hx]
     exact ⟨by rw [YHG, ← hLL]; simp only [J5e, Q9x], by rw [YHG, ← hLL]; simp only [J5e, Q9x], by rw [YHG, ← hLL]; simp only [J5e, Q9x], by rw [YHG, ← hLL]; simp only [J5e, Q9x], hl.app LL, hs.app LL⟩
    have EBx : EnvB x := by
     rw [hx]
     exact ⟨Bk, Bt0, Bc, Bn, Bd⟩
    have hi : x.i = h.length + 2 := by rw [hx]
    have hf : x.fid = h.length + 6 := by rw [hx]
    have hm : x.man = JcG k t c ls ss := by rw [hx]; rfl
    unfold XHx
    rw [if_pos ⟨by rw [hi, hf], E, EBx⟩, hi, W.get, Option.bind_some]
    dsimp only
    rw [if_pos ⟨rfl, by decide, rfl⟩, hm, ← hst, Y2J, Y2J, List.length_append, List.append_assoc, ← hLL]
    rfl
   have np1 : AV.np.one = true := rfl
   have nf1 : AV.nf.one = true := rfl
   simp only [JaF, Qv5, Zsz, qtN, qup, simprocAttr, CO.tmps, Opd.tmps, optT, Nat.reducePow, Nat.reduceDiv, Nat.reduceMod, c1, c2, c3, ca, tm, im, fl, fs, g1, n1, gd, hany, g2', g3', g4', np1, nf1, ta, zyD, ZtD, KOO, YQo]
   exact Bt.sel [7] hh (by simp) ⟨⟨_, rfl, of_eq_true (Q12 _ _ _ _)⟩, trivial⟩ ⟨.inr ⟨by rw [Jiu, JjW, YAj _ _ _ (decide_eq_true (by simp))]; rfl, by simp only [AV.ren, renL, qSt]; rw [show selN h.length [7] h.length = h.length + 7 from YiE 0]; exact Wk.refl _⟩, trivial⟩
  ·cases e1
 ·cases e
end Go.Proofs.Ytpoojfnmhnedpaa
end
section
namespace Go.Proofs.Ytpoojfnmhnedpaa
set_option maxRecDepth 100000
set_option maxHeartbeats 4000000
theorem Qqf (x y : List UInt8) : binV .eql (.s x) (.s y) = some (.b (decide (x = y))) := by
 rw [K8k]
 congr 2
 exact Bool.eq_iff_iff.2 (by simp)
abbrev MT := Int × List UInt8 × Dsc × AV × AV × List Dsc × List Dsc
def MT.key (x : MT) : Int × List UInt8 × Dsc × List Dsc × List Dsc := (x.1, x.2.1, x.2.2.1, x.2.2.2.2.2.1, x.2.2.2.2.2.2)
noncomputable def Kho : List AV → List AB → Option (AV × List AB)
 | [a, b], h => (inM h a).bind fun x => (inM h b).bind fun y => some (.b (decide (MT.key x = MT.key y)), h)
 | _, _ => none
theorem KXS : Spec Try.prog 18 Kho := by
 intro args h v h' e
 unfold Kho at e
 split at e
 ·rename_i a b
  obtain ⟨k, t, c, l, s, ls, ss, rfl, hl, hs, e1⟩ := q2E e
  clear e
  obtain ⟨k', t', c', l', s', ls', ss', rfl, hl', hs', e2⟩ := q2E e1
  clear e1
  cases e2
  refine FnAt.c (FnAt.run (by kernel_rfl) (T := ⟨[⟨15, YEG, fun _ => []⟩], []⟩) ⟨⟨Kln, trivial⟩, trivial⟩ Try.func18 sw18 fun ho hh => ?_)
  obtain ⟨c1, c2, c3, c4⟩ := KMZ c l s
  obtain ⟨d1, d2, d3, d4⟩ := KMZ c' l' s'
  have ca := YNd c hl.isSl hs.isSl
  have da := YNd c' hl'.isSl hs'.isSl
  have z1 := qAc c c'
  have g1 : ∀ L, getS deR (h ++ L) l = some ls := fun L => (hl.app L).get
  have g2 : ∀ L, getS deR (h ++ L) s = some ss := fun L => (hs.app L).get
  have g3 : ∀ L, getS deR (h ++ L) l' = some ls' := fun L => (hl'.app L).get
  have g4 : ∀ L, getS deR (h ++ L) s' = some ss' := fun L => (hs'.app L).get
  have r1 : (2 + 35 ≤ 37 + 1 + 1) = True := eq_true (by omega)
  have key : decide (MT.key (k, t, c, l, s, ls, ss) = MT.key (k', t', c', l', s', ls', ss')) = decide (k = k' ∧ t = t' ∧ c = c' ∧ ls = ls' ∧ ss = ss') := by
   unfold MT.key
   exact decide_eq_decide.2 (by simp only [Prod.mk.injEq])
  rw [key]
  unfold w18
  by_cases q1 : k = k'
  case neg =>
   have q1' := eq_false q1
   rw [decide_eq_false fun q => q1 q.1]
   simp only [JaF, Qv5, Zsz, qtN, qup, simprocAttr, CO.tmps, Opd.tmps, optT, Nat.reducePow, Nat.reduceDiv, Nat.reduceMod, c1, c2, c3, c4, d1, d2, d3, d4, ca, da, q1']
   exact Bt.drop _ hh rfl rfl
  have q1' := eq_true q1
  by_cases q2 : t = t'
  case neg =>
   have q2' := eq_false q2
   rw [decide_eq_false fun q => q2 q.2.1]
   simp only [JaF, Qv5, Zsz, qtN, qup, simprocAttr, CO.tmps, Opd.tmps, optT, Nat.reducePow, Nat.reduceDiv, Nat.reduceMod, Qqf, c1, c2, c3, c4, d1, d2, d3, d4, ca, da, q1', q2']
   exact Bt.drop _ hh rfl rfl
  have q2' := eq_true q2
  by_cases q3 : c = c'
  case neg =>
   have q3' := eq_false q3
   rw [decide_eq_false fun q => q3 q.2.2.1]
   simp only [JaF, Qv5, Zsz, qtN, qup, simprocAttr, CO.tmps, Opd.tmps, optT, Nat.reducePow, Nat.reduceDiv, Nat.reduceMod, Qqf, c1, c2, c3, c4, d1, d2, d3, d4, ca, da, z1, q1', q2', q3']
   exact Bt.drop _ hh rfl rfl
  have q3' := eq_true q3
  by_cases q4 : ls = ls'
  case neg =>
   have q4' := eq_false q4
   rw [decide_eq_false fun q => q4 q.2.2.2.1]
   simp only [JaF, Qv5, Zsz, qtN, qup, simprocAttr, CO.tmps, Opd.tmps, optT, Nat.reducePow, Nat.reduceDiv, Nat.reduceMod, Qqf, c1, c2, c3, c4, d1, d2, d3, d4, ca, da, z1, g1, g3, q1', q2', q3', q4', YEG]
   exact Bt.drop _ hh rfl rfl
  have q4' := eq_true q4
  have kk : decide (k = k' ∧ t = t' ∧ c = c' ∧ ls = ls' ∧ ss = ss') = decide (ss = ss') := decide_eq_decide.2 ⟨fun q => q.2.2.2.2, fun q => ⟨q1, q2, q3, q4, q⟩⟩
  rw [kk]
  simp only [JaF, Qv5, Zsz, qtN, qup, simprocAttr, CO.tmps, Opd.tmps, optT, Nat.reducePow, Nat.reduceDiv, Nat.reduceMod, Qqf, c1, c2, c3, c4, d1, d2, d3, d4, ca, da, z1, g1, g2, g3, g4, q1', q2', q3', q4', YEG]
  exact Bt.drop _ hh rfl rfl
 ·cases e
open Classical in
noncomputable def Ybd : List AV → List AB → Option (AV × List AB)
 | [a, .i .i64 e], h => (inM h a).bind fun y => if EB y.1 y.2.1 y.2.2.1 y.2.2.2.2.2.1 y.2.2.2.2.2.2 then
   some (.b (decide ((menc (JcG y.1 y.2.1 y.2.2.1 y.2.2.2.2.2.1 y.2.2.2.2.2.2)).1.length = 0 ∧ (menc (JcG y.1 y.2.1 y.2.2.1 y.2.2.2.2.2.1 y.2.2.2.2.2.2)).2 = e)), h) else none
 | _, _ => none
theorem KvB : Spec Try.prog 24 Ybd := by
 intro args h v h' e
 unfold Ybd at e
 split at e
 ·rename_i a er
  obtain ⟨k, t, c, l, s, ls, ss, rfl, hl, hs, e1⟩ := q2E e
  clear e
  dsimp only at e1
  split at e1
  ·rename_i B
   cases e1
   refine FnAt.c (FnAt.run (by kernel_rfl) (T := ⟨[⟨11, QYE, fun _ => []⟩], []⟩) ⟨⟨JHI, trivial⟩, trivial⟩ Try.func24 sw24 fun ho hh => ?_)
   obtain ⟨c1, c2, c3, c4⟩ := KMZ c l s
   have ca := YNd c hl.isSl hs.isSl
   have tm : ((deR.f c ++ [l, s]).take 37) = deR.f c ++ [l, s] := List.take_of_length_le (by omega)
   have im : ∀ L, inM (h ++ L) (.ag (.i .i64 k :: .s t :: (deR.f c ++ [l, s]))) = some (k, t, c, l, s, ls, ss) := fun L => Kkg (hl.app L).get (hs.app L).get
   have B' := eq_true B
   obtain ⟨E, hE⟩ : ∃ E, E = menc (JcG k t c ls ss) := ⟨_, rfl⟩
   rw [← hE]
   unfold w24
   by_cases g : E.1.length = 0
   ·have g' : ((E.1.length : Int) = 0) = True := eq_true (by omega)
    have hr : decide (E.1.length = 0 ∧ E.2 = er) = decide (E.2 = er) := decide_eq_decide.2 ⟨fun q => q.2, fun q => ⟨g, q⟩⟩
    rw [hr]
    simp only [JaF, Qv5, Zsz, qtN, qup, simprocAttr, CO.tmps, Opd.tmps, optT, Nat.reducePow, Nat.reduceDiv, Nat.reduceMod, c1, ca, tm, im, B', ← hE, g', QYE]
    exact Bt.drop _ hh rfl rfl
   ·have g' : ((E.1.length : Int) = 0) = False := eq_false (by omega)
    rw [decide_eq_false fun q => g q.1]
    simp only [JaF, Qv5, Zsz, qtN, qup, simprocAttr, CO.tmps, Opd.tmps, optT, Nat.reducePow, Nat.reduceDiv, Nat.reduceMod, c1, ca, tm, im, B', ← hE, g', QYE]
    exact Bt.drop _ hh rfl rfl
  ·cases e1
 ·cases e
end Go.Proofs.Ytpoojfnmhnedpaa
end
section
namespace Go.Proofs.Ytpoojfnmhnedpaa
set_option maxRecDepth 100000
set_option maxHeartbeats 4000000
theorem JMO {α : Type} (r : Row α) (H : List AB) (id : Nat) : getS r H (rsl r id []) = some [] := by
 have : Rd r H (rsl r id []) [] := ⟨by unfold rsl; simp [rdS]; rfl, Nat.zero_le _⟩
 exact this.get
def YUt : List AV → List AB → Option (AV × List AB)
 | [], h => some (.b true, h)
 | _, _ => none
theorem EB_z (k : Int) (hk : In64 k) : EB k [] (dsc deZ) [] [] := ⟨hk, Nat.zero_le _, ⟨by decide, by decide, Nat.zero_le _⟩, Nat.zero_le _, fun d hd => by simp at hd⟩
theorem YM6 : menc (JcG 4 [] (dsc deZ) [] []) = ([77, 4, 0, 0], 0) := by kernel_rfl
theorem ziI : menc (JcG 5 [] (dsc deZ) [] []) = ([], 20) := by kernel_rfl
theorem Jwv : mdec [77, 4, 0, 0] = (⟨4, [], deZ, [], []⟩, 0, 0) := by kernel_rfl
theorem Qjb : wput 100 [] 0 (JDk 77) true = ([77], 0) := by kernel_rfl
theorem K9x : wput 100 [77] 0 (JDk 4) true = ([77, 4], 0) := by kernel_rfl
theorem Z5m : wput 100 [77, 4] 0 (JDk ([] : List UInt8).length ++ []) true = ([77, 4, 0], 0) := by kernel_rfl
theorem Q0h : wput 100 [77, 4, 0] 0 (JDk 0) true = ([77, 4, 0, 0], 0) := by kernel_rfl
theorem QrU : Spec Try.prog 9 YUt := by
 intro args h v h' e
 unfold YUt at e
 split at e
 ·cases e
  refine FnAt.c (FnAt.run (by kernel_rfl) (T := ⟨[⟨27, YQo, fun _ => []⟩, ⟨28, Xs9, fun _ => []⟩, ⟨29, ZZw, fun _ => []⟩, ⟨30, Yq0, fun _ => []⟩, ⟨11, QYE, fun _ => []⟩, ⟨20, Qil, fun _ => []⟩, ⟨14, Kf7, fun _ => []⟩, ⟨18, Kho, fun _ => []⟩, ⟨24, Ybd, fun _ => []⟩], []⟩) ⟨⟨KRj, Yzp, JE3, JsS, JHI, Xqp, Jkz, KXS, KvB, trivial⟩, trivial⟩ Try.func9 sw9 fun ho hh => ?_)
  obtain ⟨H0, hH0⟩ : ∃ H0, H0 = h ++ [.blk false true [.p (h.length + 1) 0, .i .i64 100, .ns], .blk true true [.i .i64 0, .i .i64 0]] := ⟨_, rfl⟩
  have W : WrH H0 (h.length + 0) (h.length + 1) 100 .ns [] 0 := ⟨by rw [hH0, YOx]; rfl, by rw [hH0, YOx]; rfl, by decide, by decide, .inl ⟨rfl, rfl⟩⟩
  have W' := W
  rw [hH0] at W'
  obtain ⟨k1, R1, q1, I1, n1⟩ := ZNh (D := []) (R := []) W (st := ([], 0)) (k := none) rfl W.hlen (JDk 77) true
  rw [wX_0 W, Qjb] at q1
  rw [Qjb] at I1 n1
  obtain ⟨k2, R2, q2, I2, n2⟩ := ZNh W I1 n1 (JDk 4) true
  rw [K9x] at q2 I2 n2
  obtain ⟨k3, R3, q3, I3, n3⟩ := ZNh W I2 n2 (JDk ([] : List UInt8).length ++ []) true
  rw [Z5m] at q3 I3 n3
  obtain ⟨k4, R4, q4, I4, n4⟩ := ZNh W I3 n3 (JDk 0) true
  rw [Q0h] at q4 I4 n4
  have X := qNj W I4 n4 (L := R4)
  have dn := zEq X (by decide)
  rw [if_pos rfl] at dn
  simp only [List.nil_append] at q1 q2 q3 q4 I4 dn
  rw [List.append_nil] at q1
  conv at q1 => lhs; rw [hH0]
  obtain ⟨bz, hbz⟩ : ∃ bz : List UInt8, bz = [77, 4, 0, 0] := ⟨_, rfl⟩
  have m4 := YM6
  have d4 := Jwv
  rw [← hbz] at m4 d4 q4 dn I4
  obtain ⟨Z, hZ⟩ : ∃ Z, Z = wX H0 (h.length + 0) (h.length + 1) 100 .ns (bz, 0) k4 ++ R4 := ⟨_, rfl⟩
  rw [← hZ] at q4 dn
  obtain ⟨y1, y2, y3, y4⟩ := KMZ (dsc deZ) (rsl deR (Z.length + 2) []) (rsl deR (Z.length + 3) [])
  have y5 := YNd (dsc deZ) (X2a (r := deR) (Z.length + 2) []) (X2a (r := deR) (Z.length + 3) [])
  have y6 : ∀ zs : List AV, zs.length = 37 → over zs 0 (deR.f (dsc deZ) ++ [rsl deR (Z.length + 2) [], rsl deR (Z.length + 3) []]) = deR.f (dsc deZ) ++ [rsl deR (Z.length + 2) [], rsl deR (Z.length + 3) []] := fun zs hz => ZjI _ _ (by omega)
  have y7 : (deR.f (dsc deZ) ++ [rsl deR (Z.length + 2) [], rsl deR (Z.length + 3) []]).take 37 = deR.f (dsc deZ) ++ [rsl deR (Z.length + 2) [], rsl deR (Z.length + 3) []] := List.take_of_length_le (by omega)
  have keyz : ∀ a b c d : AV, (MT.key (4, [], dsc deZ, a, b, [], []) = MT.key (4, [], dsc deZ, c, d, [], [])) = True := fun a b c d => eq_true rfl
  have hbl : (bz.length ≤ 1000000) = True := by rw [hbz]; exact eq_true (by decide)
  have hbm : bz.length ≤ maxLen := by rw [hbz]; decide
  have i64 : ∀ n : Int, n = 77 ∨ n = 4 ∨ n = 0 → (In64 n) = True := fun n hn => eq_true (by rcases hn with rfl | rfl | rfl <;> decide)
  have i1 := i64 77 (.inl rfl)
  have i2 := i64 4 (.inr (.inl rfl))
  have i3 := i64 0 (.inr (.inr rfl))
  have z3 : (([] : List UInt8).length ≤ 1000000) = True := eq_true (by decide)
  have e4 := eq_true (EB_z 4 (by decide))
  have e5 := eq_true (EB_z 5 (by decide))
  have lit : ∀ (k : Int) (H : List AB), inM H (.ag (.i .i64 k :: .s [] :: (deR.f (dsc deZ) ++ [.ns, .ns]))) = some (k, [], dsc deZ, .ns, .ns, [], []) := fun k H => Kkg (JSB _ _) (JSB _ _)
  simp only [KO6, List.cons_append, List.nil_append] at lit
  have liz : ∀ (k : Int) (H : List AB) (a b : Nat), inM H (.ag (.i .i64 k :: .s [] :: (deR.f (dsc deZ) ++ [rsl deR a [], rsl deR b []]))) = some (k, [], dsc deZ, rsl deR a [], rsl deR b [], [], []) := fun k H a b => Kkg (JMO _ _ _) (JMO _ _ _)
  have g0 : ∀ R, getS Xdk (Z ++ (resB Xdk true bz :: R)) (rsl Xdk Z.length bz) = some bz := fun R => KY5 (r := Xdk) (resB Xdk true bz :: R) 0 bz ⟨true, rfl⟩ hbm
  have wl := fun st k => Yf0 (h := H0) (i := h.length + 0) (j := h.length + 1) (lim := 100) (s := .ns) st k
  have m5 := ziI
  unfold w9
  simp only [JaF, Qv5, Zsz, qtN, qup, simprocAttr, CO.tmps, Opd.tmps, optT, Nat.reducePow, Nat.reduceDiv, Nat.reduceMod, QjO, Yzn, qA3, ZMj, zoX, YQo, Xs9, ZZw, i1, i2, i3, z3, q1, q2, q3, q4, dn, QYE, Qil, Kf7, Kho, Ybd, lit, liz, e4, e5, m4, m5, d4, hbl, hbm, y1, y5, y6, y7, eqcP, List.map_nil, keyz, g0]
  rw [hZ, List.append_assoc]
  refine Bt.trans (JYZ (h.length + 0)) (Bt.trans (JYZ (h.length + 1)) ?_)
  rw [List.set_append_left _ _ (by rw [Yf0]; exact W.il), List.set_append_left _ _ (by rw [List.length_set, Yf0]; exact W.jl), K3v, hH0, Y2J, Y2J, List.append_assoc]
  exact Bt.drop _ hh rfl rfl
 ·cases e
end Go.Proofs.Ytpoojfnmhnedpaa
end
section
namespace Go.Proofs.Ytpoojfnmhnedpaa
set_option maxRecDepth 100000
set_option maxHeartbeats 4000000
def dA : Dsc := ⟨2, KXK, 1, []⟩
def dB : Dsc := ⟨2, KXK, 2, []⟩
def dC : Dsc := ⟨1, KXK, 0, []⟩
def dO : Dsc := ⟨0, KXK, -1, []⟩
theorem qzm : menc (JcG 3 [] (dsc deZ) [] [dsc deZ]) = ([], 20) := by kernel_rfl
theorem Kjf : menc (JcG 4 [] (dsc deZ) [] (List.replicate 9 (dsc deZ))) = ([], 4) := by kernel_rfl
theorem JGT : menc (JcG 3 [] dO [] []) = ([], 3) := by kernel_rfl
theorem Yuz {d : Dsc} (h1 : decide (In64 d.media) = true) (h2 : decide (In64 d.size) = true) (h3 : d.plat = []) : DB d := ⟨of_decide_eq_true h1, of_decide_eq_true h2, by rw [h3]; exact Nat.zero_le _⟩
theorem XHa : Spec Try.prog 5 YUt := by
 intro args h v h' e
 unfold YUt at e
 split at e
 ·cases e
  refine FnAt.c (FnAt.frz0 fun hz => ?_)
  generalize h.map AB.freeze = h at *
  refine FnAt.run (by kernel_rfl) (T := ⟨[⟨9, YUt, fun _ => []⟩, ⟨24, Ybd, fun _ => []⟩, ⟨13, ZtD, fun _ => []⟩, ⟨15, YEG, fun _ => []⟩], []⟩) ⟨⟨QrU, KvB, Yco, Kln, trivial⟩, trivial⟩ Try.func5 sw5 fun ho hh => ?_
  have rd1 : ∀ (c : Option Nat) (n : Nat) (l : List Dsc) (L : List AB) (k : Nat), ownC L k = some (deR.cells l) → l.length = n → n ≤ 1000 → getS deR (h ++ L) (.sl (h.length + k) 0 n n c) = some l := fun c n l L k q hn h1 => by
   subst hn
   exact (KXN q (by unfold maxLen; omega)).get
  have im1 : ∀ L k, ownC L k = some [.i .i64 0, .i .u8 0, .i .u8 0, .i .u8 0, .i .u8 0, .i .u8 0, .i .u8 0, .i .u8 0, .i .u8 0, .i .u8 0, .i .u8 0, .i .u8 0, .i .u8 0, .i .u8 0, .i .u8 0, .i .u8 0, .i .u8 0, .i .u8 0, .i .u8 0, .i .u8 0, .i .u8 0, .i .u8 0, .i .u8 0, .i .u8 0, .i .u8 0, .i .u8 0, .i .u8 0, .i .u8 0, .i .u8 0, .i .u8 0, .i .u8 0, .i .u8 0, .i .u8 0, .i .i64 0, .s []] → inM (h ++ L) (.ag [.i .i64 3, .s [], .i .i64 0, .i .u8 0, .i .u8 0, .i .u8 0, .i .u8 0, .i .u8 0, .i .u8 0, .i .u8 0, .i .u8 0, .i .u8 0, .i .u8 0, .i .u8 0, .i .u8 0, .i .u8 0, .i .u8 0, .i .u8 0, .i .u8 0, .i .u8 0, .i .u8 0, .i .u8 0, .i .u8 0, .i .u8 0, .i .u8 0, .i .u8 0, .i .u8 0, .i .u8 0, .i .u8 0, .i .u8 0, .i .u8 0, .i .u8 0, .i .u8 0, .i .u8 0, .i .u8 0, .i .i64 0, .s [], .ns, .sl (h.length + k) 0 1 1 none]) = some (3, [], dsc deZ, .ns, .sl (h.length + k) 0 1 1 none, [], [dsc deZ]) := fun L k q => Kkg (c := dsc deZ) (JSB _ _) (rd1 none 1 [dsc deZ] L k q rfl (by decide))
  have im2 : ∀ L k, ownC L k = some (deR.cells (List.replicate 9 (dsc deZ))) → inM (h ++ L) (.ag [.i .i64 4, .s [], .i .i64 0, .i .u8 0, .i .u8 0, .i .u8 0, .i .u8 0, .i .u8 0, .i .u8 0, .i .u8 0, .i .u8 0, .i .u8 0, .i .u8 0, .i .u8 0, .i .u8 0, .i .u8 0, .i .u8 0, .i .u8 0, .i .u8 0, .i .u8 0, .i .u8 0, .i .u8 0, .i .u8 0, .i .u8 0, .i .u8 0, .i .u8 0, .i .u8 0, .i .u8 0, .i .u8 0, .i .u8 0, .i .u8 0, .i .u8 0, .i .u8 0, .i .u8 0, .i .u8 0, .i .i64 0, .s [], .ns, .sl (h.length + k) 0 9 9 none]) = some (4, [], dsc deZ, .ns, .sl (h.length + k) 0 9 9 none, [], List.replicate 9 (dsc deZ)) := fun L k q => Kkg (c := dsc deZ) (JSB _ _) (rd1 none 9 (List.replicate 9 (dsc deZ)) L k q rfl (by decide))
  have im3 : ∀ L, inM (h ++ L) (.ag [.i .i64 3, .s [], .i .i64 0, .i .u8 0, .i .u8 0, .i .u8 0, .i .u8 0, .i .u8 0, .i .u8 0, .i .u8 0, .i .u8 0, .i .u8 0, .i .u8 0, .i .u8 0, .i .u8 0, .i .u8 0, .i .u8 0, .i .u8 0, .i .u8 0, .i .u8 0, .i .u8 0, .i .u8 0, .i .u8 0, .i .u8 0, .i .u8 0, .i .u8 0, .i .u8 0, .i .u8 0, .i .u8 0, .i .u8 0, .i .u8 0, .i .u8 0, .i .u8 0, .i .u8 0, .i .u8 0, .i .i64 (-1), .s [], .ns, .ns]) = some (3, [], dO, .ns, .ns, [], []) := fun L => Kkg (c := dO) (JSB _ _) (JSB _ _)
  have im4 : ∀ L k, ownC L k = some [.i .i64 2, .i .u8 0, .i .u8 0, .i .u8 0, .i .u8 0, .i .u8 0, .i .u8 0, .i .u8 0, .i .u8 0, .i .u8 0, .i .u8 0, .i .u8 0, .i .u8 0, .i .u8 0, .i .u8 0, .i .u8 0, .i .u8 0, .i .u8 0, .i .u8 0, .i .u8 0, .i .u8 0, .i .u8 0, .i .u8 0, .i .u8 0, .i .u8 0, .i .u8 0, .i .u8 0, .i .u8 0, .i .u8 0, .i .u8 0, .i .u8 0, .i .u8 0, .i .u8 0, .i .i64 1, .s [], .i .i64 2, .i .u8 0, .i .u8 0, .i .u8 0, .i .u8 0, .i .u8 0, .i .u8 0, .i .u8 0, .i .u8 0, .i .u8 0, .i .u8 0, .i .u8 0, .i .u8 0, .i .u8 0, .i .u8 0, .i .u8 0, .i .u8 0, .i .u8 0, .i .u8 0, .i .u8 0, .i .u8 0, .i .u8 0, .i .u8 0, .i .u8 0, .i .u8 0, .i .u8 0, .i .u8 0, .i .u8 0, .i .u8 0, .i .u8 0, .i .u8 0, .i .u8 0, .i .u8 0, .i .i64 2, .s []] → inM (h ++ L) (.ag [.i .i64 3, .s [], .i .i64 1, .i .u8 0, .i .u8 0, .i .u8 0, .i .u8 0, .i .u8 0, .i .u8 0, .i .u8 0, .i .u8 0, .i .u8 0, .i .u8 0, .i .u8 0, .i .u8 0, .i .u8 0, .i .u8 0, .i .u8 0, .i .u8 0, .i .u8 0, .i .u8 0, .i .u8 0, .i .u8 0, .i .u8 0, .i .u8 0, .i .u8 0, .i .u8 0, .i .u8 0, .i .u8 0, .i .u8 0, .i .u8 0, .i .u8 0, .i .u8 0, .i .u8 0, .i .u8 0, .i .i64 0, .s [], .sl (h.length + k) 0 2 2 none, .ns]) = some (3, [], dC, .sl (h.length + k) 0 2 2 none, .ns, [dA, dB], []) := fun L k q => Kkg (c := dC) (rd1 none 2 [dA, dB] L k q rfl (by decide)) (JSB _ _)
  have rd3 : ∀ L k, ownC L k = some [.i .i64 1, .i .u8 0, .i .u8 0, .i .u8 0, .i .u8 0, .i .u8 0, .i .u8 0, .i .u8 0, .i .u8 0, .i .u8 0, .i .u8 0, .i .u8 0, .i .u8 0, .i .u8 0, .i .u8 0, .i .u8 0, .i .u8 0, .i .u8 0, .i .u8 0, .i .u8 0, .i .u8 0, .i .u8 0, .i .u8 0, .i .u8 0, .i .u8 0, .i .u8 0, .i .u8 0, .i .u8 0, .i .u8 0, .i .u8 0, .i .u8 0, .i .u8 0, .i .u8 0, .i .i64 0, .s [], .i .i64 2, .i .u8 0, .i .u8 0, .i .u8 0, .i .u8 0, .i .u8 0, .i .u8 0, .i .u8 0, .i .u8 0, .i .u8 0, .i .u8 0, .i .u8 0, .i .u8 0, .i .u8 0, .i .u8 0, .i .u8 0, .i .u8 0, .i .u8 0, .i .u8 0, .i .u8 0, .i .u8 0, .i .u8 0, .i .u8 0, .i .u8 0, .i .u8 0, .i .u8 0, .i .u8 0, .i .u8 0, .i .u8 0, .i .u8 0, .i .u8 0, .i .u8 0, .i .u8 0, .i .i64 1, .s [], .i .i64 2, .i .u8 0, .i .u8 0, .i .u8 0, .i .u8 0, .i .u8 0, .i .u8 0, .i .u8 0, .i .u8 0, .i .u8 0, .i .u8 0, .i .u8 0, .i .u8 0, .i .u8 0, .i .u8 0, .i .u8 0, .i .u8 0, .i .u8 0, .i .u8 0, .i .u8 0, .i .u8 0, .i .u8 0, .i .u8 0, .i .u8 0, .i .u8 0, .i .u8 0, .i .u8 0, .i .u8 0, .i .u8 0, .i .u8 0, .i .u8 0, .i .u8 0, .i .u8 0, .i .i64 2, .s []] → getS deR (h ++ L) (.sl (h.length + k) 0 3 3 none) = some [dC, dA, dB] := fun L k q => rd1 none 3 [dC, dA, dB] L k q rfl (by decide)
  have gap : ∀ L k, ownR deR [dC, dA, dB] L k → getS deR (h ++ L) (apS deR (h.length + k) [dC, dA, dB]) = some [dC, dA, dB] := fun L k q => KY5 (r := deR) L k [dC, dA, dB] q (by decide)
  have r9 : (List.replicate 9 [.i .i64 0, .i .u8 0, .i .u8 0, .i .u8 0, .i .u8 0, .i .u8 0, .i .u8 0, .i .u8 0, .i .u8 0, .i .u8 0, .i .u8 0, .i .u8 0, .i .u8 0, .i .u8 0, .i .u8 0, .i .u8 0, .i .u8 0, .i .u8 0, .i .u8 0, .i .u8 0, .i .u8 0, .i .u8 0, .i .u8 0, .i .u8 0, .i .u8 0, .i .u8 0, .i .u8 0, .i .u8 0, .i .u8 0, .i .u8 0, .i .u8 0, .i .u8 0, .i .u8 0, .i .i64 0, .s []]).flatten = deR.cells (List.replicate 9 (dsc deZ)) := Xt2 9
  have c9 : (deR.cells (List.replicate 9 (dsc deZ))).all (wrOk true) = true := zZK _
  have dl : desL 3 dC [dA, dB] [] = [dC, dA, dB] := rfl
  have DZ : DB (dsc deZ) := Yuz rfl rfl rfl
  have eb1 : EB 3 [] (dsc deZ) [] [dsc deZ] = True := eq_true ⟨by decide, by decide, DZ, by decide, fun d hd => by rw [List.mem_singleton.1 hd]; exact DZ⟩
  have eb2 : EB 4 [] (dsc deZ) [] (List.replicate 9 (dsc deZ)) = True := eq_true ⟨by decide, by decide, DZ, by decide, fun d hd => by rw [List.nil_append] at hd; rw [List.eq_of_mem_replicate hd]; exact DZ⟩
  have eb3 : EB 3 [] dO [] [] = True := eq_true ⟨by decide, by decide, Yuz rfl rfl rfl, by decide, fun d hd => by simp at hd⟩
  have n2 : ([dA, dB].length + ([] : List Dsc).length ≤ 100000) = True := eq_true (by decide)
  have mx : (64 * (9 : Int) ≤ 2 ^ 47 ∧ (9 : Int) ≤ maxLen) = True := eq_true ⟨by decide, by unfold maxLen; decide⟩
  have k1 := qzm
  have k2 := Kjf
  have k3 := JGT
  have zl : ([] : List UInt8).length = 0 := rfl
  unfold w5
  have t9 : Int.toNat 9 = 9 := rfl
  have rp := fun n => Qv5 n (AV.tu [])
  simp only [JaF, rp, t9, Zsz, qtN, qup, if_true, if_false, ↓reduceIte, Nat.reduceAdd, Nat.reduceSub, Nat.reduceLeDiff, Nat.reduceEqDiff, Nat.reduceMul, Nat.reduceLT, Int.reduceLT, Int.reduceLE, Int.reduceEq, CO.tmps, Opd.tmps, optT, Nat.reducePow, Nat.reduceDiv, Nat.reduceMod, YUt, Ybd, ZtD, YEG, im1, im2, im3, im4, rd3, gap, r9, c9, dl, eb1, eb2, eb3, n2, k1, k2, k3, mx, zl, and_self, eq_self, decide_true, qtp hh, Kxe hz, Xey hz, XWU hz]
  exact Bt.dropB _ hh rfl
 ·cases e
end Go.Proofs.Ytpoojfnmhnedpaa
end
section
namespace Go.Proofs.Ytpoojfnmhnedpaa
theorem zel {b c : List UInt8} (h : (mdec b).2.1 = 0) (hne : c ≠ b) : (mdec c).1 ≠ (mdec b).1 := fun e => by
 obtain ⟨hm, he, _, _⟩ := ZXF h
 by_cases hc : (mdec c).2.1 = 0
 ·obtain ⟨_, he', _, _⟩ := ZXF hc
  rw [e, he] at he'
  exact hne he'.symm
 ·have z := JfL hc
  rw [e] at z
  have k := hm.kind
  rw [z] at k
  revert k
  decide
theorem YyE {x t : UInt8} (h : t ≠ 0) : x ^^^ t ≠ x := fun e => h (by
 have : x ^^^ (x ^^^ t) = x ^^^ x := by rw [e]
 rwa [← UInt8.xor_assoc, UInt8.xor_self, UInt8.zero_xor] at this)
theorem Zlw {b : List UInt8} {i : Nat} {t : UInt8} (hi : i < b.length) (h : t ≠ 0) : b.set i (b[i] ^^^ t) ≠ b := fun e => by
 have := congrArg (fun l : List UInt8 => l[i]?) e
 simp only [List.getElem?_set_self hi, List.getElem?_eq_getElem hi, Option.some.injEq] at this
 exact YyE h this
theorem QX1 (m : Man) : (KgO m).length ≠ 0 := fun h => by
 unfold KgO at h
 simp only [List.length_append] at h
 have : (JDk 77).length = 1 := by decide
 omega
end Go.Proofs.Ytpoojfnmhnedpaa
end
section
namespace Go.Proofs.Ytpoojfnmhnedpaa
structure IdOk (m : Man) : Prop where
 c : m.config.id.length = 32
 l : ∀ d ∈ m.layers, d.id.length = 32
 s : ∀ d ∈ m.subs, d.id.length = 32
theorem Z3b : IdOk manZ := ⟨by simp [manZ, deZ], fun d hd => by simp [manZ] at hd, fun d hd => by simp [manZ] at hd⟩
theorem ManIn.ids {m : Man} (h : ManIn m) : IdOk m := by
 refine ⟨?_, fun d hd => (h.all d (by unfold allD; simp [hd])).id, fun d hd => (h.all d (by unfold allD; simp [hd])).id⟩
 by_cases h3 : m.kind = 3
 ·exact (h.all m.config (by unfold allD; rw [if_pos h3]; simp)).id
 ·rw [(Jc1 h.kind h3).2.2]
  simp [deZ]
theorem Jsa (b : List UInt8) : IdOk (mdec b).1 := by
 by_cases h : (mdec b).2.1 = 0
 ·exact (ZXF h).1.ids
 ·rw [JfL h]
  exact Z3b
theorem Zjj (b : List UInt8) : ((mdec b).1.layers.map dsc).length ≤ maxLen ∧ ((mdec b).1.subs.map dsc).length ≤ maxLen := by
 rw [List.length_map, List.length_map]
 unfold maxLen
 by_cases h : (mdec b).2.1 = 0
 ·have := (ZXF h).1.lay
  have := (ZXF h).1.sub
  omega
 ·rw [JfL h]
  simp [manZ]
theorem zWD {l : List De} (h : ∀ d ∈ l, d.id.length = 32) : (l.map dsc).map Dsc.de = l := by
 rw [List.map_map]
 exact (List.map_congr_left fun x hx => K9B (h x hx)).trans (List.map_id _)
theorem QxL {m : Man} (h : IdOk m) : JcG m.kind m.title (dsc m.config) (m.layers.map dsc) (m.subs.map dsc) = m := by
 unfold JcG
 rw [K9B h.c, zWD h.l, zWD h.s]
theorem XQm {m n : Man} (h : IdOk m) (k : IdOk n) : (m.kind, m.title, dsc m.config, m.layers.map dsc, m.subs.map dsc) = (n.kind, n.title, dsc n.config, n.layers.map dsc, n.subs.map dsc) ↔ m = n := by
 constructor
 ·intro e
  simp only [Prod.mk.injEq] at e
  obtain ⟨e1, e2, e3, e4, e5⟩ := e
  rw [← QxL h, ← QxL k, e1, e2, e3, e4, e5]
 ·rintro rfl
  rfl
end Go.Proofs.Ytpoojfnmhnedpaa
end
