/- Part 28 of what the laws' proofs rest on. No condition. -/
import Derived.Test.YtcncpbcbedfakaaGreatRo27
set_option linter.all false
section
namespace Go.Proofs.YtcncpbcbedfakaaGreat
set_option maxRecDepth 100000
theorem QjX {v : List Int} {ds : Dots} (c : zEL v ds = 0) : QeQ [] v ds = 0 := XlN.2 ⟨qmZ c, (Z5Q c).2.1, List.Pairwise.nil, fun x h => by cases h⟩
theorem QoJ {v : List Int} {ds : Dots} {x : Hd} (c : zEL v ds = 0) (h : ZvJ v ds x.1) : QeQ [x] v ds = 0 := XlN.2 ⟨qmZ c, (Z5Q c).2.1, List.pairwise_singleton _ _, fun y hy => by
 rw [List.mem_singleton.1 hy]
 exact (qEQ (qmZ c).rg _).1 h⟩
theorem JHO {v : List Int} {ds : Dots} {x y : Hd} (c : zEL v ds = 0) (hx : ZvJ v ds x.1) (hy : ZvJ v ds y.1) (hxy : JaS x.1 y.1) : QeQ [x, y] v ds = 0 := XlN.2 ⟨qmZ c, (Z5Q c).2.1, List.pairwise_cons.2 ⟨fun z hz => by rw [List.mem_singleton.1 hz]; exact hxy, List.pairwise_singleton _ _⟩, fun z hz => by
 rcases List.mem_cons.1 hz with rfl | hz
 ·exact (qEQ (qmZ c).rg _).1 hx
 ·rw [List.mem_singleton.1 hz]
  exact (qEQ (qmZ c).rg _).1 hy⟩
abbrev x4 : Hd := ((1, 1), dgB 4)
abbrev x5 : Hd := ((2, 1), dgB 5)
theorem m00 : fmO [0, 0] [] = ([], []) := by decide
theorem m10 : fmO [1, 0] [] = ([1], []) := by decide
theorem m01 : fmO [0, 1] [] = ([0, 1], []) := by decide
theorem m11 : fmO [1, 1] [] = ([1, 1], []) := by decide
theorem k00 : zEL [] [] = 0 := by decide
theorem k10 : zEL [1] [] = 0 := by decide
theorem k01 : zEL [0, 1] [] = 0 := by decide
theorem k11 : zEL [1, 1] [] = 0 := by decide
theorem r00 : qD3 [0, 0] [] := by decide
theorem r10 : qD3 [1, 0] [] := by decide
theorem r01 : qD3 [0, 1] [] := by decide
theorem r11 : qD3 [1, 1] [] := by decide
theorem g10 : QeQ [x4] [1] [] = 0 := QoJ k10 (by decide)
theorem g01 : QeQ [x5] [0, 1] [] = 0 := QoJ k01 (by decide)
theorem g11 : QeQ [x4, x5] [1, 1] [] = 0 := JHO k11 (by decide) (by decide) (by decide)
theorem Y38 (v : List Int) (ds : Dots) : outL v ds [] = [] := rfl
theorem YXt {v : List Int} {ds : Dots} {x : Hd} {l : List Hd} (h : zEL v ds = 0 ∧ ZvJ v ds x.1) : outL v ds (x :: l) = outL v ds l := by
 unfold outL
 rw [List.filter_cons, if_neg (by rw [decide_eq_true_eq]; exact not_not_intro h)]
theorem YvK {v : List Int} {ds : Dots} {x : Hd} {l : List Hd} (h : ¬ (zEL v ds = 0 ∧ ZvJ v ds x.1)) : outL v ds (x :: l) = x :: outL v ds l := by
 unfold outL
 rw [List.filter_cons, if_pos (decide_eq_true h)]
theorem ZyJ (x : Hd) : layG XSb [] x = [x] := rfl
theorem Kyc {x y : Hd} {l : List Hd} (h : ¬ XSb x y) : layG XSb (y :: l) x = y :: layG XSb l x := by
 conv => lhs; unfold layG
 rw [if_neg h]
theorem a1 : wrB [] [] [] x4 [] [] [x4] [1] [] 0 := by
 have h : wrE [] [] [] x4.1 [] [] = 0 := Z04 (QjX k00) (by decide) k00 (by decide) (by decide) (by decide) (by decide)
 refine ⟨h, .inl ⟨h, ?_, by decide, by decide⟩⟩
 unfold wrL
 rw [Y38, ZyJ]
theorem a2 : wrB [x4] [1] [] x5 [1] [] [x5] [1, 1] [] 0 := by
 have h : wrE [x4] [1] [] x5.1 [1] [] = 0 := Z04 g10 (by decide) k10 (by decide) (by decide) (by decide) (by decide)
 refine ⟨h, .inl ⟨h, ?_, by decide, by decide⟩⟩
 unfold wrL
 rw [YXt (by decide), Y38, ZyJ]
theorem b1 : wrB [x4] [1] [] x5 [] [] [x4, x5] [1, 1] [] 0 := by
 have h : wrE [x4] [1] [] x5.1 [] [] = 0 := Z04 g10 (by decide) k00 (by decide) (by decide) (by decide) (by decide)
 refine ⟨h, .inl ⟨h, ?_, by decide, by decide⟩⟩
 unfold wrL
 rw [YvK (by decide), Y38, Kyc (by unfold XSb; decide), ZyJ]
theorem b2 : wrB [x4] [1] [] ((1, 1), dgB 5) [] [] [] [] [] 19 := by
 have h : wrE [x4] [1] [] (1, 1) [] [] = 19 := by
  unfold wrE
  rw [if_neg (not_not_intro g10), if_neg (by decide), if_neg (not_not_intro k00), if_pos (by decide)]
 exact ⟨h, .inr ⟨by show wrE [x4] [1] [] (1, 1) [] [] ≠ 0; rw [h]; decide, rfl, rfl, rfl⟩⟩
theorem b3 : wrB [] [] [] ((0, 1), dgB 4) [] [] [] [] [] 3 := by
 have h : wrE [] [] [] (0, 1) [] [] = 3 := by
  unfold wrE
  rw [if_neg (not_not_intro (QjX k00)), if_pos (by decide)]
 exact ⟨h, .inr ⟨by show wrE [] [] [] (0, 1) [] [] ≠ 0; rw [h]; decide, rfl, rfl, rfl⟩⟩
theorem a3 : jnB [x4] [1] [] [x5] [0, 1] [] [x4, x5] [1, 1] [] 0 := by
 have g : agreeP [x4] [x5] := fun x hx y hy e => by
  rw [List.mem_singleton.1 hx, List.mem_singleton.1 hy] at e
  exact absurd e (by decide)
 refine ⟨⟨g10, g01⟩, by decide, .inr ⟨g, rfl, ?_, by decide, by decide⟩⟩
 refine (zXp (XlN.1 g10) (XlN.1 g01) (XlN.1 g11).rise fun x => ?_).symm
 have n1 : ¬ inC [0, 1] [] (1, 1) := fun q => absurd ((qEQ (qmZ k01).rg _).2 q) (by decide)
 have n2 : ¬ inC [1] [] (2, 1) := fun q => absurd ((qEQ (qmZ k10).rg _).2 q) (by decide)
 rw [Ql1 g]
 simp only [List.mem_cons, List.not_mem_nil, or_false]
 constructor
 ·rintro (rfl | rfl)
  ·exact .inr (.inl ⟨rfl, n1⟩)
  ·exact .inr (.inr ⟨rfl, n2⟩)
 ·rintro (⟨q, _⟩ | ⟨q, _⟩ | ⟨q, _⟩)
  ·exact .inl q
  ·exact .inl q
  ·exact .inr q
theorem a4 : jnB [x4] [1] [] [] [1] [] [] [1] [] 0 := by
 have g : agreeP [x4] [] := fun x hx y hy e => by cases hy
 refine ⟨⟨g10, QjX k10⟩, by decide, .inr ⟨g, rfl, ?_, by decide, by decide⟩⟩
 refine (zXp (XlN.1 g10) (XlN.1 (QjX k10)) List.Pairwise.nil fun x => ?_).symm
 have n1 : inC [1] [] (1, 1) := (qEQ (qmZ k10).rg _).1 (by decide)
 rw [Ql1 g]
 simp only [List.mem_cons, List.not_mem_nil, or_false, false_iff]
 rintro (⟨_, q⟩ | ⟨q, q2⟩ | ⟨q, _⟩)
 ·exact q
 ·subst q; exact q2 n1
 ·exact q
theorem b4 : jnB [x4] [1] [] [((1, 1), dgB 5)] [1] [] [] [] [] 9 := by
 refine ⟨⟨g10, QoJ k10 (by decide)⟩, by decide, .inl ⟨fun g => ?_, rfl, rfl, rfl, rfl⟩⟩
 have := g x4 (.head _) ((1, 1), dgB 5) (.head _) rfl
 exact absurd this (by decide)
theorem c1 : outL [1] [] [x4] = [] ∧ z9r [1] [1] [] [] = ([1], []) := ⟨by rw [YXt (by decide), Y38], by decide⟩
theorem c2 : outL [] [] [x4] = [x4] ∧ z9r [1] [] [] [] = ([1], []) := ⟨by rw [YvK (by decide), Y38], by decide⟩
theorem qLC : XWe cmpG [dgB 5, dgB 4] = [dgB 4, dgB 5] := by
 have hp := zDf JCU [dgB 5, dgB 4]
 have hs := J3I JCU [dgB 5, dgB 4]
 have hl : ∀ l : List Dg, l.Perm [dgB 5, dgB 4] → l.Pairwise (fun x y => ¬ cmpG y x < 0) → l = [dgB 4, dgB 5] := fun l q r => by
  have ql := q.length_eq
  match l, ql with
  | [a, b], _ =>
   have r2 := (List.pairwise_cons.1 r).1 b (.head _)
   have ha : a ∈ [dgB 5, dgB 4] := q.mem_iff.1 (.head _)
   have hb : b ∈ [dgB 5, dgB 4] := q.mem_iff.1 (.tail _ (.head _))
   have h5 : dgB 5 ∈ [a, b] := q.mem_iff.2 (.head _)
   have h4 : dgB 4 ∈ [a, b] := q.mem_iff.2 (.tail _ (.head _))
   simp only [List.mem_cons, List.not_mem_nil, or_false] at ha hb h5 h4
   rcases ha with rfl | rfl
   ·rcases hb with rfl | rfl
    ·exact absurd h4 (by decide)
    ·exact absurd r2 (by decide)
   ·rcases hb with rfl | rfl
    ·rfl
    ·exact absurd h5 (by decide)
 exact hl _ hp hs
theorem Ytx : XWe cmpG [dgB 4, dgB 4] = [dgB 4, dgB 4] := by
 have hp := zDf JCU [dgB 4, dgB 4]
 have ql := hp.length_eq
 match XWe cmpG [dgB 4, dgB 4], hp, ql with
 | [a, b], hp, _ =>
  have ha : a ∈ [dgB 4, dgB 4] := hp.mem_iff.1 (.head _)
  have hb : b ∈ [dgB 4, dgB 4] := hp.mem_iff.1 (.tail _ (.head _))
  simp only [List.mem_cons, List.not_mem_nil, or_false, or_self] at ha hb
  rw [ha, hb]
theorem d1 : dgsL [((1, 1), dgB 5), ((2, 1), dgB 4)] = [dgB 4, dgB 5] := by
 unfold dgsL
 rw [show ([((1, 1), dgB 5), ((2, 1), dgB 4)] : List Hd).map (·.2) = [dgB 5, dgB 4] from rfl, qLC]
 decide
theorem d2 : dgsL [x4, ((2, 1), dgB 4)] = [dgB 4] := by
 unfold dgsL
 rw [show ([x4, ((2, 1), dgB 4)] : List Hd).map (·.2) = [dgB 4, dgB 4] from rfl, Ytx]
 decide
end Go.Proofs.YtcncpbcbedfakaaGreat
end
section
namespace Go.Proofs.YtcncpbcbedfakaaGreat
set_option maxRecDepth 100000
set_option maxHeartbeats 8000000
theorem qAn (zs l m : List AV) (k : Nat) (h : zs.length = l.length + m.length) (hk : k = l.length) : over (over zs 0 l) k m = l ++ m := by
 subst hk
 have e1 : (l ++ zs.drop l.length).take l.length = l := List.take_left' rfl
 have e2 : (l ++ zs.drop l.length).drop (l.length + m.length) = [] := List.drop_eq_nil_of_le (by rw [List.length_append, List.length_drop]; omega)
 simp only [over, List.take_zero, List.nil_append, Nat.zero_add, e1, e2, List.append_nil]
def QGt : List AV → List AB → Option (AV × List AB)
 | [], h => some (.b true, h)
 | _, _ => none
theorem lit1 {h : List AB} (L : List AB) (k : Nat) (x : Hd) (q : ownC L k = some (Kd6.f x)) : getS Kd6 (h ++ L) (.sl (h.length + k) 0 1 1 none) = some [x] :=
 (ZCP (r := Kd6) (n := 1) (l := [x]) (by rw [q]; simp [Row.cells]) (by unfold maxLen; simp) (by simp)).get
theorem lit2 {h : List AB} (L : List AB) (k : Nat) (x y : Hd) (q : ownC L k = some (Kd6.f x ++ Kd6.f y)) : getS Kd6 (h ++ L) (.sl (h.length + k) 0 2 2 none) = some [x, y] :=
 (ZCP (r := Kd6) (n := 2) (l := [x, y]) (by rw [q]; simp [Row.cells]) (by unfold maxLen; simp) (by simp)).get
theorem qML : Spec Tryz.prog 10 QGt := by
 intro args h v h' e
 unfold QGt at e
 split at e
 ·cases e
  refine FnAt.c (FnAt.frz0 fun hz => ?_)
  generalize h.map AB.freeze = h at *
  refine FnAt.run (by kernel_rfl) (T := ⟨[⟨34, ZXQ, fun _ => []⟩, ⟨32, zeo, fun _ => []⟩, ⟨31, JYI, fun _ => []⟩, ⟨35, zcH, fun _ => []⟩, ⟨33, Xie, fun _ => []⟩, ⟨36, Yrd, fun _ => []⟩], []⟩) ⟨⟨zpR, ZwE, qCz, XL6, QLl, YCD, trivial⟩, trivial⟩ Tryz.func10 sw10 fun ho hh => ?_
  have l1 := fun (L : List AB) k q => lit1 (h := h) L k ((1, 1), dgB 4) q
  have l2 := fun (L : List AB) k q => lit1 (h := h) L k ((2, 1), dgB 5) q
  have l3 := fun (L : List AB) k q => lit2 (h := h) L k ((1, 1), dgB 4) ((2, 1), dgB 5) q
  have ex1 := eq_true a1
  have ex2 := eq_true a2
  have ex3 := eq_true a3
  have ex4 := eq_true a4
  simp only [x4, x5] at ex1 ex2 ex3 ex4
  have u0 : (0 ≤ maxLen) = True := eq_true (by unfold maxLen; omega)
  have u1 : (1 ≤ maxLen) = True := eq_true (by unfold maxLen; omega)
  have u2 : (2 ≤ maxLen) = True := eq_true (by unfold maxLen; omega)
  have b4 : ((0 : Int) ≤ 4 ∧ (4 : Int) < 256) = True := eq_true (by decide)
  have b5 : ((0 : Int) ≤ 5 ∧ (5 : Int) < 256) = True := eq_true (by decide)
  unfold w10
  simp only [QhW, YqD, z18, KHF, Xq8, if_true, if_false, ↓reduceIte, Nat.reduceAdd, Nat.reduceSub, Nat.reduceLeDiff, Nat.reduceEqDiff, Nat.reduceMul, Nat.reduceLT, Int.reduceLT, Int.reduceLE, Int.reduceEq, CO.tmps, Opd.tmps, optT, Nat.reducePow, Nat.reduceDiv, Nat.reduceMod, ZXQ, zeo, JYI, zcH, Xie, Yrd, ex1, ex2, ex3, ex4, l1, l2, l3, Yot, zKf, YJk, u0, u1, u2, Nat.zero_add, beq_self_eq_true, and_self, eq_self, ne_eq, not_false_eq_true, not_true_eq_false, decide_true, decide_false, b4, b5, r00, r10, r01, r11, m00, m10, m01, m11, nsSl, slSl, QTL, zHG, JiT, Qa4, qAn, KIC, QxI, List.all_append, List.length_cons, List.length_nil, XUt hh, Ygn hz, QqV hz, qNQ hz]
  exact Bt.dropB _ hh rfl
 ·cases e
end Go.Proofs.YtcncpbcbedfakaaGreat
end
section
namespace Go.Proofs.YtcncpbcbedfakaaGreat
set_option maxRecDepth 100000
set_option maxHeartbeats 4000000
section
variable {P : Program} {h : List AB} {id n : Nat}
theorem QPN {p : Nat} {fr fr' : List AV} (hid : id < h.length) (x : List AB) (o : Nat) (l : List AV) (ho : o + l.length ≤ n) (hw : WkL fr' fr) : Bt P p fr (h.set id (.blk true true (over (List.replicate n .top) o l)) ++ x) fr' (h.set id (topB n) ++ x) := by
 refine Bt.trans (Bt.wk hw) ?_
 have := Bt.top (P := P) (p := p) (fr := fr') (h := h.set id (.blk true true (over (List.replicate n .top) o l)) ++ x) (id := id) (n := n) (xs := over (List.replicate n .top) o l) (by rw [List.getElem?_append_left (by rw [List.length_set]; exact hid), List.getElem?_set_self hid]) (by rw [KIC _ _ _ (by simp; omega)]; simp)
 rwa [List.set_append_left _ _ (by rw [List.length_set]; exact hid), List.set_set] at this
theorem KNe {p : Nat} {fr fr' : List AV} {xs : List AV} (hi : h[id]? = some (.blk true true xs)) (hn : xs.length = n) (x : List AB) (hw : WkL fr' fr) : Bt P p fr (h ++ x) fr' (h.set id (topB n) ++ x) := by
 have hid := (List.getElem?_eq_some_iff.1 hi).1
 refine Bt.trans (Bt.wk hw) ?_
 have := Bt.top (P := P) (p := p) (fr := fr') (h := h ++ x) (id := id) (n := n) (xs := xs) (by rw [List.getElem?_append_left hid]; exact hi) hn
 rwa [List.set_append_left _ _ hid] at this
theorem QKb {p : Nat} {fr : List AV} {H : List AB} (hi : H[id]? = some (topB n)) : Bt P p fr H fr (H.set id .dead) :=
 Bt.less hi (fun _ _ _ _ _ _ => trivial) (fun q => by cases q) (fun q => by cases q)
end
def J1l : List AV := .i .u8 1 :: .i .u8 2 :: .i .u8 3 :: List.replicate 29 (.i .u8 0)
theorem ZuG : Spec Tryz.prog 29 (qPA idR) := by
 intro args h v h' e
 unfold qPA at e
 split at e
 ·rename_i s
  split at e
  ·rename_i hns
   cases e
   cases s <;> first | (cases hns; done) | skip
   refine FnAt.c (FnAt.run (by kernel_rfl) (T := ⟨[], []⟩) ⟨trivial, trivial⟩ Tryz.func29 sw29 fun ho hh => ?_)
   unfold w29
   simp only [QhW, YqD, z18, Xq8, if_true, if_false, reduceIte, Nat.reduceAdd, Nat.reduceSub, Nat.reduceLeDiff, Nat.reduceEqDiff, Nat.reduceMul, Nat.reduceLT, Int.reduceLT, Int.reduceLE, Int.reduceEq]
   refine zXO (S := Unit) (fun _ => 0) (fun _ => [.ns] ++ tp 1 ++ [.i .i64 0] ++ tp 10) (fun _ => True) () trivial (by simp only [z18, Xq8, if_true, if_false, reduceIte, Nat.reduceAdd, Nat.reduceSub, Nat.reduceLeDiff, Nat.reduceEqDiff, Nat.reduceMul, Nat.reduceLT, Int.reduceLT, Int.reduceLE, Int.reduceEq]) fun _ _ => ?_
   simp only [z18, Xq8, if_true, if_false, reduceIte, Nat.reduceAdd, Nat.reduceSub, Nat.reduceLeDiff, Nat.reduceEqDiff, Nat.reduceMul, Nat.reduceLT, Int.reduceLT, Int.reduceLE, Int.reduceEq, Int.lt_irrefl, false_implies]
   exact Bt.eq rfl (List.append_nil h)
  ·obtain ⟨l, hs, e⟩ := zZA e
   split at e
   ·rename_i id hid
    split at e
    ·rename_i hc
     cases e
     obtain ⟨h1, h2, h3⟩ := hc
     have hlt := (List.getElem?_eq_some_iff.1 h2).1
     by_cases h0 : l.length = 0
     ·have e2 : h.set id .dead = h := XRV (by rw [h2]; unfold resB; rw [if_pos h0])
      rw [e2, h1]
      unfold rsl
      rw [if_pos h0]
      refine FnAt.c (FnAt.run (by kernel_rfl) (T := ⟨[], []⟩) ⟨trivial, trivial⟩ Tryz.func29 sw29 fun ho hh => ?_)
      unfold w29
      simp only [QhW, YqD, z18, Xq8, if_true, if_false, reduceIte, Nat.reduceAdd, Nat.reduceSub, Nat.reduceLeDiff, Nat.reduceEqDiff, Nat.reduceMul, Nat.reduceLT, Int.reduceLT, Int.reduceLE, Int.reduceEq]
      refine zXO (S := Unit) (fun _ => 0) (fun _ => [.sl id 0 0 0 (some 0)] ++ tp 1 ++ [.i .i64 0] ++ tp 10) (fun _ => True) () trivial (by simp only [z18, Xq8, if_true, if_false, reduceIte, Nat.reduceAdd, Nat.reduceSub, Nat.reduceLeDiff, Nat.reduceEqDiff, Nat.reduceMul, Nat.reduceLT, Int.reduceLT, Int.reduceLE, Int.reduceEq]) fun _ _ => ?_
      simp only [z18, Xq8, if_true, if_false, reduceIte, Nat.reduceAdd, Nat.reduceSub, Nat.reduceLeDiff, Nat.reduceEqDiff, Nat.reduceMul, Nat.reduceLT, Int.reduceLT, Int.reduceLE, Int.reduceEq, Int.natCast_zero, Int.lt_irrefl, false_implies, lenV]
      exact Bt.eq rfl (List.append_nil h)
     ·rw [h1]
      unfold rsl
      rw [if_neg h0]
      have hb : h[id]? = some (.blk true true (idR.cells l)) := by rw [h2]; unfold resB; rw [if_neg h0]
      refine FnAt.c (FnAt.run (by kernel_rfl) (T := ⟨[], []⟩) ⟨trivial, trivial⟩ Tryz.func29 sw29 fun ho hh => ?_)
      unfold w29
      simp only [QhW, YqD, z18, Xq8, if_true, if_false, reduceIte, Nat.reduceAdd, Nat.reduceSub, Nat.reduceLeDiff, Nat.reduceEqDiff, Nat.reduceMul, Nat.reduceLT, Int.reduceLT, Int.reduceLE, Int.reduceEq]
      refine q2X (S := Nat) (fun k => l.length - k) (fun k => [.sl id 0 l.length l.length (some idR.sz)] ++ tp 1 ++ [.i .i64 k] ++ tp 10) (fun _ => h.set id (topB (l.length * 32)) ++ []) (fun k => k ≤ l.length) 0 (Nat.zero_le _) (Yed hb (idR.cells_len l) (by simp only [z18, Xq8, if_true, if_false, reduceIte, Nat.reduceAdd, Nat.reduceSub, Nat.reduceLeDiff, Nat.reduceEqDiff, Nat.reduceMul, Nat.reduceLT, Int.reduceLT, Int.reduceLE, Int.reduceEq])) fun k hk => ?_
      by_cases hlk : k < l.length
      ·have g1 : ((k : Int) < (l.length : Int)) = True := eq_true (by omega)
       have e1 : IntKind.i64.wrap ((k : Int) + 1) = ((k + 1 : Nat) : Int) := ZWo (by have : l.length ≤ 1000000 := h3; unfold In64; omega)
       have e3 := ZwG (n := l.length * 32) hlt [] (0 + k * 32) 32 J1l rfl rfl (by omega)
       simp only [J1l, QhW, YqD] at e3
       simp only [QhW, YqD, z18, Xq8, if_true, if_false, reduceIte, Nat.reduceAdd, Nat.reduceSub, Nat.reduceLeDiff, Nat.reduceEqDiff, Nat.reduceMul, Nat.reduceLT, Int.reduceLT, Int.reduceLE, Int.reduceEq, lenV, g1, e1, iadV, hlk, e3, false_implies]
       exact ⟨k + 1, by omega, by dsimp only; omega, YJ8 hlt _ _ (by simp only [List.length_cons, List.length_nil]; omega) (by simp only [z18, Xq8, if_true, if_false, reduceIte, Nat.reduceAdd, Nat.reduceSub, Nat.reduceLeDiff, Nat.reduceEqDiff, Nat.reduceMul, Nat.reduceLT, Int.reduceLT, Int.reduceLE, Int.reduceEq])⟩
      ·have g1 : ((k : Int) < (l.length : Int)) = False := eq_false (by omega)
       simp only [z18, Xq8, if_true, if_false, reduceIte, Nat.reduceAdd, Nat.reduceSub, Nat.reduceLeDiff, Nat.reduceEqDiff, Nat.reduceMul, Nat.reduceLT, Int.reduceLT, Int.reduceLE, Int.reduceEq, lenV, g1, false_implies]
       exact J13 hlt
    ·cases e
   ·cases e
 ·cases e
theorem X6b (h : List AB) : XrY [.ag [.ns, .ns]] h = some (.tu [], h) := rfl
theorem qVa {α : Type} (r : Row α) (id : Nat) (l : List α) : rsl r id l ≠ .ns := fun q => by unfold rsl at q; split at q <;> cases q
theorem Zfh {h : List AB} {v : List Int} {d : Dots} {j k : Nat} (hj : h[j]? = some (resB intR true v)) (hk : h[k]? = some (resB dotR true d)) (hl : v.length ≤ 1000000) (hm : d.length ≤ 1000000) (hne : j ≠ k) (x : List AB) :
  XrY [.ag [rsl intR j v, rsl dotR k d]] (h ++ x) = some (.tu [], (h.set j .dead).set k .dead ++ x) := by
 have lj := (List.getElem?_eq_some_iff.1 hj).1
 have lk := (List.getElem?_eq_some_iff.1 hk).1
 have h1 : (h ++ x)[j]? = some (resB intR true v) := by rw [List.getElem?_append_left lj]; exact hj
 have h2 : (h ++ x)[k]? = some (resB dotR true d) := by rw [List.getElem?_append_left lk]; exact hk
 have g1 : getS intR (h ++ x) (rsl intR j v) = some v := (K0f h1 (by unfold maxLen; omega)).get
 have g2 : getS dotR (h ++ x) (rsl dotR k d) = some d := (K0f h2 (by unfold maxLen; omega)).get
 unfold XrY
 split
 ·rename_i q
  simp only [List.cons.injEq, AV.ag.injEq] at q
  exact absurd q.1.1 (qVa _ _ _)
 ·rename_i q
  simp only [List.cons.injEq, AV.ag.injEq, and_true] at q
  obtain ⟨rfl, rfl⟩ := q
  rw [g1, g2]
  simp only [Option.bind_some, Qqr]
  rw [if_pos ⟨rfl, h1, rfl, h2, hne, hl, hm⟩, List.set_append_left _ _ lj, List.set_append_left _ _ (by rw [List.length_set]; exact lk)]
 ·rename_i q1 q2
  first | exact (q2 _ _ rfl).elim | exact (q2 _ _ _ rfl).elim | exact (q2 _ _ _ rfl rfl).elim | exact (q2 _ _ rfl rfl).elim | exact (q1 _ _ rfl rfl).elim | exact (q1 _ _ _ rfl rfl).elim | exact (q2 rfl).elim
open Classical in
noncomputable def znS : List AV → List AB → Option (AV × List AB)
 | [.ag [.ns, .ns, .ns]], h => some (.tu [], h)
 | [.ag [l, s, t]], h => (getS Kd6 h l).bind fun hs => (getS intR h s).bind fun v => (getS dotR h t).bind fun d => match idOf l, idOf s, idOf t with
   | [i], [j], [k] => if l = rsl Kd6 i hs ∧ h[i]? = some (resB Kd6 true hs) ∧ s = rsl intR j v ∧ h[j]? = some (resB intR true v) ∧ t = rsl dotR k d ∧ h[k]? = some (resB dotR true d) ∧ i ≠ j ∧ i ≠ k ∧ j ≠ k ∧ hs.length ≤ 1000000 ∧ v.length ≤ 1000000 ∧ d.length ≤ 1000000 then some (.tu [], ((h.set i .dead).set j .dead).set k .dead) else none
   | _, _, _ => none
 | _, _ => none
def J6R : List AV := .i .i64 (-7) :: .i .i64 0 :: List.replicate 32 (.i .u8 0)
theorem qa9 : Spec Tryz.prog 15 znS := by
 intro args h v h' e
 unfold znS at e
 split at e
 ·cases e
  refine FnAt.c (FnAt.run (by kernel_rfl) (T := ⟨[⟨55, XrY, fun _ => []⟩], []⟩) ⟨⟨XpY, trivial⟩, trivial⟩ Tryz.func15 sw15 fun ho hh => ?_)
  unfold w15
  simp only [QhW, YqD, z18, Xq8, if_true, if_false, reduceIte, Nat.reduceAdd, Nat.reduceSub, Nat.reduceLeDiff, Nat.reduceEqDiff, Nat.reduceMul, Nat.reduceLT, Int.reduceLT, Int.reduceLE, Int.reduceEq]
  refine q2X (S := Unit) (fun _ => 0) (fun _ => tp 1 ++ [.p (h.length + 0) 0, .i .i64 0] ++ tp 16) (fun _ => h ++ [.blk false true [.ns, .ns, .ns]]) (fun _ => True) () trivial (Bt.wk (by simp only [z18, Xq8, if_true, if_false, reduceIte, Nat.reduceAdd, Nat.reduceSub, Nat.reduceLeDiff, Nat.reduceEqDiff, Nat.reduceMul, Nat.reduceLT, Int.reduceLT, Int.reduceLE, Int.reduceEq])) fun _ _ => ?_
  simp only [z18, Xq8, if_true, if_false, reduceIte, Nat.reduceAdd, Nat.reduceSub, Nat.reduceLeDiff, Nat.reduceEqDiff, Nat.reduceMul, Nat.reduceLT, Int.reduceLT, Int.reduceLE, Int.reduceEq, Int.lt_irrefl, false_implies, X6b]
  exact Bt.drop _ hh rfl rfl
 ·rename_i l s t hne
  obtain ⟨hs, hl, e⟩ := zZA e
  obtain ⟨xs, hv, e⟩ := zZA e
  obtain ⟨ds, hd, e⟩ := zZA e
  split at e
  ·rename_i i j k hi hj hk
   split at e
   ·rename_i hc
    cases e
    obtain ⟨h1, h2, h3, h4, h5, h6, n1, n2, n3, m1, m2, m3⟩ := hc
    have hlt := (List.getElem?_eq_some_iff.1 h2).1
    subst h3 h5
    refine FnAt.c (FnAt.run (by kernel_rfl) (T := ⟨[⟨55, XrY, fun _ => []⟩], []⟩) ⟨⟨XpY, trivial⟩, trivial⟩ Tryz.func15 sw15 fun ho hh => ?_)
    have hdd := KBN (KBN (KBN hh i) j) k
    have fin : ∀ x, Bt Tryz.prog h.length [.tu []] (((h.set i .dead).set j .dead).set k .dead ++ x) [.tu []] (((h.set i .dead).set j .dead).set k .dead) := fun x => by
     have b := Bt.drop (P := Tryz.prog) (v := .tu []) (a := .tu []) x hdd rfl rfl
     rwa [List.length_set, List.length_set, List.length_set] at b
    by_cases h0 : hs.length = 0
    ·have e2 : h.set i .dead = h := XRV (by rw [h2]; unfold resB; rw [if_pos h0])
     have el : l = .sl i 0 0 0 (some 0) := by rw [h1]; unfold rsl; rw [if_pos h0]
     subst el
     rw [e2] at fin ⊢
     have g2 := Zfh h4 h6 m2 m3 n3
     unfold w15
     simp only [QhW, YqD, z18, Xq8, if_true, if_false, reduceIte, Nat.reduceAdd, Nat.reduceSub, Nat.reduceLeDiff, Nat.reduceEqDiff, Nat.reduceMul, Nat.reduceLT, Int.reduceLT, Int.reduceLE, Int.reduceEq]
     refine q2X (S := Unit) (fun _ => 0) (fun _ => tp 1 ++ [.p (h.length + 0) 0, .i .i64 0] ++ tp 16) (fun _ => h ++ [.blk false true [.sl i 0 0 0 (some 0), rsl intR j xs, rsl dotR k ds]]) (fun _ => True) () trivial (Bt.wk (by simp only [z18, Xq8, if_true, if_false, reduceIte, Nat.reduceAdd, Nat.reduceSub, Nat.reduceLeDiff, Nat.reduceEqDiff, Nat.reduceMul, Nat.reduceLT, Int.reduceLT, Int.reduceLE, Int.reduceEq])) fun _ _ => ?_
     simp only [z18, Xq8, if_true, if_false, reduceIte, Nat.reduceAdd, Nat.reduceSub, Nat.reduceLeDiff, Nat.reduceEqDiff, Nat.reduceMul, Nat.reduceLT, Int.reduceLT, Int.reduceLE, Int.reduceEq, lenV, Int.natCast_zero, Int.lt_irrefl, false_implies, g2]
     exact fin _
    ·have hb : h[i]? = some (.blk true true (Kd6.cells hs)) := by rw [h2]; unfold resB; rw [if_neg h0]
     have el : l = .sl i 0 hs.length hs.length (some Kd6.sz) := by rw [h1]; unfold rsl; rw [if_neg h0]
     subst el
     have lz : (h.set i (topB (hs.length * 34))).length = h.length := List.length_set
     have g2 := Zfh (h := h.set i (topB (hs.length * 34))) (by rw [List.getElem?_set_ne n1]; exact h4) (by rw [List.getElem?_set_ne n2]; exact h6) m2 m3 n3
     have b1 : ∀ x y z, ldV (h.set i (topB (hs.length * 34)) ++ [.blk false true [x, y, z]]) none (.p (h.length + 0) 0) = some x := fun x y z => by
      have := JdX (h := h.set i (topB (hs.length * 34))) [.blk false true [x, y, z]] 0 0
      rw [lz] at this
      exact this
     have b2 : ∀ x y z, ldV (h.set i (topB (hs.length * 34)) ++ [.blk false true [x, y, z]]) (some 2) (.p (h.length + 0) 1) = some (.ag [y, z]) := fun x y z => by
      have := J5Q (h := h.set i (topB (hs.length * 34))) [.blk false true [x, y, z]] 0 1 2
      rw [lz] at this
      exact this
     unfold w15
     simp only [QhW, YqD, z18, Xq8, if_true, if_false, reduceIte, Nat.reduceAdd, Nat.reduceSub, Nat.reduceLeDiff, Nat.reduceEqDiff, Nat.reduceMul, Nat.reduceLT, Int.reduceLT, Int.reduceLE, Int.reduceEq]
     refine q2X (S := Nat) (fun m => hs.length - m) (fun m => tp 1 ++ [.p (h.length + 0) 0, .i .i64 m] ++ tp 16) (fun _ => h.set i (topB (hs.length * 34)) ++ [.blk false true [.sl i 0 hs.length hs.length (some Kd6.sz), rsl intR j xs, rsl dotR k ds]]) (fun m => m ≤ hs.length) 0 (Nat.zero_le _) (KNe hb (Kd6.cells_len hs) _ (by simp only [z18, Xq8, if_true, if_false, reduceIte, Nat.reduceAdd, Nat.reduceSub, Nat.reduceLeDiff, Nat.reduceEqDiff, Nat.reduceMul, Nat.reduceLT, Int.reduceLT, Int.reduceLE, Int.reduceEq])) fun m hm => ?_
     by_cases hlk : m < hs.length
     ·have g1 : ((m : Int) < (hs.length : Int)) = True := eq_true (by omega)
      have e1 : IntKind.i64.wrap ((m : Int) + 1) = ((m + 1 : Nat) : Int) := ZWo (by have : hs.length ≤ 1000000 := m1; unfold In64; omega)
      have e3 := fun x => ZwG (n := hs.length * 34) hlt x (0 + m * 34) 34 J6R rfl rfl (by omega)
      simp only [J6R, QhW, YqD] at e3
      simp only [QhW, YqD, z18, Xq8, if_true, if_false, reduceIte, Nat.reduceAdd, Nat.reduceSub, Nat.reduceLeDiff, Nat.reduceEqDiff, Nat.reduceMul, Nat.reduceLT, Int.reduceLT, Int.reduceLE, Int.reduceEq, lenV, g1, e1, iadV, hlk, b1, b2, e3, false_implies]
      exact ⟨m + 1, by omega, by dsimp only; omega, QPN hlt _ _ _ (by simp only [List.length_cons, List.length_nil]; omega) (by simp only [z18, Xq8, if_true, if_false, reduceIte, Nat.reduceAdd, Nat.reduceSub, Nat.reduceLeDiff, Nat.reduceEqDiff, Nat.reduceMul, Nat.reduceLT, Int.reduceLT, Int.reduceLE, Int.reduceEq])⟩
     ·have g1 : ((m : Int) < (hs.length : Int)) = False := eq_false (by omega)
      simp only [QhW, YqD, z18, Xq8, if_true, if_false, reduceIte, Nat.reduceAdd, Nat.reduceSub, Nat.reduceLeDiff, Nat.reduceEqDiff, Nat.reduceMul, Nat.reduceLT, Int.reduceLT, Int.reduceLE, Int.reduceEq, lenV, g1, b1, b2, g2, false_implies]
      have e1 : (((h.set i (topB (hs.length * 34))).set j AB.dead).set k AB.dead ++ [AB.blk false true [AV.sl i 0 hs.length hs.length (some Kd6.sz), rsl intR j xs, rsl dotR k ds]])[i]? = some (topB (hs.length * 34)) := by
       rw [List.getElem?_append_left (by rw [List.length_set, List.length_set, List.length_set]; exact hlt), List.getElem?_set_ne (fun q => n2 q.symm), List.getElem?_set_ne (fun q => n1 q.symm), List.getElem?_set_self hlt]
      refine Bt.trans (QKb e1) ?_
      rw [List.set_append_left _ _ (by rw [List.length_set, List.length_set, List.length_set]; exact hlt), List.set_comm _ _ (fun q => n2 q.symm), List.set_comm _ _ (fun q => n1 q.symm), List.set_set]
      exact fin _
   ·cases e
  ·cases e
 ·cases e
end Go.Proofs.YtcncpbcbedfakaaGreat
end
section
namespace Go.Proofs.YtcncpbcbedfakaaGreat
section
variable {la lb : List Hd} {va vb : List Int} {da db : Dots}
noncomputable def kpL (lb : List Hd) (vb : List Int) (db : Dots) (l : List Hd) : List Hd := l.filter fun x => decide ((Z0v lb x.1).2 = true ∨ ¬ (zEL vb db = 0 ∧ ZvJ vb db x.1))
theorem YsC (lb : List Hd) (vb : List Int) (db : Dots) {l : List Hd} {i : Nat} (h : i < l.length) : kpL lb vb db (l.take (i + 1)) = kpL lb vb db (l.take i) ++ (if (Z0v lb (l.getD i Kd6.d).1).2 = true ∨ ¬ (zEL vb db = 0 ∧ ZvJ vb db (l.getD i Kd6.d).1) then [l.getD i Kd6.d] else []) := by
 unfold kpL
 rw [List.take_succ_eq_append_getElem h, List.filter_append, List.getD_eq_getElem?_getD, List.getElem?_eq_getElem h]
 simp only [Option.getD_some, List.filter_cons, List.filter_nil, decide_eq_true_eq]
theorem JXD (lb : List Hd) (vb : List Int) (db : Dots) (l : List Hd) (i : Nat) : (kpL lb vb db (l.take i)).length ≤ i := by
 unfold kpL
 exact Nat.le_trans (List.length_filter_le _ _) (by rw [List.length_take]; omega)
noncomputable def lyL (va : List Int) (da : Dots) (c : List Hd) (l : List Hd) : List Hd := l.foldl (fun m y => if zEL va da = 0 ∧ ZvJ va da y.1 then m else layG XSb m y) c
theorem Q8o (va : List Int) (da : Dots) (c : List Hd) {l : List Hd} {i : Nat} (h : i < l.length) : lyL va da c (l.take (i + 1)) = if zEL va da = 0 ∧ ZvJ va da (l.getD i Kd6.d).1 then lyL va da c (l.take i) else layG XSb (lyL va da c (l.take i)) (l.getD i Kd6.d) := by
 unfold lyL
 rw [List.take_succ_eq_append_getElem h, List.foldl_append, List.getD_eq_getElem?_getD, List.getElem?_eq_getElem h]
 rfl
theorem zOU (va : List Int) (da : Dots) (c : List Hd) : ∀ l : List Hd, (lyL va da c l).length ≤ c.length + l.length := by
 intro l
 unfold lyL
 induction l generalizing c with
 | nil => simp
 | cons y l ih =>
  rw [List.foldl_cons]
  refine Nat.le_trans (ih _) ?_
  split
  ·simp only [List.length_cons]; omega
  ·rw [K8p, List.length_cons]; omega
def zq2 (lb : List Hd) (x : Hd) : Prop := (Z0v lb x.1).2 = true ∧ (Z0v lb x.1).1 ≠ x.2
theorem JwU {x : Hd} (h : (Z0v lb x.1).2 = true) : (x.1, (Z0v lb x.1).1) ∈ lb := by
 unfold Z0v at h ⊢
 cases e : lb.find? (fun y => decide (y.1 = x.1)) with
 | none => rw [e] at h; cases h
 | some y =>
  have h1 := List.find?_some e
  have h2 := List.mem_of_find?_eq_some e
  rw [decide_eq_true_eq] at h1
  simp only
  rw [← h1]
  exact h2
theorem Q8b {x y : Hd} (hy : y ∈ lb) (e : y.1 = x.1) : (Z0v lb x.1).2 = true := by
 unfold Z0v
 cases q : lb.find? (fun y => decide (y.1 = x.1)) with
 | none => exact absurd (List.find?_eq_none.1 q y hy) (by simp [e])
 | some y => rfl
theorem Yu5 (b : RG lb vb db) : agreeP la lb ↔ ∀ x ∈ la, ¬ zq2 lb x := by
 constructor
 ·rintro g x hx ⟨c1, c2⟩
  have := g x hx _ (JwU c1) rfl
  exact c2 this.symm
 ·intro h x hx y hy e
  have c1 := Q8b hy e.symm
  have c2 : (Z0v lb x.1).1 = x.2 := Decidable.not_not.1 fun q => h x hx ⟨c1, q⟩
  have := b.one (JwU c1) hy e
  rw [← this]
  exact c2.symm
theorem YOb (a : RG la va da) (b : RG lb vb db) (g : agreeP la lb) : ∀ i, i ≤ lb.length → (lyL va da (kpL lb vb db la) (lb.take i)).Pairwise XSb ∧ ∀ x, x ∈ lyL va da (kpL lb vb db la) (lb.take i) ↔ x ∈ kpL lb vb db la ∨ (x ∈ lb.take i ∧ ¬ inC va da x.1)
 | 0, _ => ⟨a.rise.filter _, fun x => by simp [lyL]⟩
 | i + 1, hi => by
  have hlt : i < lb.length := hi
  obtain ⟨h1, h2⟩ := YOb a b g i (by omega)
  have hm : ∀ x, x ∈ lb.take (i + 1) ↔ x ∈ lb.take i ∨ x = lb.getD i Kd6.d := fun x => by
   rw [List.take_succ_eq_append_getElem hlt, List.mem_append, List.mem_singleton, List.getD_eq_getElem?_getD, List.getElem?_eq_getElem hlt]
   rfl
  have ck := a.nf.check a.len
  have hc : (zEL va da = 0 ∧ ZvJ va da (lb.getD i Kd6.d).1) ↔ inC va da (lb.getD i Kd6.d).1 := by rw [qEQ a.nf.rg]; exact ⟨fun q => q.2, fun q => ⟨ck, q⟩⟩
  rw [Q8o va da _ hlt]
  by_cases hp : inC va da (lb.getD i Kd6.d).1
  ·rw [if_pos (hc.2 hp)]
   refine ⟨h1, fun x => ?_⟩
   rw [h2, hm]
   constructor
   ·rintro (q | ⟨q1, q2⟩)
    ·exact .inl q
    ·exact .inr ⟨.inl q1, q2⟩
   ·rintro (q | ⟨q1 | rfl, q2⟩)
    ·exact .inl q
    ·exact .inr ⟨q1, q2⟩
    ·exact absurd hp q2
  ·rw [if_neg fun q => hp (hc.1 q)]
   refine ⟨q3L qx1 h1 fun y hy => Qae fun e => ?_, fun x => ?_⟩
   ·rcases (h2 y).1 hy with q | ⟨q, _⟩
    ·have := a.sn y (List.mem_filter.1 q).1
     rw [e] at this
     exact hp this
    ·obtain ⟨k, hk, rfl⟩ := List.getElem_of_mem q
     rw [List.length_take] at hk
     rw [List.getElem_take] at e
     have := (List.pairwise_iff_getElem.1 b.rise) k i (by omega) hlt (by omega)
     rw [List.getD_eq_getElem?_getD, List.getElem?_eq_getElem hlt] at e
     unfold XSb at this
     rw [e] at this
     exact JXa _ this
   ·rw [X4W, h2, hm]
    constructor
    ·rintro (rfl | q | ⟨q1, q2⟩)
     ·exact .inr ⟨.inr rfl, hp⟩
     ·exact .inl q
     ·exact .inr ⟨.inl q1, q2⟩
    ·rintro (q | ⟨q1 | rfl, q2⟩)
     ·exact .inr (.inl q)
     ·exact .inr (.inr ⟨q1, q2⟩)
     ·exact .inl rfl
theorem Jn8 (a : RG la va da) (b : RG lb vb db) (g : agreeP la lb) : lyL va da (kpL lb vb db la) lb = jnL la lb va vb da db := by
 obtain ⟨h1, h2⟩ := YOb a b g lb.length (Nat.le_refl _)
 rw [List.take_length] at h1 h2
 refine zXp a b h1 fun x => ?_
 have ck := b.nf.check b.len
 have hk : x ∈ kpL lb vb db la ↔ x ∈ la ∧ ((Z0v lb x.1).2 = true ∨ ¬ inC vb db x.1) := by
  unfold kpL
  rw [List.mem_filter, decide_eq_true_eq, qEQ b.nf.rg]
  exact and_congr_right fun _ => or_congr Iff.rfl (not_congr ⟨fun q => q.2, fun q => ⟨ck, q⟩⟩)
 rw [h2, hk, Ql1 g]
 constructor
 ·rintro (⟨q, q1 | q2⟩ | q)
  ·refine .inl ⟨q, ?_⟩
   have h3 := JwU q1
   have h4 : x.2 = (Z0v lb x.1).1 := g x q _ h3 rfl
   rw [← h4] at h3
   exact h3
  ·exact .inr (.inl ⟨q, q2⟩)
  ·exact .inr (.inr q)
 ·rintro (⟨q1, q2⟩ | q | q)
  ·exact .inl ⟨q1, .inl (Q8b q2 rfl)⟩
  ·exact .inl ⟨q.1, .inr q.2⟩
  ·exact .inr q
end
end Go.Proofs.YtcncpbcbedfakaaGreat
end
section
namespace Go.Proofs.YtcncpbcbedfakaaGreat
set_option maxRecDepth 100000
set_option maxHeartbeats 4000000
open Classical in
noncomputable def ZDM : List AV → List AB → Option (AV × List AB)
 | [.ag [l, s, t], .ag [l', s', t']], h => (getS Kd6 h l).bind fun hs => (getS intR h s).bind fun v => (getS dotR h t).bind fun ds => (getS Kd6 h l').bind fun hs' => (getS intR h s').bind fun v' => (getS dotR h t').bind fun ds' =>
   if hs.length ≤ 100000 ∧ hs'.length ≤ 100000 then
    if QeQ hs v ds ≠ 0 then some (.tu [.ag [.ns, .ns, .ns], .i .i64 (QeQ hs v ds)], h)
    else if QeQ hs' v' ds' ≠ 0 then some (.tu [.ag [.ns, .ns, .ns], .i .i64 (QeQ hs' v' ds')], h)
    else if ¬ agreeP hs hs' then some (.tu [.ag [.ns, .ns, .ns], .i .i64 9], h)
    else if (fmO (YLg v v' 16) (ds ++ ds')).2.length ≤ 4096 then some (.tu [.ag [rsl Kd6 h.length (jnL hs hs' v v' ds ds'), .sl (h.length + 1) 0 (topI (fmR (YLg v v' 16) (layR (ds ++ ds'))).1 16) 16 none, rsl dotR (h.length + 2) (fmR (YLg v v' 16) (layR (ds ++ ds'))).2], .i .i64 0], h ++ [resB Kd6 true (jnL hs hs' v v' ds ds'), .blk true true (intR.cells (fmR (YLg v v' 16) (layR (ds ++ ds'))).1), resB dotR true (fmR (YLg v v' 16) (layR (ds ++ ds'))).2])
    else none
   else none
 | _, _ => none
theorem zvb {h : List AB} (hz : h.map AB.freeze = h) {l s t l' s' t' : AV} {hs hs' : List Hd} {xs xs' : List Int} {ds ds' : Dots} (hl : Rd Kd6 h l hs) (hv : Rd intR h s xs) (hd : Rd dotR h t ds) (hl' : Rd Kd6 h l' hs') (hv' : Rd intR h s' xs') (hd' : Rd dotR h t' ds') (hL : hs.length ≤ 100000 ∧ hs'.length ≤ 100000) (v : AV) (h' : List AB) (e : ZDM [.ag [l, s, t], .ag [l', s', t']] h = some (v, h')) :
  FnAt Tryz.prog 13 [.ag [l, s, t], .ag [l', s', t']] h v h' := by
 simp only [ZDM, hl.get, hv.get, hd.get, hl'.get, hv'.get, hd'.get, Option.bind_some] at e
 rw [if_pos hL] at e
 refine FnAt.run (by kernel_rfl) (T := ⟨[⟨28, Kb9, fun _ => []⟩, ⟨51, ztc, fun _ => []⟩, ⟨52, ZL1, fun _ => []⟩, ⟨53, JEH, fun _ => []⟩, ⟨54, KVl, fun _ => []⟩], []⟩) ⟨⟨z3s, YEP, YQq, X5Y, zOx, trivial⟩, trivial⟩ Tryz.func13 sw13 fun ho hh => ?_
 simp only [XDC, Y8A, Bool.and_eq_true] at ho
 have f1 := hl.fx ho.1.1 (sz := 34) rfl
 have f2 := hv.fx ho.1.2.1 (sz := 1) rfl
 have f3 := hd.fx ho.1.2.2.1 (sz := 2) rfl
 have f4 := hl'.fx ho.2.1.1 (sz := 34) rfl
 have f5 := hv'.fx ho.2.1.2.1 (sz := 1) rfl
 have f6 := hd'.fx ho.2.1.2.2.1 (sz := 2) rfl
 have f7 := Kca hl
 have f8 := Kca hl'
 have mm : ∀ v : AV, v.ok (fun i => decide (i < h.length)) = true → ∀ c, v.ok (fun i => decide (i < h.length + c)) = true := fun v q c => AV.ok_mono (fun i q => by simp only [decide_eq_true_eq] at q ⊢; omega) v q
 have fo1 := mm _ ho.1.1
 have fo2 := mm _ ho.1.2.1
 have fo3 := mm _ ho.1.2.2.1
 have fo4 := mm _ ho.2.1.1
 have fo5 := mm _ ho.2.1.2.1
 have fo6 := mm _ ho.2.1.2.2.1
 have rr : ∀ v : AV, v.ok (fun i => decide (i < h.length)) = true → ∀ sel, Wk (v.ren (selN h.length sel)) v := fun v q sel => Wk.ren (fun i hi => ZiG hi) q
 have fr1 := rr _ ho.1.1
 have fr2 := rr _ ho.1.2.1
 have fr3 := rr _ ho.1.2.2.1
 have fr4 := rr _ ho.2.1.1
 have fr5 := rr _ ho.2.1.2.1
 have fr6 := rr _ ho.2.1.2.2.1
 unfold w13
 by_cases c0 : QeQ hs xs ds = 0
 case neg =>
  rw [if_pos c0] at e
  cases e
  have c0' := eq_false c0
  simp only [QhW, YqD, z18, KHF, Xq8, if_true, if_false, ↓reduceIte, Nat.reduceAdd, Nat.reduceSub, Nat.reduceLeDiff, Nat.reduceEqDiff, Nat.reduceMul, Nat.reduceLT, Int.reduceLT, Int.reduceLE, Int.reduceEq, CO.tmps, Opd.tmps, optT, Nat.reducePow, Nat.reduceDiv, Nat.reduceMod, f1, f2, f3, f4, f5, f6, Kb9, c0', not_false_eq_true, decide_true, XUt hh, Ygn hz, QqV hz, qNQ hz]
  exact Bt.drop _ hh rfl (by simp only [Ztp, XDC, Xrx, Y8A, qn9, ok_i, Bool.and_true])
 rw [if_neg (not_not_intro c0)] at e
 by_cases c1 : QeQ hs' xs' ds' = 0
 case neg =>
  rw [if_pos c1] at e
  cases e
  have c1' := eq_false c1
  simp only [QhW, YqD, z18, KHF, Xq8, if_true, if_false, ↓reduceIte, Nat.reduceAdd, Nat.reduceSub, Nat.reduceLeDiff, Nat.reduceEqDiff, Nat.reduceMul, Nat.reduceLT, Int.reduceLT, Int.reduceLE, Int.reduceEq, CO.tmps, Opd.tmps, optT, Nat.reducePow, Nat.reduceDiv, Nat.reduceMod, f1, f2, f3, f4, f5, f6, Kb9, c0, c1', not_false_eq_true, decide_true, XUt hh, Ygn hz, QqV hz, qNQ hz]
  exact Bt.drop _ hh rfl (by simp only [Ztp, XDC, Xrx, Y8A, qn9, ok_i, Bool.and_true])
 rw [if_neg (not_not_intro c1)] at e
 have ra := XlN.1 c0
 have rb := XlN.1 c1
 have k0 := (Zvz c0).1
 have k1 := (Zvz c1).1
 simp only [QhW, YqD, z18, KHF, Xq8, if_true, if_false, ↓reduceIte, Nat.reduceAdd, Nat.reduceSub, Nat.reduceLeDiff, Nat.reduceEqDiff, Nat.reduceMul, Nat.reduceLT, Int.reduceLT, Int.reduceLE, Int.reduceEq, CO.tmps, Opd.tmps, optT, Nat.reducePow, Nat.reduceDiv, Nat.reduceMod, f1, f2, f3, f4, f5, f6, Kb9, c0, c1, ne_eq, not_true_eq_false, decide_false, XUt hh, Ygn hz, QqV hz, qNQ hz]
 refine q2X (S := Nat) (fun i => hs.length - i) (fun i => tp 2 ++ [.p (h.length + 0) 0, .p (h.length + 1) 0, .p (h.length + 2) 0] ++ tp 3 ++ [apS Kd6 (h.length + 3) (kpL hs' xs' ds' (hs.take i)), .i .i64 i] ++ tp 100) (fun i => h ++ [.blk false true [l, s, t], .blk false true [l', s', t'], .blk false true [.ns, .ns, .ns], resB Kd6 true (kpL hs' xs' ds' (hs.take i))]) (fun i => i ≤ hs.length ∧ ∀ k, k < i → ¬ zq2 hs' (hs.getD k Kd6.d)) 0 ⟨Nat.zero_le _, fun k hk => by omega⟩ ?_ fun i hi => ?_
 ·show Bt _ _ _ _ _ (h ++ ([.blk false true [l, s, t], .blk false true [l', s', t'], .blk false true [.ns, .ns, .ns]] ++ List.replicate 1 .dead))
  rw [← List.append_assoc]
  refine Bt.trans (Bt.wk ?_) (Bt.pad _ _ 1)
  rw [show apS Kd6 (h.length + 3) (kpL hs' xs' ds' (hs.take 0)) = .ns from rfl]
  simp only [z18, Xq8, if_true, if_false, reduceIte, Nat.reduceAdd, Nat.reduceSub, Nat.reduceLeDiff, Nat.reduceEqDiff, Nat.reduceMul, Nat.reduceLT, Int.reduceLT, Int.reduceLE, Int.reduceEq]
 ·obtain ⟨hi, hnc⟩ := hi
  have ln := JXD hs' xs' ds' hs i
  by_cases g1 : i < hs.length
  ·have g1' := eq_true g1
   have e1 : IntKind.i64.wrap ((i : Int) + 1) = ((i + 1 : Nat) : Int) := ZWo (by unfold In64; omega)
   have hst := YsC hs' xs' ds' g1
   have hmem : hs.getD i Kd6.d ∈ hs := by
    rw [List.getD_eq_getElem?_getD, List.getElem?_eq_getElem g1]
    exact List.getElem_mem g1
   obtain ⟨X, hX⟩ : ∃ X, hs.getD i Kd6.d = X := ⟨_, rfl⟩
   have t2 : List.take 2 (Kd6.f X) = [.i .i64 X.1.1, .i .i64 X.1.2] := by
    have := qMb X
    rwa [List.drop_zero, zBW] at this
   rw [hX] at hst hmem
   obtain ⟨F, hF⟩ : ∃ F, Z0v hs' X.1 = F := ⟨_, rfl⟩
   have hF' : Z0v hs' (X.1.1, X.1.2) = F := hF
   rw [hF] at hst
   obtain ⟨j, is⟩ := F
   by_cases his : is = true
   ·subst his
    by_cases hj : j = X.2
    ·have hj' := eq_true hj
     have hnx : ∀ k, k < i + 1 → ¬ zq2 hs' (hs.getD k Kd6.d) := fun k hk => by
      rcases Nat.lt_or_ge k i with q | q
      ·exact hnc k q
      ·obtain rfl : k = i := by omega
       rw [hX]
       unfold zq2
       rw [hF]
       exact fun w => w.2 hj
     rw [if_pos (.inl rfl)] at hst
     by_cases hB : kpL hs' xs' ds' (hs.take i) = []
     ·rw [hB, List.nil_append] at hst
      have z3 : (1 * 48 ≤ 140737488355328 ∧ 1 ≤ maxLen) = True := eq_true ⟨by decide, by unfold maxLen; omega⟩
      simp only [hB, q8J, z18, KHF, Xq8, if_true, if_false, ↓reduceIte, Nat.reduceAdd, Nat.reduceSub, Nat.reduceLeDiff, Nat.reduceEqDiff, Nat.reduceMul, Nat.reduceLT, Int.reduceLT, Int.reduceLE, Int.reduceEq, CO.tmps, Opd.tmps, optT, Nat.reducePow, Nat.reduceDiv, Nat.reduceMod, f1, f2, f3, f4, f5, f6, g1', hX, t2, qyZ, hF', ztc, ZL1, k1, e1, QTL, zHG, JiT, J46, Q0C, QVQ, Qk3, Qa4, List.length_cons, List.length_nil, XUt hh, Ygn hz, QqV hz, qNQ hz, z3, hj']
      refine ⟨i + 1, ⟨g1, hnx⟩, by dsimp only; omega, ?_⟩
      dsimp only
      rw [hst]
      simp only [ZNS, QE9]
      exact Bt.sel [0, 1, 2, 7] hh (by decide) (by simp only [KlE, FrSel, BlkSel, AV.ren, renL, AV.ok, okL, Option.some.injEq, exists_eq_left', List.length_cons, List.length_nil, Nat.reduceAdd, Nat.reduceLT, reduceCtorEq, implies_true, exists_eq', fo1, fo2, fo3, fo4, fo5, fo6, fr1, fr2, fr3, fr4, fr5, fr6]) (by simp only [KlE, FrSel, BlkSel, AV.ren, renL, AV.ok, okL, Option.some.injEq, exists_eq_left', List.length_cons, List.length_nil, Nat.reduceAdd, Nat.reduceLT, reduceCtorEq, implies_true, exists_eq', fo1, fo2, fo3, fo4, fo5, fo6, fr1, fr2, fr3, fr4, fr5, fr6, zLU])
     ·have hlB : (kpL hs' xs' ds' (hs.take i)).length ≠ 0 := fun q => hB (List.eq_nil_of_length_eq_zero q)
      have gr : ∀ id, apS Kd6 id (kpL hs' xs' ds' (hs.take i)) = rsl Kd6 id (kpL hs' xs' ds' (hs.take i)) := fun id => YM2 _ hlB
      have fa := fun L k ys hb => q9y (h := h) (p := h.length) rfl (r := Kd6) (sz := 34) rfl L k (kpL hs' xs' ds' (hs.take i)) 48 1 ys hlB hb (by decide) (by omega) (by unfold maxLen; omega)
      simp only [gr, z18, KHF, Xq8, if_true, if_false, ↓reduceIte, Nat.reduceAdd, Nat.reduceSub, Nat.reduceLeDiff, Nat.reduceEqDiff, Nat.reduceMul, Nat.reduceLT, Int.reduceLT, Int.reduceLE, Int.reduceEq, CO.tmps, Opd.tmps, optT, Nat.reducePow, Nat.reduceDiv, Nat.reduceMod, f1, f2, f3, f4, f5, f6, g1', hX, t2, qyZ, hF', ztc, ZL1, k1, e1, QTL, zHG, JiT, J46, Q0C, QVQ, Qk3, Qa4, List.length_cons, List.length_nil, XUt hh, Ygn hz, QqV hz, qNQ hz, fa, hj']
      refine ⟨i + 1, ⟨g1, hnx⟩, by dsimp only; omega, ?_⟩
      dsimp only
      rw [hst]
      simp only [ZTM, YEn]
      exact Bt.sel [0, 1, 2, 7] hh (by decide) (by simp only [KlE, FrSel, BlkSel, AV.ren, renL, AV.ok, okL, Option.some.injEq, exists_eq_left', List.length_cons, List.length_nil, Nat.reduceAdd, Nat.reduceLT, reduceCtorEq, implies_true, exists_eq', fo1, fo2, fo3, fo4, fo5, fo6, fr1, fr2, fr3, fr4, fr5, fr6]) (by simp only [KlE, FrSel, BlkSel, AV.ren, renL, AV.ok, okL, Option.some.injEq, exists_eq_left', List.length_cons, List.length_nil, Nat.reduceAdd, Nat.reduceLT, reduceCtorEq, implies_true, exists_eq', fo1, fo2, fo3, fo4, fo5, fo6, fr1, fr2, fr3, fr4, fr5, fr6, zLU])
    ·have hj' := eq_false hj
     have hna : ¬ agreeP hs hs' := fun g => (Yu5 rb).1 g X hmem (by unfold zq2; rw [hF]; exact ⟨rfl, hj⟩)
     rw [if_pos hna] at e
     cases e
     simp only [z18, KHF, Xq8, if_true, if_false, ↓reduceIte, Nat.reduceAdd, Nat.reduceSub, Nat.reduceLeDiff, Nat.reduceEqDiff, Nat.reduceMul, Nat.reduceLT, Int.reduceLT, Int.reduceLE, Int.reduceEq, CO.tmps, Opd.tmps, optT, Nat.reducePow, Nat.reduceDiv, Nat.reduceMod, f1, f2, f3, f4, f5, f6, g1', hX, t2, qyZ, hF', ztc, ZL1, k1, e1, QTL, zHG, JiT, J46, Q0C, QVQ, Qk3, Qa4, List.length_cons, List.length_nil, XUt hh, Ygn hz, QqV hz, qNQ hz, hj']
     exact Bt.drop _ hh rfl (by simp only [Ztp, XDC, Xrx, Y8A, qn9, ok_i, Bool.and_true])
   ·have his' : is = false := by cases is <;> simp_all
    subst his'
    have hnx : ∀ k, k < i + 1 → ¬ zq2 hs' (hs.getD k Kd6.d) := fun k hk => by
     rcases Nat.lt_or_ge k i with q | q
     ·exact hnc k q
     ·obtain rfl : k = i := by omega
      rw [hX]
      unfold zq2
      rw [hF]
      exact fun w => by cases w.1
    by_cases hp : zEL xs' ds' = 0 ∧ ZvJ xs' ds' X.1
    ·have hp' : ZvJ xs' ds' (X.1.1, X.1.2) = True := eq_true hp.2
     rw [if_neg (fun w => w.elim (fun q => by cases q) fun q => q hp), List.append_nil] at hst
     simp only [z18, KHF, Xq8, if_true, if_false, ↓reduceIte, Nat.reduceAdd, Nat.reduceSub, Nat.reduceLeDiff, Nat.reduceEqDiff, Nat.reduceMul, Nat.reduceLT, Int.reduceLT, Int.reduceLE, Int.reduceEq, CO.tmps, Opd.tmps, optT, Nat.reducePow, Nat.reduceDiv, Nat.reduceMod, f1, f2, f3, f4, f5, f6, g1', hX, t2, qyZ, hF', ztc, ZL1, k1, e1, QTL, zHG, JiT, J46, Q0C, QVQ, Qk3, Qa4, List.length_cons, List.length_nil, XUt hh, Ygn hz, QqV hz, qNQ hz, hp']
     refine ⟨i + 1, ⟨g1, hnx⟩, by dsimp only; omega, ?_⟩
     dsimp only
     rw [hst]
     have fa0 : (apS Kd6 (h.length + 3) (kpL hs' xs' ds' (hs.take i))).ok (fun i => decide (i < h.length + 4)) = true := Ywb _ _ _ (by simp)
     exact Bt.sel [0, 1, 2, 3] hh (by decide) (by simp only [KlE, FrSel, BlkSel, AV.ren, renL, AV.ok, okL, Option.some.injEq, exists_eq_left', List.length_cons, List.length_nil, Nat.reduceAdd, Nat.reduceLT, reduceCtorEq, implies_true, exists_eq', fa0, fo1, fo2, fo3, fo4, fo5, fo6, fr1, fr2, fr3, fr4, fr5, fr6]) (by simp only [KlE, FrSel, BlkSel, AV.ren, renL, AV.ok, okL, Option.some.injEq, exists_eq_left', List.length_cons, List.length_nil, Nat.reduceAdd, Nat.reduceLT, reduceCtorEq, implies_true, exists_eq', fa0, Z2D, fo1, fo2, fo3, fo4, fo5, fo6, fr1, fr2, fr3, fr4, fr5, fr6, zLU])
    ·have hp' : ZvJ xs' ds' (X.1.1, X.1.2) = False := eq_false fun q => hp ⟨k1, q⟩
     rw [if_pos (.inr hp)] at hst
     by_cases hB : kpL hs' xs' ds' (hs.take i) = []
     ·rw [hB, List.nil_append] at hst
      have z3 : (1 * 48 ≤ 140737488355328 ∧ 1 ≤ maxLen) = True := eq_true ⟨by decide, by unfold maxLen; omega⟩
      simp only [hB, q8J, z18, KHF, Xq8, if_true, if_false, ↓reduceIte, Nat.reduceAdd, Nat.reduceSub, Nat.reduceLeDiff, Nat.reduceEqDiff, Nat.reduceMul, Nat.reduceLT, Int.reduceLT, Int.reduceLE, Int.reduceEq, CO.tmps, Opd.tmps, optT, Nat.reducePow, Nat.reduceDiv, Nat.reduceMod, f1, f2, f3, f4, f5, f6, g1', hX, t2, qyZ, hF', ztc, ZL1, k1, e1, QTL, zHG, JiT, J46, Q0C, QVQ, Qk3, Qa4, List.length_cons, List.length_nil, XUt hh, Ygn hz, QqV hz, qNQ hz, z3, hp']
      refine ⟨i + 1, ⟨g1, hnx⟩, by dsimp only; omega, ?_⟩
      dsimp only
      rw [hst]
      simp only [ZNS, QE9]
      exact Bt.sel [0, 1, 2, 7] hh (by decide) (by simp only [KlE, FrSel, BlkSel, AV.ren, renL, AV.ok, okL, Option.some.injEq, exists_eq_left', List.length_cons, List.length_nil, Nat.reduceAdd, Nat.reduceLT, reduceCtorEq, implies_true, exists_eq', fo1, fo2, fo3, fo4, fo5, fo6, fr1, fr2, fr3, fr4, fr5, fr6]) (by simp only [KlE, FrSel, BlkSel, AV.ren, renL, AV.ok, okL, Option.some.injEq, exists_eq_left', List.length_cons, List.length_nil, Nat.reduceAdd, Nat.reduceLT, reduceCtorEq, implies_true, exists_eq', fo1, fo2, fo3, fo4, fo5, fo6, fr1, fr2, fr3, fr4, fr5, fr6, zLU])
     ·have hlB : (kpL hs' xs' ds' (hs.take i)).length ≠ 0 := fun q => hB (List.eq_nil_of_length_eq_zero q)
      have gr : ∀ id, apS Kd6 id (kpL hs' xs' ds' (hs.take i)) = rsl Kd6 id (kpL hs' xs' ds' (hs.take i)) := fun id => YM2 _ hlB
      have fa := fun L k ys hb => q9y (h := h) (p := h.length) rfl (r := Kd6) (sz := 34) rfl L k (kpL hs' xs' ds' (hs.take i)) 48 1 ys hlB hb (by decide) (by omega) (by unfold maxLen; omega)
      simp only [gr, z18, KHF, Xq8, if_true, if_false, ↓reduceIte, Nat.reduceAdd, Nat.reduceSub, Nat.reduceLeDiff, Nat.reduceEqDiff, Nat.reduceMul, Nat.reduceLT, Int.reduceLT, Int.reduceLE, Int.reduceEq, CO.tmps, Opd.tmps, optT, Nat.reducePow, Nat.reduceDiv, Nat.reduceMod, f1, f2, f3, f4, f5, f6, g1', hX, t2, qyZ, hF', ztc, ZL1, k1, e1, QTL, zHG, JiT, J46, Q0C, QVQ, Qk3, Qa4, List.length_cons, List.length_nil, XUt hh, Ygn hz, QqV hz, qNQ hz, fa, hp']
      refine ⟨i + 1, ⟨g1, hnx⟩, by dsimp only; omega, ?_⟩
      dsimp only
      rw [hst]
      simp only [ZTM, YEn]
      exact Bt.sel [0, 1, 2, 7] hh (by decide) (by simp only [KlE, FrSel, BlkSel, AV.ren, renL, AV.ok, okL, Option.some.injEq, exists_eq_left', List.length_cons, List.length_nil, Nat.reduceAdd, Nat.reduceLT, reduceCtorEq, implies_true, exists_eq', fo1, fo2, fo3, fo4, fo5, fo6, fr1, fr2, fr3, fr4, fr5, fr6]) (by simp only [KlE, FrSel, BlkSel, AV.ren, renL, AV.ok, okL, Option.some.injEq, exists_eq_left', List.length_cons, List.length_nil, Nat.reduceAdd, Nat.reduceLT, reduceCtorEq, implies_true, exists_eq', fo1, fo2, fo3, fo4, fo5, fo6, fr1, fr2, fr3, fr4, fr5, fr6, zLU])
  ·obtain rfl : i = hs.length := by omega
   have g1' := eq_false g1
   have hag : agreeP hs hs' := (Yu5 rb).2 fun x hx => by
    obtain ⟨k, hk, rfl⟩ := List.getElem_of_mem hx
    have := hnc k hk
    rwa [List.getD_eq_getElem?_getD, List.getElem?_eq_getElem hk] at this
   rw [if_neg (not_not_intro hag)] at e
   simp only [List.take_length]
   clear hnc hi ln
   have lK : (kpL hs' xs' ds' hs).length ≤ 100000 := by
    have := JXD hs' xs' ds' hs hs.length
    rw [List.take_length] at this
    omega
   have hJ := Jn8 ra rb hag
   simp only [z18, KHF, Xq8, if_true, if_false, ↓reduceIte, Nat.reduceAdd, Nat.reduceSub, Nat.reduceLeDiff, Nat.reduceEqDiff, Nat.reduceMul, Nat.reduceLT, Int.reduceLT, Int.reduceLE, Int.reduceEq, CO.tmps, Opd.tmps, optT, Nat.reducePow, Nat.reduceDiv, Nat.reduceMod, f1, f2, f3, g1']
   refine q2X (S := Nat) (fun i => hs'.length - i) (fun i => tp 2 ++ [.p (h.length + 0) 0, .p (h.length + 1) 0, .p (h.length + 2) 0] ++ tp 3 ++ [apS Kd6 (h.length + 3) (lyL xs ds (kpL hs' xs' ds' hs) (hs'.take i))] ++ tp 4 ++ [.i .i64 i] ++ tp 96) (fun i => h ++ [.blk false true [l, s, t], .blk false true [l', s', t'], .blk false true [.ns, .ns, .ns], resB Kd6 true (lyL xs ds (kpL hs' xs' ds' hs) (hs'.take i))]) (fun i => i ≤ hs'.length) 0 (Nat.zero_le _) ?_ fun i hi => ?_
   ·rw [show lyL xs ds (kpL hs' xs' ds' hs) (hs'.take 0) = kpL hs' xs' ds' hs from rfl]
    exact Bt.wk (by simp only [z18, Xq8, if_true, if_false, reduceIte, Nat.reduceAdd, Nat.reduceSub, Nat.reduceLeDiff, Nat.reduceEqDiff, Nat.reduceMul, Nat.reduceLT, Int.reduceLT, Int.reduceLE, Int.reduceEq])
   ·have ln := zOU xs ds (kpL hs' xs' ds' hs) (hs'.take i)
    have ln2 : (hs'.take i).length ≤ i := by rw [List.length_take]; omega
    by_cases g2 : i < hs'.length
    ·have g2' := eq_true g2
     have e1 : IntKind.i64.wrap ((i : Int) + 1) = ((i + 1 : Nat) : Int) := ZWo (by unfold In64; omega)
     have hst := Q8o xs ds (kpL hs' xs' ds' hs) g2
     obtain ⟨C, hC⟩ : ∃ C, lyL xs ds (kpL hs' xs' ds' hs) (hs'.take i) = C := ⟨_, rfl⟩
     rw [hC] at hst ln
     have ga := fun (L : List AB) k e => zxU (r := Kd6) (h := h) L k C e (by unfold maxLen; omega)
     have lC : (C.length ≤ 1000000) = True := eq_true (by omega)
     by_cases hp : ZvJ xs ds (hs'.getD i Kd6.d).1
     ·have hp' : ZvJ xs ds ((hs'.getD i Kd6.d).1.1, (hs'.getD i Kd6.d).1.2) = True := eq_true hp
      rw [if_pos ⟨k0, hp⟩] at hst
      simp only [hC, z18, KHF, Xq8, if_true, if_false, ↓reduceIte, Nat.reduceAdd, Nat.reduceSub, Nat.reduceLeDiff, Nat.reduceEqDiff, Nat.reduceMul, Nat.reduceLT, Int.reduceLT, Int.reduceLE, Int.reduceEq, CO.tmps, Opd.tmps, optT, Nat.reducePow, Nat.reduceDiv, Nat.reduceMod, f1, f2, f3, f4, f5, f6, f8, g2', ZL1, JEH, KVl, Ktb, k0, k1, ga, XUt hh, Ygn hz, QqV hz, qNQ hz, ne_eq, not_true_eq_false, not_false_eq_true, e1, lC, hp']
      refine ⟨i + 1, g2, by dsimp only; omega, ?_⟩
      dsimp only
      rw [hst]
      exact Bt.wk (by simp only [z18, Xq8, if_true, if_false, reduceIte, Nat.reduceAdd, Nat.reduceSub, Nat.reduceLeDiff, Nat.reduceEqDiff, Nat.reduceMul, Nat.reduceLT, Int.reduceLT, Int.reduceLE, Int.reduceEq])
     ·have hp' : ZvJ xs ds ((hs'.getD i Kd6.d).1.1, (hs'.getD i Kd6.d).1.2) = False := eq_false hp
      rw [if_neg (fun q => hp q.2)] at hst
      simp only [hC, z18, KHF, Xq8, if_true, if_false, ↓reduceIte, Nat.reduceAdd, Nat.reduceSub, Nat.reduceLeDiff, Nat.reduceEqDiff, Nat.reduceMul, Nat.reduceLT, Int.reduceLT, Int.reduceLE, Int.reduceEq, CO.tmps, Opd.tmps, optT, Nat.reducePow, Nat.reduceDiv, Nat.reduceMod, f1, f2, f3, f4, f5, f6, f8, g2', ZL1, JEH, KVl, Ktb, k0, k1, ga, XUt hh, Ygn hz, QqV hz, qNQ hz, ne_eq, not_true_eq_false, not_false_eq_true, e1, lC, hp']
      refine ⟨i + 1, g2, by dsimp only; omega, ?_⟩
      dsimp only
      rw [hst]
      have gr : ∀ id, apS Kd6 id (layG XSb C (hs'.getD i Kd6.d)) = rsl Kd6 id (layG XSb C (hs'.getD i Kd6.d)) := fun id => YM2 _ (by rw [K8p]; omega)
      simp only [gr]
      exact Bt.sel [0, 1, 2, 4] hh (by decide) (by simp only [KlE, FrSel, BlkSel, AV.ren, renL, AV.ok, okL, Option.some.injEq, exists_eq_left', List.length_cons, List.length_nil, Nat.reduceAdd, Nat.reduceLT, reduceCtorEq, implies_true, exists_eq', fo1, fo2, fo3, fo4, fo5, fo6, fr1, fr2, fr3, fr4, fr5, fr6]) (by simp only [KlE, FrSel, BlkSel, AV.ren, renL, AV.ok, okL, Option.some.injEq, exists_eq_left', List.length_cons, List.length_nil, Nat.reduceAdd, Nat.reduceLT, reduceCtorEq, implies_true, exists_eq', fo1, fo2, fo3, fo4, fo5, fo6, fr1, fr2, fr3, fr4, fr5, fr6, zLU])
    ·obtain rfl : i = hs'.length := by omega
     have g2' := eq_false g2
     simp only [List.take_length, hJ]
     split at e
     ·rename_i gg
      cases e
      have gg' := eq_true gg
      have ga := fun (L : List AB) k e => zxU (r := Kd6) (h := h) L k (jnL hs hs' xs xs' ds ds') e
      simp only [z18, KHF, Xq8, if_true, if_false, ↓reduceIte, Nat.reduceAdd, Nat.reduceSub, Nat.reduceLeDiff, Nat.reduceEqDiff, Nat.reduceMul, Nat.reduceLT, Int.reduceLT, Int.reduceLE, Int.reduceEq, CO.tmps, Opd.tmps, optT, Nat.reducePow, Nat.reduceDiv, Nat.reduceMod, f1, f2, f3, f4, f5, f6, f8, g2', ZL1, JEH, KVl, Ktb, k0, k1, XUt hh, Ygn hz, QqV hz, qNQ hz, ne_eq, not_true_eq_false, not_false_eq_true, gg']
      exact Bt.trans qAB (Bt.sel [3, 4, 5] hh (by decide) (by simp only [KlE, FrSel, BlkSel, AV.ren, renL, AV.ok, okL, Option.some.injEq, exists_eq_left', List.length_cons, List.length_nil, Nat.reduceAdd, Nat.reduceLT, reduceCtorEq, implies_true, exists_eq']) (by simp only [KlE, FrSel, BlkSel, AV.ren, renL, AV.ok, okL, Option.some.injEq, exists_eq_left', List.length_cons, List.length_nil, Nat.reduceAdd, Nat.reduceLT, reduceCtorEq, implies_true, exists_eq']))
     ·cases e
theorem Zjm : Spec Tryz.prog 13 ZDM := by
 intro args h v h' e
 unfold ZDM at e
 split at e
 ·rename_i l s t l' s' t'
  obtain ⟨hs, hl, e⟩ := zZA e
  obtain ⟨xs, hv, e⟩ := zZA e
  obtain ⟨ds, hd, e⟩ := zZA e
  obtain ⟨hs', hl', e⟩ := zZA e
  obtain ⟨xs', hv', e⟩ := zZA e
  obtain ⟨ds', hd', e⟩ := zZA e
  split at e
  ·rename_i hL
   split at e
   ·rename_i c
    cases e
    refine FnAt.c (FnAt.frz0 fun hz => zvb hz hl.frz hv.frz hd.frz hl'.frz hv'.frz hd'.frz hL _ _ ?_)
    simp only [ZDM, hl.frz.get, hv.frz.get, hd.frz.get, hl'.frz.get, hv'.frz.get, hd'.frz.get, Option.bind_some]
    rw [if_pos hL, if_pos c]
   ·rename_i c
    split at e
    ·rename_i c1
     cases e
     refine FnAt.c (FnAt.frz0 fun hz => zvb hz hl.frz hv.frz hd.frz hl'.frz hv'.frz hd'.frz hL _ _ ?_)
     simp only [ZDM, hl.frz.get, hv.frz.get, hd.frz.get, hl'.frz.get, hv'.frz.get, hd'.frz.get, Option.bind_some]
     rw [if_pos hL, if_neg c, if_pos c1]
    ·rename_i c1
     split at e
     ·rename_i g
      cases e
      refine FnAt.c (FnAt.frz0 fun hz => zvb hz hl.frz hv.frz hd.frz hl'.frz hv'.frz hd'.frz hL _ _ ?_)
      simp only [ZDM, hl.frz.get, hv.frz.get, hd.frz.get, hl'.frz.get, hv'.frz.get, hd'.frz.get, Option.bind_some]
      rw [if_pos hL, if_neg c, if_neg c1, if_pos g]
     ·rename_i g
      split at e
      ·rename_i g2
       cases e
       refine FnAt.c (FnAt.frz fun hz => zvb hz hl.frz hv.frz hd.frz hl'.frz hv'.frz hd'.frz hL _ _ ?_)
       simp only [ZDM, hl.frz.get, hv.frz.get, hd.frz.get, hl'.frz.get, hv'.frz.get, hd'.frz.get, Option.bind_some, List.length_map]
       rw [if_pos hL, if_neg c, if_neg c1, if_neg g, if_pos g2]
      ·cases e
  ·cases e
 ·cases e
end Go.Proofs.YtcncpbcbedfakaaGreat
end
