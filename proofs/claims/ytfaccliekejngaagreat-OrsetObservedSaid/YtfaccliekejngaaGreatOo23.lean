/- Part 23 of what the laws' proofs rest on. No condition. -/
import Derived.Test.YtfaccliekejngaaGreatOo22
set_option linter.all false
section
namespace Go.Proofs.YtfaccliekejngaaGreat
set_option maxRecDepth 100000
set_option maxHeartbeats 4000000
def XhJ : List AV → List AB → Option (AV × List AB)
 | [.i .i64 a, .i .i64 b], h => some (.ag [.i .i64 a, .i .i64 b], h)
 | _, _ => none
theorem YeL : Spec Tryz.prog 42 XhJ := by
 intro args h v h' e
 unfold XhJ at e
 split at e
 ·cases e
  refine FnAt.c (FnAt.run (by kernel_rfl) (T := ⟨[], []⟩) ⟨trivial, trivial⟩ Tryz.func42 sw42 fun ho hh => ?_)
  unfold w42
  simp only [XH8, QN9, X1r, zVq, simprocAttr]
  exact Bt.drop _ hh rfl (by simp only [ZVg, qMC, YI0, JAX, Yiy, ok_i, Bool.and_true])
 ·cases e
def qLW : List AV → List AB → Option (AV × List AB)
 | [.i .u8 n], h => if 0 ≤ n ∧ n < 256 then some (.ag (idR.f (dgB n)), h) else none
 | _, _ => none
theorem YJU : Spec Tryz.prog 43 qLW := by
 intro args h v h' e
 unfold qLW at e
 split at e
 ·rename_i n
  split at e
  ·rename_i hn
   cases e
   refine FnAt.c (FnAt.run (by kernel_rfl) (T := ⟨[], []⟩) ⟨trivial, trivial⟩ Tryz.func43 sw43 fun ho hh => ?_)
   unfold w43
   rw [z3t hn]
   simp only [XH8, QN9, X1r, zVq, simprocAttr]
   exact Bt.drop _ hh rfl (by simp only [ZVg, qMC, YI0, JAX, Yiy, ok_i, Bool.and_true])
  ·cases e
 ·cases e
def YK6 : List AV → List AB → Option (AV × List AB)
 | [.i .i64 a, .i .i64 b, .i .u8 n], h => if 0 ≤ n ∧ n < 256 then some (.ag (qjO.f ((a, b), dgB n)), h) else none
 | _, _ => none
theorem XMk : Spec Tryz.prog 41 YK6 := by
 intro args h v h' e
 unfold YK6 at e
 split at e
 ·rename_i a b n
  split at e
  ·rename_i hn
   cases e
   refine FnAt.c (FnAt.run (by kernel_rfl) (T := ⟨[⟨42, XhJ, fun _ => []⟩, ⟨43, qLW, fun _ => []⟩], []⟩) ⟨⟨YeL, YJU, trivial⟩, trivial⟩ Tryz.func41 sw41 fun ho hh => ?_)
   have hn' := eq_true hn
   have e0 := z3t hn
   unfold w41
   rw [YA0, e0]
   simp only [XH8, QN9, X1r, zVq, simprocAttr, XhJ, qLW, hn', e0]
   exact Bt.drop _ hh rfl (by simp only [ZVg, qMC, YI0, JAX, Yiy, ok_i, Bool.and_true])
  ·cases e
 ·cases e
def ZZH : List AV → List AB → Option (AV × List AB)
 | [v, l], h => if v.isSl = true ∧ l.isSl = true then some (.ag [l, v, .ns], h) else none
 | _, _ => none
theorem zDL : Spec Tryz.prog 40 ZZH := by
 intro args h v h' e
 unfold ZZH at e
 split at e
 ·rename_i v l
  split at e
  ·rename_i hs
   cases e
   refine FnAt.c (FnAt.run (by kernel_rfl) (T := ⟨[], []⟩) ⟨trivial, trivial⟩ Tryz.func40 sw40 fun ho hh => ?_)
   simp only [qMC, Bool.and_eq_true] at ho
   unfold w40
   simp only [XH8, QN9, X1r, zVq, simprocAttr, Qwl hs.1, Qwl hs.2, YCL hs.1, YCL hs.2, ZVo hs.1, ZVo hs.2]
   exact Bt.drop _ hh rfl (by simp only [qMC, YI0, JAX, Yiy, Bool.and_true, ho.1, ho.2.1, Bool.and_self])
  ·cases e
 ·cases e
def jnS (hs : List Hd) (v : List Int) (ds : Dots) (hs' : List Hd) (v' : List Int) (ds' : Dots) (hw : List Hd) (vw : List Int) (dw : Dots) : Prop :=
 Kq6 hs v ds = 0 ∧ Kq6 hs' v' ds' = 0 ∧ zwL hs hs' ∧ (zbr v v' ds ds').2.length ≤ 4096 ∧ jnL hs hs' v v' ds ds' = hw ∧ (zbr v v' ds ds').1 = vw ∧ (zbr v v' ds ds').2 = dw
noncomputable instance (hs : List Hd) (v : List Int) (ds : Dots) (hs' : List Hd) (v' : List Int) (ds' : Dots) (hw : List Hd) (vw : List Int) (dw : Dots) : Decidable (jnS hs v ds hs' v' ds' hw vw dw) := Classical.propDecidable _
noncomputable def Z2G : List AV → List AB → Option (AV × List AB)
 | [.ag [l, s, t], .ag [l', s', t'], .ag [lw, sw, tw]], h => (getS qjO h l).bind fun hs => (getS intR h s).bind fun v => (getS dotR h t).bind fun ds => (getS qjO h l').bind fun hs' => (getS intR h s').bind fun v' => (getS dotR h t').bind fun ds' => (getS qjO h lw).bind fun hw => (getS intR h sw).bind fun vw => (getS dotR h tw).bind fun dw =>
   if (hs.length ≤ 1000 ∧ hs'.length ≤ 1000) ∧ t.capOk = true ∧ t'.capOk = true then some (.b (decide (jnS hs v ds hs' v' ds' hw vw dw)), h) else none
 | _, _ => none
theorem JU5 : Spec Tryz.prog 45 Z2G := by
 intro args h v h' e
 unfold Z2G at e
 split at e
 ·rename_i l s t l' s' t' lw sw tw
  obtain ⟨hs, hl, e⟩ := YI8 e
  obtain ⟨xs, hv, e⟩ := YI8 e
  obtain ⟨ds, hd, e⟩ := YI8 e
  obtain ⟨hs', hl', e⟩ := YI8 e
  obtain ⟨xs', hv', e⟩ := YI8 e
  obtain ⟨ds', hd', e⟩ := YI8 e
  obtain ⟨hw, hlw, e⟩ := YI8 e
  obtain ⟨vw, hvw, e⟩ := YI8 e
  obtain ⟨dw, hdw, e⟩ := YI8 e
  split at e
  ·rename_i hc
   obtain ⟨⟨hL, hL'⟩, k1, k2⟩ := hc
   cases e
   refine FnAt.c (FnAt.run (by kernel_rfl) (T := ⟨[⟨15, zXx, fun _ => []⟩, ⟨19, Kdw, fun _ => []⟩], []⟩) ⟨⟨XtJ, QeN, trivial⟩, trivial⟩ Tryz.func45 sw45 fun ho hh => ?_)
   simp only [qMC, JAX, Bool.and_eq_true] at ho
   have f1 := hl.fx ho.1.1 (sz := 34) rfl
   have f2 := hv.fx ho.1.2.1 (sz := 1) rfl
   have f3 := hd.fx ho.1.2.2.1 (sz := 2) rfl
   have f4 := hl'.fx ho.2.1.1 (sz := 34) rfl
   have f5 := hv'.fx ho.2.1.2.1 (sz := 1) rfl
   have f6 := hd'.fx ho.2.1.2.2.1 (sz := 2) rfl
   have f7 := hlw.fx ho.2.2.1.1 (sz := 34) rfl
   have f8 := hvw.fx ho.2.2.1.2.1 (sz := 1) rfl
   have f9 := hdw.fx ho.2.2.1.2.2.1 (sz := 2) rfl
   have hL1 : (hs.length ≤ 10000) = True := eq_true (by omega)
   have hL2 : (hs'.length ≤ 10000) = True := eq_true (by omega)
   unfold w45
   by_cases c0 : Kq6 hs xs ds = 0
   case neg =>
    have c0' := eq_false c0
    simp only [XH8, QN9, X1r, X5W, zVq, simprocAttr, CO.tmps, Opd.tmps, optT, Nat.reducePow, Nat.reduceDiv, Nat.reduceMod, f1, f2, f3, f4, f5, f6, f7, f8, f9, zXx, Kdw, c0', hL1, hL2, k1, k2, zlS, and_self, eq_self, ne_eq, not_false_eq_true, not_true_eq_false, decide_true, decide_false]
    exact Bt.dropB _ hh (decide_eq_false fun z => c0 z.1).symm
   by_cases c1 : Kq6 hs' xs' ds' = 0
   case neg =>
    have c1' := eq_false c1
    simp only [XH8, QN9, X1r, X5W, zVq, simprocAttr, CO.tmps, Opd.tmps, optT, Nat.reducePow, Nat.reduceDiv, Nat.reduceMod, f1, f2, f3, f4, f5, f6, f7, f8, f9, zXx, Kdw, c0, c1', hL1, hL2, k1, k2, zlS, and_self, eq_self, ne_eq, not_false_eq_true, not_true_eq_false, decide_true, decide_false]
    exact Bt.dropB _ hh (decide_eq_false fun z => c1 z.2.1).symm
   by_cases c2 : zwL hs hs'
   case neg =>
    have c2' := eq_false c2
    simp only [XH8, QN9, X1r, X5W, zVq, simprocAttr, CO.tmps, Opd.tmps, optT, Nat.reducePow, Nat.reduceDiv, Nat.reduceMod, f1, f2, f3, f4, f5, f6, f7, f8, f9, zXx, Kdw, c0, c1, c2', hL1, hL2, k1, k2, zlS, and_self, eq_self, ne_eq, not_false_eq_true, not_true_eq_false, decide_true, decide_false]
    exact Bt.dropB _ hh (decide_eq_false fun z => c2 z.2.2.1).symm
   have c2' := eq_true c2
   by_cases c3 : (zbr xs xs' ds ds').2.length ≤ 4096
   case neg =>
    have c3' := eq_false c3
    simp only [XH8, QN9, X1r, X5W, zVq, simprocAttr, CO.tmps, Opd.tmps, optT, Nat.reducePow, Nat.reduceDiv, Nat.reduceMod, f1, f2, f3, f4, f5, f6, f7, f8, f9, zXx, Kdw, c0, c1, c2', c3', hL1, hL2, k1, k2, zlS, and_self, eq_self, ne_eq, not_false_eq_true, not_true_eq_false, decide_true, decide_false]
    exact Bt.dropB _ hh (decide_eq_false fun z => c3 z.2.2.2.1).symm
   have c3' := eq_true c3
   have n0 := Jua hs hs' xs xs' ds ds'
   have nj := QaH (zFp.1 c0).nf (zFp.1 c1).nf
   have n1 : ((jnL hs hs' xs xs' ds ds').length ≤ 1000000) = True := eq_true (by omega)
   have n2 : ((zbr xs xs' ds ds').1.length ≤ 1000000) = True := eq_true (by have := nj.rg.1; omega)
   have n3 : ((zbr xs xs' ds ds').2.length ≤ 1000000) = True := eq_true (by omega)
   simp only [XH8, QN9, X1r, X5W, zVq, simprocAttr, CO.tmps, Opd.tmps, optT, Nat.reducePow, Nat.reduceDiv, Nat.reduceMod, f1, f2, f3, f4, f5, f6, f7, f8, f9, zXx, Kdw, c0, c1, c2', c3', hL1, hL2, k1, k2, n1, n2, n3, qPj, and_self, eq_self, ne_eq, not_false_eq_true, not_true_eq_false, decide_true, decide_false]
   exact Bt.dropB _ hh (decide_eq_decide.2 ⟨fun z => ⟨c0, c1, c2, c3, z⟩, fun z => z.2.2.2.2⟩)
  ·cases e
 ·cases e
noncomputable def Q5v : List AV → List AB → Option (AV × List AB)
 | [.ag [l, s, t]], h => (getS qjO h l).bind fun hs => (getS intR h s).bind fun v => (getS dotR h t).bind fun ds => some (.b (decide (¬ (20 < hs.length ∨ 20 < v.length ∨ 30 < ds.length) ∧ Kq6 hs v ds = 0)), h)
 | _, _ => none
theorem Jxi : Spec Tryz.prog 46 Q5v := by
 intro args h v h' e
 unfold Q5v at e
 split at e
 ·rename_i l s t
  obtain ⟨hs, hl, e⟩ := YI8 e
  obtain ⟨xs, hv, e⟩ := YI8 e
  obtain ⟨ds, hd, e⟩ := YI8 e
  cases e
  refine FnAt.c (FnAt.run (by kernel_rfl) (T := ⟨[⟨10, zan, fun _ => []⟩, ⟨31, X7Q, fun _ => []⟩], []⟩) ⟨⟨X7R, zRg, trivial⟩, trivial⟩ Tryz.func46 sw46 fun ho hh => ?_)
  simp only [qMC, JAX, Bool.and_eq_true] at ho
  have f1 := hl.fx ho.1.1 (sz := 34) rfl
  have f2 := hv.fx ho.1.2.1 (sz := 1) rfl
  have f3 := hd.fx ho.1.2.2.1 (sz := 2) rfl
  unfold w46
  by_cases La : 20 < hs.length ∨ 20 < xs.length ∨ 30 < ds.length
  ·have g := eq_true La
   simp only [XH8, QN9, X1r, X5W, zVq, simprocAttr, CO.tmps, Opd.tmps, optT, Nat.reducePow, Nat.reduceDiv, Nat.reduceMod, f1, f2, f3, zan, g, not_true_eq_false, false_and, decide_true, decide_false]
   exact Bt.dropB _ hh rfl
  ·have g := eq_false La
   have l1 : (hs.length ≤ 1000000) = True := eq_true (by omega)
   simp only [XH8, QN9, X1r, X5W, zVq, simprocAttr, CO.tmps, Opd.tmps, optT, Nat.reducePow, Nat.reduceDiv, Nat.reduceMod, f1, f2, f3, zan, X7Q, g, l1, not_false_eq_true, true_and, decide_true, decide_false]
   exact Bt.dropB _ hh rfl
 ·cases e
end Go.Proofs.YtfaccliekejngaaGreat
end
section
namespace Go.Proofs.YtfaccliekejngaaGreat
set_option maxRecDepth 100000
theorem qAo {v : List Int} {ds : Dots} (c : KXy v ds = 0) : Kq6 [] v ds = 0 := zFp.2 ⟨KIn c, (YIo c).2.1, List.Pairwise.nil, fun x h => by cases h⟩
theorem XJK {v : List Int} {ds : Dots} {x : Hd} (c : KXy v ds = 0) (h : YlY v ds x.1) : Kq6 [x] v ds = 0 := zFp.2 ⟨KIn c, (YIo c).2.1, List.pairwise_singleton _ _, fun y hy => by
 rw [List.mem_singleton.1 hy]
 exact (QbQ (KIn c).rg _).1 h⟩
theorem qUF {v : List Int} {ds : Dots} {x y : Hd} (c : KXy v ds = 0) (hx : YlY v ds x.1) (hy : YlY v ds y.1) (hxy : ZwT x.1 y.1) : Kq6 [x, y] v ds = 0 := zFp.2 ⟨KIn c, (YIo c).2.1, List.pairwise_cons.2 ⟨fun z hz => by rw [List.mem_singleton.1 hz]; exact hxy, List.pairwise_singleton _ _⟩, fun z hz => by
 rcases List.mem_cons.1 hz with rfl | hz
 ·exact (QbQ (KIn c).rg _).1 hx
 ·rw [List.mem_singleton.1 hz]
  exact (QbQ (KIn c).rg _).1 hy⟩
abbrev x4 : Hd := ((1, 1), dgB 4)
theorem k00 : KXy [] [] = 0 := by decide
theorem k10 : KXy [1] [] = 0 := by decide
theorem k01 : KXy [0, 1] [] = 0 := by decide
theorem k11 : KXy [1, 1] [] = 0 := by decide
theorem ZXc (v : List Int) (ds : Dots) : outL v ds [] = [] := rfl
theorem X02 {v : List Int} {ds : Dots} {x : Hd} {l : List Hd} (h : KXy v ds = 0 ∧ YlY v ds x.1) : outL v ds (x :: l) = outL v ds l := by
 unfold outL
 rw [List.filter_cons, if_neg (by rw [decide_eq_true_eq]; exact not_not_intro h)]
theorem QG6 {v : List Int} {ds : Dots} {x : Hd} {l : List Hd} (h : ¬ (KXy v ds = 0 ∧ YlY v ds x.1)) : outL v ds (x :: l) = x :: outL v ds l := by
 unfold outL
 rw [List.filter_cons, if_pos (decide_eq_true h)]
theorem zen (x : Hd) : layG KBL [] x = [x] := rfl
theorem QlJ {x y : Hd} {l : List Hd} (h : ¬ KBL x y) : layG KBL (y :: l) x = y :: layG KBL l x := by
 conv => lhs; unfold layG
 rw [if_neg h]
theorem c1 : outL [1] [] [x4] = [] ∧ zbr [1] [1] [] [] = ([1], []) := ⟨by rw [X02 (by decide), ZXc], by decide⟩
theorem c2 : outL [] [] [x4] = [x4] ∧ zbr [1] [] [] [] = ([1], []) := ⟨by rw [QG6 (by decide), ZXc], by decide⟩
end Go.Proofs.YtfaccliekejngaaGreat
end
section
namespace Go.Proofs.YtfaccliekejngaaGreat
set_option maxRecDepth 100000
set_option maxHeartbeats 8000000
theorem qy3 (zs l m : List AV) (k : Nat) (h : zs.length = l.length + m.length) (hk : k = l.length) : over (over zs 0 l) k m = l ++ m := by
 subst hk
 have e1 : (l ++ zs.drop l.length).take l.length = l := List.take_left' rfl
 have e2 : (l ++ zs.drop l.length).drop (l.length + m.length) = [] := List.drop_eq_nil_of_le (by rw [List.length_append, List.length_drop]; omega)
 simp only [over, List.take_zero, List.nil_append, Nat.zero_add, e1, e2, List.append_nil]
def X2U : List AV → List AB → Option (AV × List AB)
 | [], h => some (.b true, h)
 | _, _ => none
theorem lit1 {h : List AB} (L : List AB) (k : Nat) (x : Hd) (q : ownC L k = some (qjO.f x)) : getS qjO (h ++ L) (.sl (h.length + k) 0 1 1 none) = some [x] :=
 (zDF (r := qjO) (n := 1) (l := [x]) (by rw [q]; simp [Row.cells]) (by unfold maxLen; simp) (by simp)).get
theorem lit2 {h : List AB} (L : List AB) (k : Nat) (x y : Hd) (q : ownC L k = some (qjO.f x ++ qjO.f y)) : getS qjO (h ++ L) (.sl (h.length + k) 0 2 2 none) = some [x, y] :=
 (zDF (r := qjO) (n := 2) (l := [x, y]) (by rw [q]; simp [Row.cells]) (by unfold maxLen; simp) (by simp)).get
end Go.Proofs.YtfaccliekejngaaGreat
end
section
namespace Go.Proofs.YtfaccliekejngaaGreat
set_option maxRecDepth 100000
set_option maxHeartbeats 8000000
section
variable (d e : Dg)
theorem s10 : Kq6 [((1, 1), d)] [1] [] = 0 := XJK k10 (show YlY [1] [] (1, 1) by decide)
theorem s01 : Kq6 [((2, 1), e)] [0, 1] [] = 0 := XJK k01 (show YlY [0, 1] [] (2, 1) by decide)
theorem s11 : Kq6 [((1, 1), d), ((2, 1), e)] [1, 1] [] = 0 := qUF k11 (show YlY [1, 1] [] (1, 1) by decide) (show YlY [1, 1] [] (2, 1) by decide) (show ZwT (1, 1) (2, 1) by decide)
theorem XTh : addE [] [] [] (1, 1) = 0 := by
 unfold addE
 rw [if_neg (not_not_intro (qAo k00)), if_neg (by decide), if_neg (by decide), if_neg (by decide)]
theorem J7r : mkO [] [] (1, 1) = ([1], []) := by decide
theorem KsR : jnS [((1, 1), d)] [1] [] [] [1] [] [] [1] [] := by
 have g : zwL [((1, 1), d)] [] := fun x hx y hy e => by cases hy
 refine ⟨s10 d, qAo k10, g, by decide, ?_, by decide, by decide⟩
 refine (zt0 (zFp.1 (s10 d)) (zFp.1 (qAo k10)) List.Pairwise.nil fun x => ?_).symm
 have n1 : inC [1] [] (1, 1) := (QbQ (KIn k10).rg _).1 (by decide)
 rw [XRH g]
 simp only [List.mem_cons, List.not_mem_nil, or_false, false_iff]
 rintro (⟨_, q⟩ | ⟨q, q2⟩ | ⟨q, _⟩)
 ·exact q
 ·subst q; exact q2 n1
 ·exact q
theorem Kth : jnS [((1, 1), d)] [1] [] [((2, 1), e)] [0, 1] [] [((1, 1), d), ((2, 1), e)] [1, 1] [] := by
 have g : zwL [((1, 1), d)] [((2, 1), e)] := fun x hx y hy q => by
  rw [List.mem_singleton.1 hx, List.mem_singleton.1 hy] at q
  exact absurd (show ((1 : Int), (1 : Int)) = (2, 1) from q) (by decide)
 refine ⟨s10 d, s01 e, g, by decide, ?_, by decide, by decide⟩
 refine (zt0 (zFp.1 (s10 d)) (zFp.1 (s01 e)) (zFp.1 (s11 d e)).rise fun x => ?_).symm
 have n1 : ¬ inC [0, 1] [] (1, 1) := fun q => absurd ((QbQ (KIn k01).rg _).2 q) (by decide)
 have n2 : ¬ inC [1] [] (2, 1) := fun q => absurd ((QbQ (KIn k10).rg _).2 q) (by decide)
 rw [XRH g]
 simp only [List.mem_cons, List.not_mem_nil, or_false]
 constructor
 ·rintro (rfl | rfl)
  ·exact .inr (.inl ⟨rfl, n1⟩)
  ·exact .inr (.inr ⟨rfl, n2⟩)
 ·rintro (⟨q, _⟩ | ⟨q, _⟩ | ⟨q, _⟩)
  ·exact .inl q
  ·exact .inl q
  ·exact .inr q
end
theorem qWr {h : List AB} (L : List AB) (k : Nat) (a : Int) (q : ownC L k = some [.i .i64 a]) : getS intR (h ++ L) (.sl (h.length + k) 0 1 1 none) = some [a] :=
 (zDF (r := intR) (n := 1) (l := [a]) (by rw [q]; simp [Row.cells, JEE]) (by unfold maxLen; simp) (by simp)).get
theorem Q9H {h : List AB} (L : List AB) (k : Nat) (a b : Int) (q : ownC L k = some [.i .i64 a, .i .i64 b]) : getS intR (h ++ L) (.sl (h.length + k) 0 2 2 none) = some [a, b] :=
 (zDF (r := intR) (n := 2) (l := [a, b]) (by rw [q]; simp [Row.cells, JEE]) (by unfold maxLen; simp) (by simp)).get
theorem J8m : AV.ns.kn = true := rfl
theorem X6o : Spec Tryz.prog 12 X2U := by
 intro args h v h' e
 unfold X2U at e
 split at e
 ·cases e
  refine FnAt.c (FnAt.frz0 fun hz => ?_)
  generalize h.map AB.freeze = h at *
  refine FnAt.run (by kernel_rfl) (T := ⟨[⟨42, XhJ, fun _ => []⟩, ⟨43, qLW, fun _ => []⟩, ⟨41, YK6, fun _ => []⟩, ⟨40, ZZH, fun _ => []⟩, ⟨24, JrT, fun _ => []⟩, ⟨33, zSr, fun _ => []⟩, ⟨19, Kdw, fun _ => []⟩, ⟨45, Z2G, fun _ => []⟩], []⟩) ⟨⟨YeL, YJU, XMk, zDL, QaM, J2q, QeN, JU5, trivial⟩, trivial⟩ Tryz.func12 sw12 fun ho hh => ?_
  have l1 := fun (L : List AB) k q => lit1 (h := h) L k ((1, 1), dgB 7) q
  have l2 := fun (L : List AB) k q => lit1 (h := h) L k ((2, 1), dgB 7) q
  have l3 := fun (L : List AB) k q => lit2 (h := h) L k ((1, 1), dgB 7) ((2, 1), dgB 7) q
  have ln := fun (L : List AB) k a q => qWr (h := h) L k a q
  have lm := fun (L : List AB) k a b q => Q9H (h := h) L k a b q
  have ex1 := XTh
  have ex2 := J7r
  have ex3 : layG KBL [] ((1, 1), dgB 7) = [((1, 1), dgB 7)] := zen _
  have ex4 := s10 (dgB 7)
  have ex5 := eq_true (KsR (dgB 7))
  have ex6 := eq_true (Kth (dgB 7) (dgB 7))
  have ex7 : (∃ x ∈ ([((1, 1), dgB 7)] : List Hd), x.2 = dgB 7) = True := eq_true ⟨_, .head _, rfl⟩
  have u0 : (0 ≤ maxLen) = True := eq_true (by unfold maxLen; omega)
  have u1 : (1 ≤ maxLen) = True := eq_true (by unfold maxLen; omega)
  have u2 : (2 ≤ maxLen) = True := eq_true (by unfold maxLen; omega)
  have b7 : ((0 : Int) ≤ 7 ∧ (7 : Int) < 256) = True := eq_true (by decide)
  unfold w12
  simp only [XH8, QN9, X1r, X5W, zVq, simprocAttr, CO.tmps, Opd.tmps, optT, Nat.reducePow, Nat.reduceDiv, Nat.reduceMod, XhJ, qLW, YK6, ZZH, JrT, zSr, Kdw, Z2G, ZK2, J8m, ex1, ex2, ex3, ex4, ex5, ex6, ex7, l1, l2, l3, ln, lm, zlS, KGT, YaF, u0, u1, u2, Nat.zero_add, beq_self_eq_true, and_self, eq_self, ne_eq, not_false_eq_true, not_true_eq_false, decide_true, decide_false, b7, nsSl, slSl, XEe, zp7, ZOt, Zph, Ydx, XwU, Kb6, Ke3, qy3, XAL, KJo, List.all_append, List.length_cons, List.length_nil, QNE hh, QFK hz, K9V hz, Ksi hz]
  exact ⟨rfl, rfl, Bt.dropB _ hh rfl⟩
 ·cases e
end Go.Proofs.YtfaccliekejngaaGreat
end
section
namespace Go.Proofs.YtfaccliekejngaaGreat
set_option maxRecDepth 100000
set_option maxHeartbeats 4000000
noncomputable def QoL : List AV → List AB → Option (AV × List AB)
 | [.ag [.i .i64 a, .i .i64 b], .p i 0], h => match XAh h i with
  | some [s] => (getS dotR h s).bind fun l => some (.b (decide ((a, b) ∈ l)), h)
  | _ => none
 | _, _ => none
theorem QDN : Spec Tryz.prog 128 QoL := by
 intro args h v h' e
 unfold QoL at e
 split at e
 ·rename_i a b i
  split at e
  ·rename_i s hb
   obtain ⟨l, hs, e⟩ := YI8 e
   cases e
   refine FnAt.c (FnAt.run (by kernel_rfl) (T := ⟨[⟨90, Jjd, fun _ => []⟩], []⟩) ⟨⟨YSz, trivial⟩, trivial⟩ Tryz.func128 JCP fun ho hh => ?_)
   have fb := qee hb
   have k1 : ∀ x, getS dotR (h ++ x) s = some l := fun x => (hs.app x).get
   unfold w128
   simp only [XH8, QN9, X1r, X5W, zVq, simprocAttr, CO.tmps, Opd.tmps, optT, Nat.reducePow, Nat.reduceDiv, Nat.reduceMod, fb, k1, Jjd]
   exact Bt.dropB _ hh rfl
  ·cases e
 ·cases e
noncomputable def YhV : List AV → List AB → Option (AV × List AB)
 | [s, .f (.func 128) [] [.p i 0]], h => match XAh h i with
  | some [t] => (getS dotR h t).bind fun m => (getS dotR h s).bind fun l => some (.i .i64 (idx (fun d : Int × Int => d ∈ m) l), h)
  | _ => none
 | _, _ => none
theorem KDN : Spec Tryz.prog 136 YhV := by
 intro args h v h' e
 unfold YhV at e
 split at e
 ·rename_i s i
  split at e
  ·rename_i t hb
   obtain ⟨m, ht, e⟩ := YI8 e
   obtain ⟨l, hx, e⟩ := YI8 e
   cases e
   refine FnAt.c (FnAt.run (by kernel_rfl) (T := ⟨[⟨128, QoL, fun _ => []⟩], []⟩) ⟨⟨QDN, trivial⟩, trivial⟩ Tryz.func136 XTR fun ho hh => ?_)
   simp only [qMC, Bool.and_eq_true] at ho
   have f1 := hx.fx ho.1 (sz := 2) rfl
   have k0 : ∀ x, XAh (h ++ x) i = some [t] := (qee hb).1
   have k1 : ∀ x, getS dotR (h ++ x) t = some m := fun x => (ht.app x).get
   unfold w136
   simp only [XH8, QN9, X1r, zVq, simprocAttr, f1]
   refine YMr (S := Nat) (fun j => l.length - j) (fun j => [s, .f (.func 128) [] [.p i 0]] ++ tp 5 ++ [.i .i64 l.length, .i .i64 j] ++ tp 10) (fun j => j ≤ l.length ∧ idx (fun d : Int × Int => d ∈ m) l = XBh (fun d : Int × Int => d ∈ m) (l.drop j) j) 0 ⟨Nat.zero_le _, rfl⟩ (by simp only [X1r, zVq, simprocAttr]) fun j hj => ?_
   simp only [X1r, zVq, simprocAttr, f1]
   refine ⟨fun h2 => ?_, fun h2 => ?_⟩
   ·have e1 : IntKind.i64.wrap ((j : Int) + 1) = ((j + 1 : Nat) : Int) := ZL4 (by have := hx.2; unfold maxLen at this; unfold In64; omega)
    have e2 := qVK (fun d : Int × Int => d ∈ m) dotR.d j h2
    simp only [X1r, zVq, simprocAttr, f1, h2, KdD, e1, QoL, k0, k1, ZIt]
    refine ⟨fun h3 => Bt.eq (by rw [hj.2, e2, if_pos h3]) (List.append_nil h), fun h3 => ⟨j + 1, ⟨h2, ?_⟩, by omega, Wk.refl _⟩⟩
    rw [hj.2, e2, if_neg h3]
   ·exact Bt.eq (by rw [hj.2, List.drop_eq_nil_of_le (by omega)]; rfl) (List.append_nil h)
  ·cases e
 ·cases e
noncomputable def qdJ : List AV → List AB → Option (AV × List AB)
 | [s, .f (.func 128) [] [.p i 0]], h => match XAh h i with
  | some [t] => (getS dotR h t).bind fun m => (getS dotR h s).bind fun l => some (.b (decide (∃ d ∈ l, d ∈ m)), h)
  | _ => none
 | _, _ => none
theorem KCt : Spec Tryz.prog 98 qdJ := by
 intro args h v h' e
 unfold qdJ at e
 split at e
 ·rename_i s i
  split at e
  ·rename_i t hb
   obtain ⟨m, ht, e⟩ := YI8 e
   obtain ⟨l, hx, e⟩ := YI8 e
   cases e
   refine FnAt.c (FnAt.run (by kernel_rfl) (T := ⟨[⟨136, YhV, fun _ => []⟩], []⟩) ⟨⟨KDN, trivial⟩, trivial⟩ Tryz.func98 sw98 fun ho hh => ?_)
   simp only [qMC, Bool.and_eq_true] at ho
   have f1 := hx.fx ho.1 (sz := 2) rfl
   have k0 : ∀ x, XAh (h ++ x) i = some [t] := (qee hb).1
   have k1 : ∀ x, getS dotR (h ++ x) t = some m := fun x => (ht.app x).get
   unfold w98
   simp only [XH8, QN9, X1r, zVq, simprocAttr, f1, YhV, k0, k1]
   exact Bt.eq (by simp only [AV.b.injEq, decide_eq_decide]; exact zpY _ l) (List.append_nil h)
  ·cases e
 ·cases e
def mayP (nw : List Hd) (kp : Dots) (v : List Int) (ds : Dots) : Prop := KVs v ds (nw.map (·.1)) nw.length ∧ KVs v ds kp kp.length ∧ ¬ ∃ d ∈ kp, d ∈ nw.map (·.1)
noncomputable instance (nw : List Hd) (kp : Dots) (v : List Int) (ds : Dots) : Decidable (mayP nw kp v ds) := Classical.propDecidable _
noncomputable def XLw : List AV → List AB → Option (AV × List AB)
 | [.ag [n, k, s, t]], h => (getS qjO h n).bind fun nw => (getS dotR h k).bind fun kp => (getS intR h s).bind fun v => (getS dotR h t).bind fun ds => if nw.length ≤ 1000000 then some (.b (decide (mayP nw kp v ds)), h) else none
 | _, _ => none
theorem Kha : Spec Tryz.prog 88 XLw := by
 intro args h v h' e
 unfold XLw at e
 split at e
 ·rename_i n k s t
  obtain ⟨nw, hn, e⟩ := YI8 e
  obtain ⟨kp, hk, e⟩ := YI8 e
  obtain ⟨xs, hv, e⟩ := YI8 e
  obtain ⟨ds, hd, e⟩ := YI8 e
  split at e
  ·rename_i hL
   cases e
   refine FnAt.c (FnAt.run (by kernel_rfl) (T := ⟨[⟨85, KmK, fun _ => []⟩, ⟨84, ZiF, fun _ => []⟩, ⟨98, qdJ, fun _ => []⟩], []⟩) ⟨⟨QKd, QV2, KCt, trivial⟩, trivial⟩ Tryz.func88 sw88 fun ho hh => ?_)
   simp only [qMC, JAX, Bool.and_eq_true] at ho
   have f1 := hn.fx ho.1.1 (sz := 34) rfl
   have f2 := hk.fx ho.1.2.1 (sz := 2) rfl
   have f3 := hv.fx ho.1.2.2.1 (sz := 1) rfl
   have f4 := hd.fx ho.1.2.2.2.1 (sz := 2) rfl
   have hL' := eq_true hL
   have hm : (nw.length ≤ maxLen) = True := eq_true hn.2
   have hM : (nw.map (·.1)).length = nw.length := List.length_map _
   unfold w88
   by_cases h0 : nw = []
   ·subst h0
    have q1 : KVs xs ds [] 0 = True := eq_true fun k hk => absurd hk (Nat.not_lt_zero _)
    have q2 : mayP [] kp xs ds ↔ KVs xs ds kp kp.length := ⟨fun z => z.2.1, fun z => ⟨fun k hk => absurd hk (Nat.not_lt_zero _), z, by simp⟩⟩
    have q3 : (∃ d ∈ kp, d ∈ ([] : Dots)) = False := eq_false (by simp)
    simp only [XH8, QN9, X1r, X5W, zVq, simprocAttr, CO.tmps, Opd.tmps, optT, Nat.reducePow, Nat.reduceDiv, Nat.reduceMod, f1, f2, f3, f4, KmK, ZiF, qdJ, zlS, List.map_nil, ZLN, List.length_nil, Q4R, hL', q1, q3]
    refine ⟨fun h1 => Bt.dropB _ hh (decide_eq_true (q2.2 h1)).symm, fun h1 => Bt.dropB _ hh (decide_eq_false fun z => h1 (q2.1 z)).symm⟩
   ·have hlB : (nw.map (·.1)).length ≠ 0 := fun q => h0 (List.eq_nil_of_length_eq_zero (by rwa [hM] at q))
    have gr : ∀ id, apS dotR id (nw.map (·.1)) = rsl dotR id (nw.map (·.1)) := fun id => J0z _ hlB
    simp only [XH8, QN9, X1r, X5W, zVq, simprocAttr, CO.tmps, Opd.tmps, optT, Nat.reducePow, Nat.reduceDiv, Nat.reduceMod, f1, f2, f3, f4, KmK, ZiF, qdJ, gr, YaF, zw7, hM, hm, Q4R, hL']
    refine ⟨fun h1 => ⟨fun h2 => Bt.dropB _ hh (decide_eq_decide.2 ⟨fun z => ⟨h1, h2, z⟩, fun z => z.2.2⟩), fun h2 => Bt.dropB _ hh (decide_eq_false fun z => h2 z.2.1).symm⟩, fun h1 => Bt.dropB _ hh (decide_eq_false fun z => h1 z.1).symm⟩
  ·cases e
 ·cases e
end Go.Proofs.YtfaccliekejngaaGreat
end
