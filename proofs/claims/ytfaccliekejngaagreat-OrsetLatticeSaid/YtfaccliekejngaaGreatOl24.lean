/- Part 24 of what the laws' proofs rest on. No condition. -/
import Derived.Test.YtfaccliekejngaaGreatOl23
set_option linter.all false
section
namespace Go.Proofs.YtfaccliekejngaaGreat
set_option maxRecDepth 100000
set_option maxHeartbeats 4000000
def KbO : List AV → List AB → Option (AV × List AB)
 | [.i .i64 a, .i .i64 b], h => some (.ag [.i .i64 a, .i .i64 b], h)
 | _, _ => none
theorem Zvx : Spec Tryz.prog 42 KbO := by
 intro args h v h' e
 unfold KbO at e
 split at e
 ·cases e
  refine FnAt.c (FnAt.run (by kernel_rfl) (T := ⟨[], []⟩) ⟨trivial, trivial⟩ Tryz.func42 sw42 fun ho hh => ?_)
  unfold w42
  simp only [X7h, KtT, YUc, XuP, simprocAttr]
  exact Bt.drop _ hh rfl (by simp only [zEw, Xtq, XSh, J9R, JoD, ok_i, Bool.and_true])
 ·cases e
def zqi : List AV → List AB → Option (AV × List AB)
 | [.i .u8 n], h => if 0 ≤ n ∧ n < 256 then some (.ag (idR.f (dgB n)), h) else none
 | _, _ => none
theorem KDL : Spec Tryz.prog 43 zqi := by
 intro args h v h' e
 unfold zqi at e
 split at e
 ·rename_i n
  split at e
  ·rename_i hn
   cases e
   refine FnAt.c (FnAt.run (by kernel_rfl) (T := ⟨[], []⟩) ⟨trivial, trivial⟩ Tryz.func43 sw43 fun ho hh => ?_)
   unfold w43
   rw [zYy hn]
   simp only [X7h, KtT, YUc, XuP, simprocAttr]
   exact Bt.drop _ hh rfl (by simp only [zEw, Xtq, XSh, J9R, JoD, ok_i, Bool.and_true])
  ·cases e
 ·cases e
def zYf : List AV → List AB → Option (AV × List AB)
 | [.i .i64 a, .i .i64 b, .i .u8 n], h => if 0 ≤ n ∧ n < 256 then some (.ag (Qv4.f ((a, b), dgB n)), h) else none
 | _, _ => none
theorem KLf : Spec Tryz.prog 41 zYf := by
 intro args h v h' e
 unfold zYf at e
 split at e
 ·rename_i a b n
  split at e
  ·rename_i hn
   cases e
   refine FnAt.c (FnAt.run (by kernel_rfl) (T := ⟨[⟨42, KbO, fun _ => []⟩, ⟨43, zqi, fun _ => []⟩], []⟩) ⟨⟨Zvx, KDL, trivial⟩, trivial⟩ Tryz.func41 sw41 fun ho hh => ?_)
   have hn' := eq_true hn
   have e0 := zYy hn
   unfold w41
   rw [XjB, e0]
   simp only [X7h, KtT, YUc, XuP, simprocAttr, KbO, zqi, hn', e0]
   exact Bt.drop _ hh rfl (by simp only [zEw, Xtq, XSh, J9R, JoD, ok_i, Bool.and_true])
  ·cases e
 ·cases e
def XA4 : List AV → List AB → Option (AV × List AB)
 | [v, l], h => if v.isSl = true ∧ l.isSl = true then some (.ag [l, v, .ns], h) else none
 | _, _ => none
theorem Zvo : Spec Tryz.prog 40 XA4 := by
 intro args h v h' e
 unfold XA4 at e
 split at e
 ·rename_i v l
  split at e
  ·rename_i hs
   cases e
   refine FnAt.c (FnAt.run (by kernel_rfl) (T := ⟨[], []⟩) ⟨trivial, trivial⟩ Tryz.func40 sw40 fun ho hh => ?_)
   simp only [Xtq, Bool.and_eq_true] at ho
   unfold w40
   simp only [X7h, KtT, YUc, XuP, simprocAttr, YOF hs.1, YOF hs.2, qLb hs.1, qLb hs.2, Xbs hs.1, Xbs hs.2]
   exact Bt.drop _ hh rfl (by simp only [Xtq, XSh, J9R, JoD, Bool.and_true, ho.1, ho.2.1, Bool.and_self])
  ·cases e
 ·cases e
def jnS (hs : List Hd) (v : List Int) (ds : Dots) (hs' : List Hd) (v' : List Int) (ds' : Dots) (hw : List Hd) (vw : List Int) (dw : Dots) : Prop :=
 KwK hs v ds = 0 ∧ KwK hs' v' ds' = 0 ∧ agreeP hs hs' ∧ (Zjv v v' ds ds').2.length ≤ 4096 ∧ jnL hs hs' v v' ds ds' = hw ∧ (Zjv v v' ds ds').1 = vw ∧ (Zjv v v' ds ds').2 = dw
noncomputable instance (hs : List Hd) (v : List Int) (ds : Dots) (hs' : List Hd) (v' : List Int) (ds' : Dots) (hw : List Hd) (vw : List Int) (dw : Dots) : Decidable (jnS hs v ds hs' v' ds' hw vw dw) := Classical.propDecidable _
noncomputable def YvT : List AV → List AB → Option (AV × List AB)
 | [.ag [l, s, t], .ag [l', s', t'], .ag [lw, sw, tw]], h => (getS Qv4 h l).bind fun hs => (getS intR h s).bind fun v => (getS dotR h t).bind fun ds => (getS Qv4 h l').bind fun hs' => (getS intR h s').bind fun v' => (getS dotR h t').bind fun ds' => (getS Qv4 h lw).bind fun hw => (getS intR h sw).bind fun vw => (getS dotR h tw).bind fun dw =>
   if (hs.length ≤ 1000 ∧ hs'.length ≤ 1000) ∧ t.capOk = true ∧ t'.capOk = true then some (.b (decide (jnS hs v ds hs' v' ds' hw vw dw)), h) else none
 | _, _ => none
theorem qkd : Spec Tryz.prog 45 YvT := by
 intro args h v h' e
 unfold YvT at e
 split at e
 ·rename_i l s t l' s' t' lw sw tw
  obtain ⟨hs, hl, e⟩ := Ksy e
  obtain ⟨xs, hv, e⟩ := Ksy e
  obtain ⟨ds, hd, e⟩ := Ksy e
  obtain ⟨hs', hl', e⟩ := Ksy e
  obtain ⟨xs', hv', e⟩ := Ksy e
  obtain ⟨ds', hd', e⟩ := Ksy e
  obtain ⟨hw, hlw, e⟩ := Ksy e
  obtain ⟨vw, hvw, e⟩ := Ksy e
  obtain ⟨dw, hdw, e⟩ := Ksy e
  split at e
  ·rename_i hc
   obtain ⟨⟨hL, hL'⟩, k1, k2⟩ := hc
   cases e
   refine FnAt.c (FnAt.run (by kernel_rfl) (T := ⟨[⟨15, KY4, fun _ => []⟩, ⟨19, QWD, fun _ => []⟩], []⟩) ⟨⟨qPs, JbQ, trivial⟩, trivial⟩ Tryz.func45 sw45 fun ho hh => ?_)
   simp only [Xtq, J9R, Bool.and_eq_true] at ho
   have f1 := hl.fx ho.1.1 (sz := 34) rfl
   have f2 := hv.fx ho.1.2.1 (sz := 1) rfl
   have f3 := hd.fx ho.1.2.2.1 (sz := 2) rfl
   have f4 := hl'.fx ho.2.1.1 (sz := 34) rfl
   have f5 := hv'.fx ho.2.1.2.1 (sz := 1) rfl
   have f6 := hd'.fx ho.2.1.2.2.1 (sz := 2) rfl
   have f7 := hlw.fx ho.2.2.1.1 (sz := 34) rfl
   have f8 := hvw.fx ho.2.2.1.2.1 (sz := 1) rfl
   have f9 := hdw.fx ho.2.2.1.2.2.1 (sz := 2) rfl
   have hL1 : (hs.length ≤ 10000) = True := eq_true (by omega)
   have hL2 : (hs'.length ≤ 10000) = True := eq_true (by omega)
   unfold w45
   by_cases c0 : KwK hs xs ds = 0
   case neg =>
    have c0' := eq_false c0
    simp only [X7h, KtT, YUc, YOT, XuP, simprocAttr, CO.tmps, Opd.tmps, optT, Nat.reducePow, Nat.reduceDiv, Nat.reduceMod, f1, f2, f3, f4, f5, f6, f7, f8, f9, KY4, QWD, c0', hL1, hL2, k1, k2, Z3U, and_self, eq_self, ne_eq, not_false_eq_true, not_true_eq_false, decide_true, decide_false]
    exact Bt.dropB _ hh (decide_eq_false fun z => c0 z.1).symm
   by_cases c1 : KwK hs' xs' ds' = 0
   case neg =>
    have c1' := eq_false c1
    simp only [X7h, KtT, YUc, YOT, XuP, simprocAttr, CO.tmps, Opd.tmps, optT, Nat.reducePow, Nat.reduceDiv, Nat.reduceMod, f1, f2, f3, f4, f5, f6, f7, f8, f9, KY4, QWD, c0, c1', hL1, hL2, k1, k2, Z3U, and_self, eq_self, ne_eq, not_false_eq_true, not_true_eq_false, decide_true, decide_false]
    exact Bt.dropB _ hh (decide_eq_false fun z => c1 z.2.1).symm
   by_cases c2 : agreeP hs hs'
   case neg =>
    have c2' := eq_false c2
    simp only [X7h, KtT, YUc, YOT, XuP, simprocAttr, CO.tmps, Opd.tmps, optT, Nat.reducePow, Nat.reduceDiv, Nat.reduceMod, f1, f2, f3, f4, f5, f6, f7, f8, f9, KY4, QWD, c0, c1, c2', hL1, hL2, k1, k2, Z3U, and_self, eq_self, ne_eq, not_false_eq_true, not_true_eq_false, decide_true, decide_false]
    exact Bt.dropB _ hh (decide_eq_false fun z => c2 z.2.2.1).symm
   have c2' := eq_true c2
   by_cases c3 : (Zjv xs xs' ds ds').2.length ≤ 4096
   case neg =>
    have c3' := eq_false c3
    simp only [X7h, KtT, YUc, YOT, XuP, simprocAttr, CO.tmps, Opd.tmps, optT, Nat.reducePow, Nat.reduceDiv, Nat.reduceMod, f1, f2, f3, f4, f5, f6, f7, f8, f9, KY4, QWD, c0, c1, c2', c3', hL1, hL2, k1, k2, Z3U, and_self, eq_self, ne_eq, not_false_eq_true, not_true_eq_false, decide_true, decide_false]
    exact Bt.dropB _ hh (decide_eq_false fun z => c3 z.2.2.2.1).symm
   have c3' := eq_true c3
   have n0 := ZmD hs hs' xs xs' ds ds'
   have nj := qBj (XFj.1 c0).nf (XFj.1 c1).nf
   have n1 : ((jnL hs hs' xs xs' ds ds').length ≤ 1000000) = True := eq_true (by omega)
   have n2 : ((Zjv xs xs' ds ds').1.length ≤ 1000000) = True := eq_true (by have := nj.rg.1; omega)
   have n3 : ((Zjv xs xs' ds ds').2.length ≤ 1000000) = True := eq_true (by omega)
   simp only [X7h, KtT, YUc, YOT, XuP, simprocAttr, CO.tmps, Opd.tmps, optT, Nat.reducePow, Nat.reduceDiv, Nat.reduceMod, f1, f2, f3, f4, f5, f6, f7, f8, f9, KY4, QWD, c0, c1, c2', c3', hL1, hL2, k1, k2, n1, n2, n3, qHA, and_self, eq_self, ne_eq, not_false_eq_true, not_true_eq_false, decide_true, decide_false]
   exact Bt.dropB _ hh (decide_eq_decide.2 ⟨fun z => ⟨c0, c1, c2, c3, z⟩, fun z => z.2.2.2.2⟩)
  ·cases e
 ·cases e
noncomputable def ZyZ : List AV → List AB → Option (AV × List AB)
 | [.ag [l, s, t]], h => (getS Qv4 h l).bind fun hs => (getS intR h s).bind fun v => (getS dotR h t).bind fun ds => some (.b (decide (¬ (20 < hs.length ∨ 20 < v.length ∨ 30 < ds.length) ∧ KwK hs v ds = 0)), h)
 | _, _ => none
theorem XVj : Spec Tryz.prog 46 ZyZ := by
 intro args h v h' e
 unfold ZyZ at e
 split at e
 ·rename_i l s t
  obtain ⟨hs, hl, e⟩ := Ksy e
  obtain ⟨xs, hv, e⟩ := Ksy e
  obtain ⟨ds, hd, e⟩ := Ksy e
  cases e
  refine FnAt.c (FnAt.run (by kernel_rfl) (T := ⟨[⟨10, Zje, fun _ => []⟩, ⟨31, z0u, fun _ => []⟩], []⟩) ⟨⟨zYU, Xz3, trivial⟩, trivial⟩ Tryz.func46 sw46 fun ho hh => ?_)
  simp only [Xtq, J9R, Bool.and_eq_true] at ho
  have f1 := hl.fx ho.1.1 (sz := 34) rfl
  have f2 := hv.fx ho.1.2.1 (sz := 1) rfl
  have f3 := hd.fx ho.1.2.2.1 (sz := 2) rfl
  unfold w46
  by_cases La : 20 < hs.length ∨ 20 < xs.length ∨ 30 < ds.length
  ·have g := eq_true La
   simp only [X7h, KtT, YUc, YOT, XuP, simprocAttr, CO.tmps, Opd.tmps, optT, Nat.reducePow, Nat.reduceDiv, Nat.reduceMod, f1, f2, f3, Zje, g, not_true_eq_false, false_and, decide_true, decide_false]
   exact Bt.dropB _ hh rfl
  ·have g := eq_false La
   have l1 : (hs.length ≤ 1000000) = True := eq_true (by omega)
   simp only [X7h, KtT, YUc, YOT, XuP, simprocAttr, CO.tmps, Opd.tmps, optT, Nat.reducePow, Nat.reduceDiv, Nat.reduceMod, f1, f2, f3, Zje, z0u, g, l1, not_false_eq_true, true_and, decide_true, decide_false]
   exact Bt.dropB _ hh rfl
 ·cases e
end Go.Proofs.YtfaccliekejngaaGreat
end
section
namespace Go.Proofs.YtfaccliekejngaaGreat
set_option maxRecDepth 100000
theorem QH1 {v : List Int} {ds : Dots} (c : ZmB v ds = 0) : KwK [] v ds = 0 := XFj.2 ⟨YIo c, (Ym4 c).2.1, List.Pairwise.nil, fun x h => by cases h⟩
theorem ZPk {v : List Int} {ds : Dots} {x : Hd} (c : ZmB v ds = 0) (h : YC2 v ds x.1) : KwK [x] v ds = 0 := XFj.2 ⟨YIo c, (Ym4 c).2.1, List.pairwise_singleton _ _, fun y hy => by
 rw [List.mem_singleton.1 hy]
 exact (Zgc (YIo c).rg _).1 h⟩
theorem YcT {v : List Int} {ds : Dots} {x y : Hd} (c : ZmB v ds = 0) (hx : YC2 v ds x.1) (hy : YC2 v ds y.1) (hxy : X1m x.1 y.1) : KwK [x, y] v ds = 0 := XFj.2 ⟨YIo c, (Ym4 c).2.1, List.pairwise_cons.2 ⟨fun z hz => by rw [List.mem_singleton.1 hz]; exact hxy, List.pairwise_singleton _ _⟩, fun z hz => by
 rcases List.mem_cons.1 hz with rfl | hz
 ·exact (Zgc (YIo c).rg _).1 hx
 ·rw [List.mem_singleton.1 hz]
  exact (Zgc (YIo c).rg _).1 hy⟩
theorem k00 : ZmB [] [] = 0 := by decide
theorem k10 : ZmB [1] [] = 0 := by decide
theorem k01 : ZmB [0, 1] [] = 0 := by decide
theorem k11 : ZmB [1, 1] [] = 0 := by decide
theorem Jgm (v : List Int) (ds : Dots) : outL v ds [] = [] := rfl
theorem JfV {v : List Int} {ds : Dots} {x : Hd} {l : List Hd} (h : ZmB v ds = 0 ∧ YC2 v ds x.1) : outL v ds (x :: l) = outL v ds l := by
 unfold outL
 rw [List.filter_cons, if_neg (by rw [decide_eq_true_eq]; exact not_not_intro h)]
theorem YSr {v : List Int} {ds : Dots} {x : Hd} {l : List Hd} (h : ¬ (ZmB v ds = 0 ∧ YC2 v ds x.1)) : outL v ds (x :: l) = x :: outL v ds l := by
 unfold outL
 rw [List.filter_cons, if_pos (decide_eq_true h)]
theorem zWa (x : Hd) : layG J9g [] x = [x] := rfl
theorem Xfj {x y : Hd} {l : List Hd} (h : ¬ J9g x y) : layG J9g (y :: l) x = y :: layG J9g l x := by
 conv => lhs; unfold layG
 rw [if_neg h]
end Go.Proofs.YtfaccliekejngaaGreat
end
section
namespace Go.Proofs.YtfaccliekejngaaGreat
set_option maxRecDepth 100000
set_option maxHeartbeats 8000000
theorem Xzb (zs l m : List AV) (k : Nat) (h : zs.length = l.length + m.length) (hk : k = l.length) : over (over zs 0 l) k m = l ++ m := by
 subst hk
 have e1 : (l ++ zs.drop l.length).take l.length = l := List.take_left' rfl
 have e2 : (l ++ zs.drop l.length).drop (l.length + m.length) = [] := List.drop_eq_nil_of_le (by rw [List.length_append, List.length_drop]; omega)
 simp only [over, List.take_zero, List.nil_append, Nat.zero_add, e1, e2, List.append_nil]
def Jwt : List AV → List AB → Option (AV × List AB)
 | [], h => some (.b true, h)
 | _, _ => none
theorem lit1 {h : List AB} (L : List AB) (k : Nat) (x : Hd) (q : ownC L k = some (Qv4.f x)) : getS Qv4 (h ++ L) (.sl (h.length + k) 0 1 1 none) = some [x] :=
 (QYM (r := Qv4) (n := 1) (l := [x]) (by rw [q]; simp [Row.cells]) (by unfold maxLen; simp) (by simp)).get
theorem lit2 {h : List AB} (L : List AB) (k : Nat) (x y : Hd) (q : ownC L k = some (Qv4.f x ++ Qv4.f y)) : getS Qv4 (h ++ L) (.sl (h.length + k) 0 2 2 none) = some [x, y] :=
 (QYM (r := Qv4) (n := 2) (l := [x, y]) (by rw [q]; simp [Row.cells]) (by unfold maxLen; simp) (by simp)).get
end Go.Proofs.YtfaccliekejngaaGreat
end
section
namespace Go.Proofs.YtfaccliekejngaaGreat
set_option maxRecDepth 100000
set_option maxHeartbeats 8000000
section
variable (d e : Dg)
theorem s10 : KwK [((1, 1), d)] [1] [] = 0 := ZPk k10 (show YC2 [1] [] (1, 1) by decide)
theorem s01 : KwK [((2, 1), e)] [0, 1] [] = 0 := ZPk k01 (show YC2 [0, 1] [] (2, 1) by decide)
theorem s11 : KwK [((1, 1), d), ((2, 1), e)] [1, 1] [] = 0 := YcT k11 (show YC2 [1, 1] [] (1, 1) by decide) (show YC2 [1, 1] [] (2, 1) by decide) (show X1m (1, 1) (2, 1) by decide)
theorem K9m : addE [] [] [] (1, 1) = 0 := by
 unfold addE
 rw [if_neg (not_not_intro (QH1 k00)), if_neg (by decide), if_neg (by decide), if_neg (by decide)]
theorem XS0 : mkO [] [] (1, 1) = ([1], []) := by decide
theorem YxC : jnS [((1, 1), d)] [1] [] [] [1] [] [] [1] [] := by
 have g : agreeP [((1, 1), d)] [] := fun x hx y hy e => by cases hy
 refine ⟨s10 d, QH1 k10, g, by decide, ?_, by decide, by decide⟩
 refine (Xac (XFj.1 (s10 d)) (XFj.1 (QH1 k10)) List.Pairwise.nil fun x => ?_).symm
 have n1 : inC [1] [] (1, 1) := (Zgc (YIo k10).rg _).1 (by decide)
 rw [ZAR g]
 simp only [List.mem_cons, List.not_mem_nil, or_false, false_iff]
 rintro (⟨_, q⟩ | ⟨q, q2⟩ | ⟨q, _⟩)
 ·exact q
 ·subst q; exact q2 n1
 ·exact q
theorem Ju1 : jnS [((1, 1), d)] [1] [] [((2, 1), e)] [0, 1] [] [((1, 1), d), ((2, 1), e)] [1, 1] [] := by
 have g : agreeP [((1, 1), d)] [((2, 1), e)] := fun x hx y hy q => by
  rw [List.mem_singleton.1 hx, List.mem_singleton.1 hy] at q
  exact absurd (show ((1 : Int), (1 : Int)) = (2, 1) from q) (by decide)
 refine ⟨s10 d, s01 e, g, by decide, ?_, by decide, by decide⟩
 refine (Xac (XFj.1 (s10 d)) (XFj.1 (s01 e)) (XFj.1 (s11 d e)).rise fun x => ?_).symm
 have n1 : ¬ inC [0, 1] [] (1, 1) := fun q => absurd ((Zgc (YIo k01).rg _).2 q) (by decide)
 have n2 : ¬ inC [1] [] (2, 1) := fun q => absurd ((Zgc (YIo k10).rg _).2 q) (by decide)
 rw [ZAR g]
 simp only [List.mem_cons, List.not_mem_nil, or_false]
 constructor
 ·rintro (rfl | rfl)
  ·exact .inr (.inl ⟨rfl, n1⟩)
  ·exact .inr (.inr ⟨rfl, n2⟩)
 ·rintro (⟨q, _⟩ | ⟨q, _⟩ | ⟨q, _⟩)
  ·exact .inl q
  ·exact .inl q
  ·exact .inr q
end
theorem JDr {h : List AB} (L : List AB) (k : Nat) (a : Int) (q : ownC L k = some [.i .i64 a]) : getS intR (h ++ L) (.sl (h.length + k) 0 1 1 none) = some [a] :=
 (QYM (r := intR) (n := 1) (l := [a]) (by rw [q]; simp [Row.cells, ze8]) (by unfold maxLen; simp) (by simp)).get
theorem JDJ {h : List AB} (L : List AB) (k : Nat) (a b : Int) (q : ownC L k = some [.i .i64 a, .i .i64 b]) : getS intR (h ++ L) (.sl (h.length + k) 0 2 2 none) = some [a, b] :=
 (QYM (r := intR) (n := 2) (l := [a, b]) (by rw [q]; simp [Row.cells, ze8]) (by unfold maxLen; simp) (by simp)).get
theorem Kik : AV.ns.kn = true := rfl
theorem zNS : Spec Tryz.prog 12 Jwt := by
 intro args h v h' e
 unfold Jwt at e
 split at e
 ·cases e
  refine FnAt.c (FnAt.frz0 fun hz => ?_)
  generalize h.map AB.freeze = h at *
  refine FnAt.run (by kernel_rfl) (T := ⟨[⟨42, KbO, fun _ => []⟩, ⟨43, zqi, fun _ => []⟩, ⟨41, zYf, fun _ => []⟩, ⟨40, XA4, fun _ => []⟩, ⟨24, XNE, fun _ => []⟩, ⟨33, YzU, fun _ => []⟩, ⟨19, QWD, fun _ => []⟩, ⟨45, YvT, fun _ => []⟩], []⟩) ⟨⟨Zvx, KDL, KLf, Zvo, JO8, QsO, JbQ, qkd, trivial⟩, trivial⟩ Tryz.func12 sw12 fun ho hh => ?_
  have l1 := fun (L : List AB) k q => lit1 (h := h) L k ((1, 1), dgB 7) q
  have l2 := fun (L : List AB) k q => lit1 (h := h) L k ((2, 1), dgB 7) q
  have l3 := fun (L : List AB) k q => lit2 (h := h) L k ((1, 1), dgB 7) ((2, 1), dgB 7) q
  have ln := fun (L : List AB) k a q => JDr (h := h) L k a q
  have lm := fun (L : List AB) k a b q => JDJ (h := h) L k a b q
  have ex1 := K9m
  have ex2 := XS0
  have ex3 : layG J9g [] ((1, 1), dgB 7) = [((1, 1), dgB 7)] := zWa _
  have ex4 := s10 (dgB 7)
  have ex5 := eq_true (YxC (dgB 7))
  have ex6 := eq_true (Ju1 (dgB 7) (dgB 7))
  have ex7 : (∃ x ∈ ([((1, 1), dgB 7)] : List Hd), x.2 = dgB 7) = True := eq_true ⟨_, .head _, rfl⟩
  have u0 : (0 ≤ maxLen) = True := eq_true (by unfold maxLen; omega)
  have u1 : (1 ≤ maxLen) = True := eq_true (by unfold maxLen; omega)
  have u2 : (2 ≤ maxLen) = True := eq_true (by unfold maxLen; omega)
  have b7 : ((0 : Int) ≤ 7 ∧ (7 : Int) < 256) = True := eq_true (by decide)
  unfold w12
  simp only [X7h, KtT, YUc, YOT, XuP, simprocAttr, CO.tmps, Opd.tmps, optT, Nat.reducePow, Nat.reduceDiv, Nat.reduceMod, KbO, zqi, zYf, XA4, XNE, YzU, QWD, YvT, zJQ, Kik, ex1, ex2, ex3, ex4, ex5, ex6, ex7, l1, l2, l3, ln, lm, Z3U, Ycf, z1c, u0, u1, u2, Nat.zero_add, beq_self_eq_true, and_self, eq_self, ne_eq, not_false_eq_true, not_true_eq_false, decide_true, decide_false, b7, nsSl, slSl, zqp, zso, Zcr, Jmd, XRz, JUx, Q42, qdy, Xzb, Ksp, YiU, List.all_append, List.length_cons, List.length_nil, zN7 hh, X9n hz, Zf3 hz, QwR hz]
  exact ⟨rfl, rfl, Bt.dropB _ hh rfl⟩
 ·cases e
end Go.Proofs.YtfaccliekejngaaGreat
end
section
namespace Go.Proofs.YtfaccliekejngaaGreat
set_option maxRecDepth 100000
set_option maxHeartbeats 4000000
noncomputable def YwM : List AV → List AB → Option (AV × List AB)
 | [.ag [.i .i64 a, .i .i64 b], .p i 0], h => match KFj h i with
  | some [s] => (getS dotR h s).bind fun l => some (.b (decide ((a, b) ∈ l)), h)
  | _ => none
 | _, _ => none
theorem qtz : Spec Tryz.prog 128 YwM := by
 intro args h v h' e
 unfold YwM at e
 split at e
 ·rename_i a b i
  split at e
  ·rename_i s hb
   obtain ⟨l, hs, e⟩ := Ksy e
   cases e
   refine FnAt.c (FnAt.run (by kernel_rfl) (T := ⟨[⟨90, KIO, fun _ => []⟩], []⟩) ⟨⟨zIO, trivial⟩, trivial⟩ Tryz.func128 QCA fun ho hh => ?_)
   have fb := YMl hb
   have k1 : ∀ x, getS dotR (h ++ x) s = some l := fun x => (hs.app x).get
   unfold w128
   simp only [X7h, KtT, YUc, YOT, XuP, simprocAttr, CO.tmps, Opd.tmps, optT, Nat.reducePow, Nat.reduceDiv, Nat.reduceMod, fb, k1, KIO]
   exact Bt.dropB _ hh rfl
  ·cases e
 ·cases e
noncomputable def Xdz : List AV → List AB → Option (AV × List AB)
 | [s, .f (.func 128) [] [.p i 0]], h => match KFj h i with
  | some [t] => (getS dotR h t).bind fun m => (getS dotR h s).bind fun l => some (.i .i64 (idx (fun d : Int × Int => d ∈ m) l), h)
  | _ => none
 | _, _ => none
theorem KQn : Spec Tryz.prog 136 Xdz := by
 intro args h v h' e
 unfold Xdz at e
 split at e
 ·rename_i s i
  split at e
  ·rename_i t hb
   obtain ⟨m, ht, e⟩ := Ksy e
   obtain ⟨l, hx, e⟩ := Ksy e
   cases e
   refine FnAt.c (FnAt.run (by kernel_rfl) (T := ⟨[⟨128, YwM, fun _ => []⟩], []⟩) ⟨⟨qtz, trivial⟩, trivial⟩ Tryz.func136 Xu1 fun ho hh => ?_)
   simp only [Xtq, Bool.and_eq_true] at ho
   have f1 := hx.fx ho.1 (sz := 2) rfl
   have k0 : ∀ x, KFj (h ++ x) i = some [t] := (YMl hb).1
   have k1 : ∀ x, getS dotR (h ++ x) t = some m := fun x => (ht.app x).get
   unfold w136
   simp only [X7h, KtT, YUc, XuP, simprocAttr, f1]
   refine KUA (S := Nat) (fun j => l.length - j) (fun j => [s, .f (.func 128) [] [.p i 0]] ++ tp 5 ++ [.i .i64 l.length, .i .i64 j] ++ tp 10) (fun j => j ≤ l.length ∧ idx (fun d : Int × Int => d ∈ m) l = qVz (fun d : Int × Int => d ∈ m) (l.drop j) j) 0 ⟨Nat.zero_le _, rfl⟩ (by simp only [YUc, XuP, simprocAttr]) fun j hj => ?_
   simp only [YUc, XuP, simprocAttr, f1]
   refine ⟨fun h2 => ?_, fun h2 => ?_⟩
   ·have e1 : IntKind.i64.wrap ((j : Int) + 1) = ((j + 1 : Nat) : Int) := ZPp (by have := hx.2; unfold maxLen at this; unfold In64; omega)
    have e2 := JXZ (fun d : Int × Int => d ∈ m) dotR.d j h2
    simp only [YUc, XuP, simprocAttr, f1, h2, X5L, e1, YwM, k0, k1, XWZ]
    refine ⟨fun h3 => Bt.eq (by rw [hj.2, e2, if_pos h3]) (List.append_nil h), fun h3 => ⟨j + 1, ⟨h2, ?_⟩, by omega, Wk.refl _⟩⟩
    rw [hj.2, e2, if_neg h3]
   ·exact Bt.eq (by rw [hj.2, List.drop_eq_nil_of_le (by omega)]; rfl) (List.append_nil h)
  ·cases e
 ·cases e
noncomputable def JyO : List AV → List AB → Option (AV × List AB)
 | [s, .f (.func 128) [] [.p i 0]], h => match KFj h i with
  | some [t] => (getS dotR h t).bind fun m => (getS dotR h s).bind fun l => some (.b (decide (∃ d ∈ l, d ∈ m)), h)
  | _ => none
 | _, _ => none
theorem KUq : Spec Tryz.prog 98 JyO := by
 intro args h v h' e
 unfold JyO at e
 split at e
 ·rename_i s i
  split at e
  ·rename_i t hb
   obtain ⟨m, ht, e⟩ := Ksy e
   obtain ⟨l, hx, e⟩ := Ksy e
   cases e
   refine FnAt.c (FnAt.run (by kernel_rfl) (T := ⟨[⟨136, Xdz, fun _ => []⟩], []⟩) ⟨⟨KQn, trivial⟩, trivial⟩ Tryz.func98 sw98 fun ho hh => ?_)
   simp only [Xtq, Bool.and_eq_true] at ho
   have f1 := hx.fx ho.1 (sz := 2) rfl
   have k0 : ∀ x, KFj (h ++ x) i = some [t] := (YMl hb).1
   have k1 : ∀ x, getS dotR (h ++ x) t = some m := fun x => (ht.app x).get
   unfold w98
   simp only [X7h, KtT, YUc, XuP, simprocAttr, f1, Xdz, k0, k1]
   exact Bt.eq (by simp only [AV.b.injEq, decide_eq_decide]; exact J0J _ l) (List.append_nil h)
  ·cases e
 ·cases e
def mayP (nw : List Hd) (kp : Dots) (v : List Int) (ds : Dots) : Prop := QA1 v ds (nw.map (·.1)) nw.length ∧ QA1 v ds kp kp.length ∧ ¬ ∃ d ∈ kp, d ∈ nw.map (·.1)
noncomputable instance (nw : List Hd) (kp : Dots) (v : List Int) (ds : Dots) : Decidable (mayP nw kp v ds) := Classical.propDecidable _
noncomputable def qnR : List AV → List AB → Option (AV × List AB)
 | [.ag [n, k, s, t]], h => (getS Qv4 h n).bind fun nw => (getS dotR h k).bind fun kp => (getS intR h s).bind fun v => (getS dotR h t).bind fun ds => if nw.length ≤ 1000000 then some (.b (decide (mayP nw kp v ds)), h) else none
 | _, _ => none
theorem Y3Y : Spec Tryz.prog 88 qnR := by
 intro args h v h' e
 unfold qnR at e
 split at e
 ·rename_i n k s t
  obtain ⟨nw, hn, e⟩ := Ksy e
  obtain ⟨kp, hk, e⟩ := Ksy e
  obtain ⟨xs, hv, e⟩ := Ksy e
  obtain ⟨ds, hd, e⟩ := Ksy e
  split at e
  ·rename_i hL
   cases e
   refine FnAt.c (FnAt.run (by kernel_rfl) (T := ⟨[⟨85, Kir, fun _ => []⟩, ⟨84, Xru, fun _ => []⟩, ⟨98, JyO, fun _ => []⟩], []⟩) ⟨⟨q4v, zHt, KUq, trivial⟩, trivial⟩ Tryz.func88 sw88 fun ho hh => ?_)
   simp only [Xtq, J9R, Bool.and_eq_true] at ho
   have f1 := hn.fx ho.1.1 (sz := 34) rfl
   have f2 := hk.fx ho.1.2.1 (sz := 2) rfl
   have f3 := hv.fx ho.1.2.2.1 (sz := 1) rfl
   have f4 := hd.fx ho.1.2.2.2.1 (sz := 2) rfl
   have hL' := eq_true hL
   have hm : (nw.length ≤ maxLen) = True := eq_true hn.2
   have hM : (nw.map (·.1)).length = nw.length := List.length_map _
   unfold w88
   by_cases h0 : nw = []
   ·subst h0
    have q1 : QA1 xs ds [] 0 = True := eq_true fun k hk => absurd hk (Nat.not_lt_zero _)
    have q2 : mayP [] kp xs ds ↔ QA1 xs ds kp kp.length := ⟨fun z => z.2.1, fun z => ⟨fun k hk => absurd hk (Nat.not_lt_zero _), z, by simp⟩⟩
    have q3 : (∃ d ∈ kp, d ∈ ([] : Dots)) = False := eq_false (by simp)
    simp only [X7h, KtT, YUc, YOT, XuP, simprocAttr, CO.tmps, Opd.tmps, optT, Nat.reducePow, Nat.reduceDiv, Nat.reduceMod, f1, f2, f3, f4, Kir, Xru, JyO, Z3U, List.map_nil, qY6, List.length_nil, J11, hL', q1, q3]
    refine ⟨fun h1 => Bt.dropB _ hh (decide_eq_true (q2.2 h1)).symm, fun h1 => Bt.dropB _ hh (decide_eq_false fun z => h1 (q2.1 z)).symm⟩
   ·have hlB : (nw.map (·.1)).length ≠ 0 := fun q => h0 (List.eq_nil_of_length_eq_zero (by rwa [hM] at q))
    have gr : ∀ id, apS dotR id (nw.map (·.1)) = rsl dotR id (nw.map (·.1)) := fun id => ZtS _ hlB
    simp only [X7h, KtT, YUc, YOT, XuP, simprocAttr, CO.tmps, Opd.tmps, optT, Nat.reducePow, Nat.reduceDiv, Nat.reduceMod, f1, f2, f3, f4, Kir, Xru, JyO, gr, z1c, zn7, hM, hm, J11, hL']
    refine ⟨fun h1 => ⟨fun h2 => Bt.dropB _ hh (decide_eq_decide.2 ⟨fun z => ⟨h1, h2, z⟩, fun z => z.2.2⟩), fun h2 => Bt.dropB _ hh (decide_eq_false fun z => h2 z.2.1).symm⟩, fun h1 => Bt.dropB _ hh (decide_eq_false fun z => h1 z.1).symm⟩
  ·cases e
 ·cases e
end Go.Proofs.YtfaccliekejngaaGreat
end
