/- Part 26 of what the laws' proofs rest on. No condition. -/
import Derived.Test.YtfaccliekejngaaGreatOt25
set_option linter.all false
section
namespace Go.Proofs.YtfaccliekejngaaGreat
set_option maxRecDepth 100000
set_option maxHeartbeats 4000000
def XhJ : List AV → List AB → Option (AV × List AB)
 | [.i .i64 a, .i .i64 b], h => some (.ag [.i .i64 a, .i .i64 b], h)
 | _, _ => none
theorem YeL : Spec Tryz.prog 42 XhJ := by
 intro args h v h' e
 unfold XhJ at e
 split at e
 ·cases e
  refine FnAt.c (FnAt.run (by kernel_rfl) (T := ⟨[], []⟩) ⟨trivial, trivial⟩ Tryz.func42 sw42 fun ho hh => ?_)
  unfold w42
  simp only [XH8, QN9, X1r, zVq, simprocAttr]
  exact Bt.drop _ hh rfl (by simp only [ZVg, qMC, YI0, JAX, Yiy, ok_i, Bool.and_true])
 ·cases e
def qLW : List AV → List AB → Option (AV × List AB)
 | [.i .u8 n], h => if 0 ≤ n ∧ n < 256 then some (.ag (idR.f (dgB n)), h) else none
 | _, _ => none
theorem YJU : Spec Tryz.prog 43 qLW := by
 intro args h v h' e
 unfold qLW at e
 split at e
 ·rename_i n
  split at e
  ·rename_i hn
   cases e
   refine FnAt.c (FnAt.run (by kernel_rfl) (T := ⟨[], []⟩) ⟨trivial, trivial⟩ Tryz.func43 sw43 fun ho hh => ?_)
   unfold w43
   rw [z3t hn]
   simp only [XH8, QN9, X1r, zVq, simprocAttr]
   exact Bt.drop _ hh rfl (by simp only [ZVg, qMC, YI0, JAX, Yiy, ok_i, Bool.and_true])
  ·cases e
 ·cases e
def YK6 : List AV → List AB → Option (AV × List AB)
 | [.i .i64 a, .i .i64 b, .i .u8 n], h => if 0 ≤ n ∧ n < 256 then some (.ag (qjO.f ((a, b), dgB n)), h) else none
 | _, _ => none
theorem XMk : Spec Tryz.prog 41 YK6 := by
 intro args h v h' e
 unfold YK6 at e
 split at e
 ·rename_i a b n
  split at e
  ·rename_i hn
   cases e
   refine FnAt.c (FnAt.run (by kernel_rfl) (T := ⟨[⟨42, XhJ, fun _ => []⟩, ⟨43, qLW, fun _ => []⟩], []⟩) ⟨⟨YeL, YJU, trivial⟩, trivial⟩ Tryz.func41 sw41 fun ho hh => ?_)
   have hn' := eq_true hn
   have e0 := z3t hn
   unfold w41
   rw [YA0, e0]
   simp only [XH8, QN9, X1r, zVq, simprocAttr, XhJ, qLW, hn', e0]
   exact Bt.drop _ hh rfl (by simp only [ZVg, qMC, YI0, JAX, Yiy, ok_i, Bool.and_true])
  ·cases e
 ·cases e
def ZZH : List AV → List AB → Option (AV × List AB)
 | [v, l], h => if v.isSl = true ∧ l.isSl = true then some (.ag [l, v, .ns], h) else none
 | _, _ => none
theorem zDL : Spec Tryz.prog 40 ZZH := by
 intro args h v h' e
 unfold ZZH at e
 split at e
 ·rename_i v l
  split at e
  ·rename_i hs
   cases e
   refine FnAt.c (FnAt.run (by kernel_rfl) (T := ⟨[], []⟩) ⟨trivial, trivial⟩ Tryz.func40 sw40 fun ho hh => ?_)
   simp only [qMC, Bool.and_eq_true] at ho
   unfold w40
   simp only [XH8, QN9, X1r, zVq, simprocAttr, Qwl hs.1, Qwl hs.2, YCL hs.1, YCL hs.2, ZVo hs.1, ZVo hs.2]
   exact Bt.drop _ hh rfl (by simp only [qMC, YI0, JAX, Yiy, Bool.and_true, ho.1, ho.2.1, Bool.and_self])
  ·cases e
 ·cases e
def jnS (hs : List Hd) (v : List Int) (ds : Dots) (hs' : List Hd) (v' : List Int) (ds' : Dots) (hw : List Hd) (vw : List Int) (dw : Dots) : Prop :=
 Kq6 hs v ds = 0 ∧ Kq6 hs' v' ds' = 0 ∧ zwL hs hs' ∧ (zbr v v' ds ds').2.length ≤ 4096 ∧ jnL hs hs' v v' ds ds' = hw ∧ (zbr v v' ds ds').1 = vw ∧ (zbr v v' ds ds').2 = dw
noncomputable instance (hs : List Hd) (v : List Int) (ds : Dots) (hs' : List Hd) (v' : List Int) (ds' : Dots) (hw : List Hd) (vw : List Int) (dw : Dots) : Decidable (jnS hs v ds hs' v' ds' hw vw dw) := Classical.propDecidable _
noncomputable def Z2G : List AV → List AB → Option (AV × List AB)
 | [.ag [l, s, t], .ag [l', s', t'], .ag [lw, sw, tw]], h => (getS qjO h l).bind fun hs => (getS intR h s).bind fun v => (getS dotR h t).bind fun ds => (getS qjO h l').bind fun hs' => (getS intR h s').bind fun v' => (getS dotR h t').bind fun ds' => (getS qjO h lw).bind fun hw => (getS intR h sw).bind fun vw => (getS dotR h tw).bind fun dw =>
   if (hs.length ≤ 1000 ∧ hs'.length ≤ 1000) ∧ t.capOk = true ∧ t'.capOk = true then some (.b (decide (jnS hs v ds hs' v' ds' hw vw dw)), h) else none
 | _, _ => none
theorem JU5 : Spec Tryz.prog 45 Z2G := by
 intro args h v h' e
 unfold Z2G at e
 split at e
 ·rename_i l s t l' s' t' lw sw tw
  obtain ⟨hs, hl, e⟩ := YI8 e
  obtain ⟨xs, hv, e⟩ := YI8 e
  obtain ⟨ds, hd, e⟩ := YI8 e
  obtain ⟨hs', hl', e⟩ := YI8 e
  obtain ⟨xs', hv', e⟩ := YI8 e
  obtain ⟨ds', hd', e⟩ := YI8 e
  obtain ⟨hw, hlw, e⟩ := YI8 e
  obtain ⟨vw, hvw, e⟩ := YI8 e
  obtain ⟨dw, hdw, e⟩ := YI8 e
  split at e
  ·rename_i hc
   obtain ⟨⟨hL, hL'⟩, k1, k2⟩ := hc
   cases e
   refine FnAt.c (FnAt.run (by kernel_rfl) (T := ⟨[⟨15, zXx, fun _ => []⟩, ⟨19, Kdw, fun _ => []⟩], []⟩) ⟨⟨XtJ, QeN, trivial⟩, trivial⟩ Tryz.func45 sw45 fun ho hh => ?_)
   simp only [qMC, JAX, Bool.and_eq_true] at ho
   have f1 := hl.fx ho.1.1 (sz := 34) rfl
   have f2 := hv.fx ho.1.2.1 (sz := 1) rfl
   have f3 := hd.fx ho.1.2.2.1 (sz := 2) rfl
   have f4 := hl'.fx ho.2.1.1 (sz := 34) rfl
   have f5 := hv'.fx ho.2.1.2.1 (sz := 1) rfl
   have f6 := hd'.fx ho.2.1.2.2.1 (sz := 2) rfl
   have f7 := hlw.fx ho.2.2.1.1 (sz := 34) rfl
   have f8 := hvw.fx ho.2.2.1.2.1 (sz := 1) rfl
   have f9 := hdw.fx ho.2.2.1.2.2.1 (sz := 2) rfl
   have hL1 : (hs.length ≤ 10000) = True := eq_true (by omega)
   have hL2 : (hs'.length ≤ 10000) = True := eq_true (by omega)
   unfold w45
   by_cases c0 : Kq6 hs xs ds = 0
   case neg =>
    have c0' := eq_false c0
    simp only [XH8, QN9, X1r, X5W, zVq, simprocAttr, CO.tmps, Opd.tmps, optT, Nat.reducePow, Nat.reduceDiv, Nat.reduceMod, f1, f2, f3, f4, f5, f6, f7, f8, f9, zXx, Kdw, c0', hL1, hL2, k1, k2, zlS, and_self, eq_self, ne_eq, not_false_eq_true, not_true_eq_false, decide_true, decide_false]
    exact Bt.dropB _ hh (decide_eq_false fun z => c0 z.1).symm
   by_cases c1 : Kq6 hs' xs' ds' = 0
   case neg =>
    have c1' := eq_false c1
    simp only [XH8, QN9, X1r, X5W, zVq, simprocAttr, CO.tmps, Opd.tmps, optT, Nat.reducePow, Nat.reduceDiv, Nat.reduceMod, f1, f2, f3, f4, f5, f6, f7, f8, f9, zXx, Kdw, c0, c1', hL1, hL2, k1, k2, zlS, and_self, eq_self, ne_eq, not_false_eq_true, not_true_eq_false, decide_true, decide_false]
    exact Bt.dropB _ hh (decide_eq_false fun z => c1 z.2.1).symm
   by_cases c2 : zwL hs hs'
   case neg =>
    have c2' := eq_false c2
    simp only [XH8, QN9, X1r, X5W, zVq, simprocAttr, CO.tmps, Opd.tmps, optT, Nat.reducePow, Nat.reduceDiv, Nat.reduceMod, f1, f2, f3, f4, f5, f6, f7, f8, f9, zXx, Kdw, c0, c1, c2', hL1, hL2, k1, k2, zlS, and_self, eq_self, ne_eq, not_false_eq_true, not_true_eq_false, decide_true, decide_false]
    exact Bt.dropB _ hh (decide_eq_false fun z => c2 z.2.2.1).symm
   have c2' := eq_true c2
   by_cases c3 : (zbr xs xs' ds ds').2.length ≤ 4096
   case neg =>
    have c3' := eq_false c3
    simp only [XH8, QN9, X1r, X5W, zVq, simprocAttr, CO.tmps, Opd.tmps, optT, Nat.reducePow, Nat.reduceDiv, Nat.reduceMod, f1, f2, f3, f4, f5, f6, f7, f8, f9, zXx, Kdw, c0, c1, c2', c3', hL1, hL2, k1, k2, zlS, and_self, eq_self, ne_eq, not_false_eq_true, not_true_eq_false, decide_true, decide_false]
    exact Bt.dropB _ hh (decide_eq_false fun z => c3 z.2.2.2.1).symm
   have c3' := eq_true c3
   have n0 := Jua hs hs' xs xs' ds ds'
   have nj := QaH (zFp.1 c0).nf (zFp.1 c1).nf
   have n1 : ((jnL hs hs' xs xs' ds ds').length ≤ 1000000) = True := eq_true (by omega)
   have n2 : ((zbr xs xs' ds ds').1.length ≤ 1000000) = True := eq_true (by have := nj.rg.1; omega)
   have n3 : ((zbr xs xs' ds ds').2.length ≤ 1000000) = True := eq_true (by omega)
   simp only [XH8, QN9, X1r, X5W, zVq, simprocAttr, CO.tmps, Opd.tmps, optT, Nat.reducePow, Nat.reduceDiv, Nat.reduceMod, f1, f2, f3, f4, f5, f6, f7, f8, f9, zXx, Kdw, c0, c1, c2', c3', hL1, hL2, k1, k2, n1, n2, n3, qPj, and_self, eq_self, ne_eq, not_false_eq_true, not_true_eq_false, decide_true, decide_false]
   exact Bt.dropB _ hh (decide_eq_decide.2 ⟨fun z => ⟨c0, c1, c2, c3, z⟩, fun z => z.2.2.2.2⟩)
  ·cases e
 ·cases e
end Go.Proofs.YtfaccliekejngaaGreat
end
section
namespace Go.Proofs.YtfaccliekejngaaGreat
set_option maxRecDepth 100000
theorem qAo {v : List Int} {ds : Dots} (c : KXy v ds = 0) : Kq6 [] v ds = 0 := zFp.2 ⟨KIn c, (YIo c).2.1, List.Pairwise.nil, fun x h => by cases h⟩
theorem XJK {v : List Int} {ds : Dots} {x : Hd} (c : KXy v ds = 0) (h : YlY v ds x.1) : Kq6 [x] v ds = 0 := zFp.2 ⟨KIn c, (YIo c).2.1, List.pairwise_singleton _ _, fun y hy => by
 rw [List.mem_singleton.1 hy]
 exact (QbQ (KIn c).rg _).1 h⟩
theorem qUF {v : List Int} {ds : Dots} {x y : Hd} (c : KXy v ds = 0) (hx : YlY v ds x.1) (hy : YlY v ds y.1) (hxy : ZwT x.1 y.1) : Kq6 [x, y] v ds = 0 := zFp.2 ⟨KIn c, (YIo c).2.1, List.pairwise_cons.2 ⟨fun z hz => by rw [List.mem_singleton.1 hz]; exact hxy, List.pairwise_singleton _ _⟩, fun z hz => by
 rcases List.mem_cons.1 hz with rfl | hz
 ·exact (QbQ (KIn c).rg _).1 hx
 ·rw [List.mem_singleton.1 hz]
  exact (QbQ (KIn c).rg _).1 hy⟩
theorem k00 : KXy [] [] = 0 := by decide
theorem k10 : KXy [1] [] = 0 := by decide
theorem k01 : KXy [0, 1] [] = 0 := by decide
theorem k11 : KXy [1, 1] [] = 0 := by decide
theorem zen (x : Hd) : layG KBL [] x = [x] := rfl
end Go.Proofs.YtfaccliekejngaaGreat
end
section
namespace Go.Proofs.YtfaccliekejngaaGreat
set_option maxRecDepth 100000
set_option maxHeartbeats 8000000
theorem qy3 (zs l m : List AV) (k : Nat) (h : zs.length = l.length + m.length) (hk : k = l.length) : over (over zs 0 l) k m = l ++ m := by
 subst hk
 have e1 : (l ++ zs.drop l.length).take l.length = l := List.take_left' rfl
 have e2 : (l ++ zs.drop l.length).drop (l.length + m.length) = [] := List.drop_eq_nil_of_le (by rw [List.length_append, List.length_drop]; omega)
 simp only [over, List.take_zero, List.nil_append, Nat.zero_add, e1, e2, List.append_nil]
def X2U : List AV → List AB → Option (AV × List AB)
 | [], h => some (.b true, h)
 | _, _ => none
theorem lit1 {h : List AB} (L : List AB) (k : Nat) (x : Hd) (q : ownC L k = some (qjO.f x)) : getS qjO (h ++ L) (.sl (h.length + k) 0 1 1 none) = some [x] :=
 (zDF (r := qjO) (n := 1) (l := [x]) (by rw [q]; simp [Row.cells]) (by unfold maxLen; simp) (by simp)).get
theorem lit2 {h : List AB} (L : List AB) (k : Nat) (x y : Hd) (q : ownC L k = some (qjO.f x ++ qjO.f y)) : getS qjO (h ++ L) (.sl (h.length + k) 0 2 2 none) = some [x, y] :=
 (zDF (r := qjO) (n := 2) (l := [x, y]) (by rw [q]; simp [Row.cells]) (by unfold maxLen; simp) (by simp)).get
end Go.Proofs.YtfaccliekejngaaGreat
end
section
namespace Go.Proofs.YtfaccliekejngaaGreat
set_option maxRecDepth 100000
set_option maxHeartbeats 8000000
section
variable (d e : Dg)
theorem s10 : Kq6 [((1, 1), d)] [1] [] = 0 := XJK k10 (show YlY [1] [] (1, 1) by decide)
theorem s01 : Kq6 [((2, 1), e)] [0, 1] [] = 0 := XJK k01 (show YlY [0, 1] [] (2, 1) by decide)
theorem s11 : Kq6 [((1, 1), d), ((2, 1), e)] [1, 1] [] = 0 := qUF k11 (show YlY [1, 1] [] (1, 1) by decide) (show YlY [1, 1] [] (2, 1) by decide) (show ZwT (1, 1) (2, 1) by decide)
theorem XTh : addE [] [] [] (1, 1) = 0 := by
 unfold addE
 rw [if_neg (not_not_intro (qAo k00)), if_neg (by decide), if_neg (by decide), if_neg (by decide)]
theorem J7r : mkO [] [] (1, 1) = ([1], []) := by decide
theorem KsR : jnS [((1, 1), d)] [1] [] [] [1] [] [] [1] [] := by
 have g : zwL [((1, 1), d)] [] := fun x hx y hy e => by cases hy
 refine ⟨s10 d, qAo k10, g, by decide, ?_, by decide, by decide⟩
 refine (zt0 (zFp.1 (s10 d)) (zFp.1 (qAo k10)) List.Pairwise.nil fun x => ?_).symm
 have n1 : inC [1] [] (1, 1) := (QbQ (KIn k10).rg _).1 (by decide)
 rw [XRH g]
 simp only [List.mem_cons, List.not_mem_nil, or_false, false_iff]
 rintro (⟨_, q⟩ | ⟨q, q2⟩ | ⟨q, _⟩)
 ·exact q
 ·subst q; exact q2 n1
 ·exact q
theorem Kth : jnS [((1, 1), d)] [1] [] [((2, 1), e)] [0, 1] [] [((1, 1), d), ((2, 1), e)] [1, 1] [] := by
 have g : zwL [((1, 1), d)] [((2, 1), e)] := fun x hx y hy q => by
  rw [List.mem_singleton.1 hx, List.mem_singleton.1 hy] at q
  exact absurd (show ((1 : Int), (1 : Int)) = (2, 1) from q) (by decide)
 refine ⟨s10 d, s01 e, g, by decide, ?_, by decide, by decide⟩
 refine (zt0 (zFp.1 (s10 d)) (zFp.1 (s01 e)) (zFp.1 (s11 d e)).rise fun x => ?_).symm
 have n1 : ¬ inC [0, 1] [] (1, 1) := fun q => absurd ((QbQ (KIn k01).rg _).2 q) (by decide)
 have n2 : ¬ inC [1] [] (2, 1) := fun q => absurd ((QbQ (KIn k10).rg _).2 q) (by decide)
 rw [XRH g]
 simp only [List.mem_cons, List.not_mem_nil, or_false]
 constructor
 ·rintro (rfl | rfl)
  ·exact .inr (.inl ⟨rfl, n1⟩)
  ·exact .inr (.inr ⟨rfl, n2⟩)
 ·rintro (⟨q, _⟩ | ⟨q, _⟩ | ⟨q, _⟩)
  ·exact .inl q
  ·exact .inl q
  ·exact .inr q
end
theorem qWr {h : List AB} (L : List AB) (k : Nat) (a : Int) (q : ownC L k = some [.i .i64 a]) : getS intR (h ++ L) (.sl (h.length + k) 0 1 1 none) = some [a] :=
 (zDF (r := intR) (n := 1) (l := [a]) (by rw [q]; simp [Row.cells, JEE]) (by unfold maxLen; simp) (by simp)).get
theorem Q9H {h : List AB} (L : List AB) (k : Nat) (a b : Int) (q : ownC L k = some [.i .i64 a, .i .i64 b]) : getS intR (h ++ L) (.sl (h.length + k) 0 2 2 none) = some [a, b] :=
 (zDF (r := intR) (n := 2) (l := [a, b]) (by rw [q]; simp [Row.cells, JEE]) (by unfold maxLen; simp) (by simp)).get
theorem J8m : AV.ns.kn = true := rfl
theorem X6o : Spec Tryz.prog 12 X2U := by
 intro args h v h' e
 unfold X2U at e
 split at e
 ·cases e
  refine FnAt.c (FnAt.frz0 fun hz => ?_)
  generalize h.map AB.freeze = h at *
  refine FnAt.run (by kernel_rfl) (T := ⟨[⟨42, XhJ, fun _ => []⟩, ⟨43, qLW, fun _ => []⟩, ⟨41, YK6, fun _ => []⟩, ⟨40, ZZH, fun _ => []⟩, ⟨24, JrT, fun _ => []⟩, ⟨33, zSr, fun _ => []⟩, ⟨19, Kdw, fun _ => []⟩, ⟨45, Z2G, fun _ => []⟩], []⟩) ⟨⟨YeL, YJU, XMk, zDL, QaM, J2q, QeN, JU5, trivial⟩, trivial⟩ Tryz.func12 sw12 fun ho hh => ?_
  have l1 := fun (L : List AB) k q => lit1 (h := h) L k ((1, 1), dgB 7) q
  have l2 := fun (L : List AB) k q => lit1 (h := h) L k ((2, 1), dgB 7) q
  have l3 := fun (L : List AB) k q => lit2 (h := h) L k ((1, 1), dgB 7) ((2, 1), dgB 7) q
  have ln := fun (L : List AB) k a q => qWr (h := h) L k a q
  have lm := fun (L : List AB) k a b q => Q9H (h := h) L k a b q
  have ex1 := XTh
  have ex2 := J7r
  have ex3 : layG KBL [] ((1, 1), dgB 7) = [((1, 1), dgB 7)] := zen _
  have ex4 := s10 (dgB 7)
  have ex5 := eq_true (KsR (dgB 7))
  have ex6 := eq_true (Kth (dgB 7) (dgB 7))
  have ex7 : (∃ x ∈ ([((1, 1), dgB 7)] : List Hd), x.2 = dgB 7) = True := eq_true ⟨_, .head _, rfl⟩
  have u0 : (0 ≤ maxLen) = True := eq_true (by unfold maxLen; omega)
  have u1 : (1 ≤ maxLen) = True := eq_true (by unfold maxLen; omega)
  have u2 : (2 ≤ maxLen) = True := eq_true (by unfold maxLen; omega)
  have b7 : ((0 : Int) ≤ 7 ∧ (7 : Int) < 256) = True := eq_true (by decide)
  unfold w12
  simp only [XH8, QN9, X1r, X5W, zVq, simprocAttr, CO.tmps, Opd.tmps, optT, Nat.reducePow, Nat.reduceDiv, Nat.reduceMod, XhJ, qLW, YK6, ZZH, JrT, zSr, Kdw, Z2G, ZK2, J8m, ex1, ex2, ex3, ex4, ex5, ex6, ex7, l1, l2, l3, ln, lm, zlS, KGT, YaF, u0, u1, u2, Nat.zero_add, beq_self_eq_true, and_self, eq_self, ne_eq, not_false_eq_true, not_true_eq_false, decide_true, decide_false, b7, nsSl, slSl, XEe, zp7, ZOt, Zph, Ydx, XwU, Kb6, Ke3, qy3, XAL, KJo, List.all_append, List.length_cons, List.length_nil, QNE hh, QFK hz, K9V hz, Ksi hz]
  exact ⟨rfl, rfl, Bt.dropB _ hh rfl⟩
 ·cases e
end Go.Proofs.YtfaccliekejngaaGreat
end
section
namespace Go.Proofs.YtfaccliekejngaaGreat
set_option maxRecDepth 100000
set_option maxHeartbeats 4000000
def kz {α : Type} (r : Row α) (l : List α) : Option Nat := if l.length = 0 then none else some r.sz
theorem qsW {α : Type} {r : Row α} (hr : r.sz ≠ 0) (l : List α) (id n c : Nat) : AV.kn (.sl id 0 n c (kz r l)) = true := by
 unfold kz
 split
 ·cases n <;> rfl
 ·cases hs : r.sz with
  | zero => exact absurd hs hr
  | succ k => cases n <;> rfl
noncomputable def ZlX : List AV → List AB → Option (AV × List AB)
 | [a], h => (getS dotR h a).bind fun xs => if xs.length = 0 then some (.sl h.length 0 0 0 none, h ++ [.blk true true []]) else none
 | _, _ => none
theorem JAR : Spec Tryz.prog 52 ZlX := by
 intro args h v h' e
 unfold ZlX at e
 split at e
 ·rename_i a
  obtain ⟨xs, hs, e⟩ := YI8 e
  split at e
  ·rename_i h0
   cases e
   refine FnAt.c (FnAt.run (by kernel_rfl) (T := ⟨[], []⟩) ⟨trivial, trivial⟩ Tryz.func52 sw52 fun ho hh => ?_)
   simp only [qMC, Bool.and_eq_true] at ho
   have f1 := hs.fx ho.1 (sz := 2) rfl
   have u1 := hs.src (sz := 2) rfl
   have hx : xs = [] := List.eq_nil_of_length_eq_zero h0
   subst hx
   unfold w52
   simp only [XH8, QN9, X1r, zVq, simprocAttr, f1, u1, Qj7, List.length_nil]
   exact Bt.eq rfl rfl
  ·cases e
 ·cases e
noncomputable def qnf : List AV → List AB → Option (AV × List AB)
 | [a], h => (getS dotR h a).bind fun xs => if xs.length ≤ 1000000 then some (.sl h.length 0 xs.length xs.length (kz dotR xs), h ++ [.blk true true (dotR.cells xs)]) else none
 | _, _ => none
theorem zZz : Spec Tryz.prog 52 qnf := by
 intro args h v h' e
 unfold qnf at e
 split at e
 ·rename_i a
  obtain ⟨xs, hs, e⟩ := YI8 e
  split at e
  ·rename_i hl
   cases e
   by_cases h0 : xs.length = 0
   ·refine JAR _ _ _ _ ?_
    have hx : xs = [] := List.eq_nil_of_length_eq_zero h0
    subst hx
    simp only [ZlX, hs.get, Option.bind_some]
    rfl
   ·refine q0D _ _ _ _ ?_
    simp only [zVt, hs.get, Option.bind_some]
    rw [if_pos hl, ZZP _ h0, XCu _ h0]
    unfold kz
    rw [if_neg h0]
  ·cases e
 ·cases e
noncomputable def XmE : List AV → List AB → Option (AV × List AB)
 | [.ag [v, d]], h => (getS intR h v).bind fun xs => (getS dotR h d).bind fun ds => if xs.length ≤ 1000000 ∧ ds.length ≤ 1000000 then some (.ag [rsl intR h.length xs, .sl (h.length + 1) 0 ds.length ds.length (kz dotR ds)], h ++ [resB intR true xs, .blk true true (dotR.cells ds)]) else none
 | _, _ => none
theorem YSc : Spec Tryz.prog 14 XmE := by
 intro args h v h' e
 unfold XmE at e
 split at e
 ·rename_i v d
  obtain ⟨xs, hv, e⟩ := YI8 e
  obtain ⟨ds, hd, e⟩ := YI8 e
  split at e
  ·rename_i hl
   cases e
   refine FnAt.c (FnAt.frz fun hz => ?_)
   rw [show h.length = (h.map AB.freeze).length from (List.length_map _).symm]
   replace hv := hv.frz
   replace hd := hd.frz
   generalize h.map AB.freeze = h at *
   refine FnAt.run (by kernel_rfl) (T := ⟨[⟨51, JhR, fun _ => []⟩, ⟨52, qnf, fun _ => []⟩], []⟩) ⟨⟨QLZ, zZz, trivial⟩, trivial⟩ Tryz.func14 sw14 fun ho hh => ?_
   simp only [qMC, JAX, Bool.and_eq_true] at ho
   have f1 := hv.fx ho.1.1 (sz := 1) rfl
   have f2 := hd.fx ho.1.2.1 (sz := 2) rfl
   unfold w14
   simp only [XH8, QN9, X1r, Z1D, zVq, simprocAttr, CO.tmps, Opd.tmps, optT, Nat.reducePow, Nat.reduceDiv, Nat.reduceMod, f1, f2, JhR, qnf, hl.1, hl.2, QNE hh, QZp hz]
   exact Bt.sel [2, 3] hh (by simp) (by simp only [q9C, FrSel, BlkSel, AV.ren, renL, AV.ok, okL, Option.some.injEq, exists_eq_left', List.length_cons, List.length_nil, Nat.reduceAdd, Nat.reduceLT, reduceCtorEq, implies_true, exists_eq', zfI]) (by simp only [q9C, FrSel, BlkSel, AV.ren, renL, AV.ok, okL, Option.some.injEq, exists_eq_left', List.length_cons, List.length_nil, Nat.reduceAdd, Nat.reduceLT, reduceCtorEq, implies_true, exists_eq'])
  ·cases e
 ·cases e
noncomputable def Klb : List AV → List AB → Option (AV × List AB)
 | [.ag [l, v, d]], h => (getS qjO h l).bind fun hs => (getS intR h v).bind fun xs => (getS dotR h d).bind fun ds => if hs.length ≤ 1000000 ∧ xs.length ≤ 1000000 ∧ ds.length ≤ 1000000 then
   some (.ag [.sl h.length 0 hs.length hs.length (kz qjO hs), rsl intR (h.length + 1) xs, .sl (h.length + 2) 0 ds.length ds.length (kz dotR ds)], h ++ [.blk true true (qjO.cells hs), resB intR true xs, .blk true true (dotR.cells ds)]) else none
 | _, _ => none
theorem Jeb : Spec Tryz.prog 13 Klb := by
 intro args h v h' e
 unfold Klb at e
 split at e
 ·rename_i l s t
  obtain ⟨hs, hl, e⟩ := YI8 e
  obtain ⟨xs, hv, e⟩ := YI8 e
  obtain ⟨ds, hd, e⟩ := YI8 e
  split at e
  ·rename_i hL
   cases e
   refine FnAt.c (FnAt.frz fun hz => ?_)
   rw [show h.length = (h.map AB.freeze).length from (List.length_map _).symm]
   replace hl := hl.frz
   replace hv := hv.frz
   replace hd := hd.frz
   generalize h.map AB.freeze = h at *
   refine FnAt.run (by kernel_rfl) (T := ⟨[⟨14, XmE, fun _ => []⟩], []⟩) ⟨⟨YSc, trivial⟩, trivial⟩ Tryz.func13 sw13 fun ho hh => ?_
   simp only [qMC, JAX, Bool.and_eq_true] at ho
   have f1 := hl.fx ho.1.1 (sz := 34) rfl
   have f2 := hv.fx ho.1.2.1 (sz := 1) rfl
   have f3 := hd.fx ho.1.2.2.1 (sz := 2) rfl
   have u1 := hl.src (sz := 34) rfl
   obtain ⟨g1, g2, g3⟩ := hL
   have z1 : (hs.length * 48 ≤ 140737488355328 ∧ hs.length ≤ maxLen) = True := eq_true ⟨by omega, by unfold maxLen; omega⟩
   unfold w13
   by_cases h0 : hs.length = 0
   ·have hx : hs = [] := List.eq_nil_of_length_eq_zero h0
    subst hx
    simp only [XH8, QN9, X1r, X5W, zVq, simprocAttr, CO.tmps, Opd.tmps, optT, Nat.reducePow, Nat.reduceDiv, Nat.reduceMod, f1, f2, f3, u1, XmE, g2, g3, List.length_nil, Qj7, QNE hh, QFK hz, K9V hz, Ksi hz]
    exact Bt.sel [2, 3, 4] hh (by decide) (by simp only [q9C, FrSel, BlkSel, AV.ren, renL, AV.ok, okL, Option.some.injEq, exists_eq_left', List.length_cons, List.length_nil, Nat.reduceAdd, Nat.reduceLT, reduceCtorEq, implies_true, exists_eq', zfI, Qj7]) (by simp only [q9C, FrSel, BlkSel, AV.ren, renL, AV.ok, okL, Option.some.injEq, exists_eq_left', List.length_cons, List.length_nil, Nat.reduceAdd, Nat.reduceLT, reduceCtorEq, implies_true, exists_eq', kz, if_true])
   ·have h0' := eq_false h0
    simp only [XH8, QN9, X1r, X5W, zVq, simprocAttr, CO.tmps, Opd.tmps, optT, Nat.reducePow, Nat.reduceDiv, Nat.reduceMod, f1, f2, f3, u1, XmE, g2, g3, h0', z1, JpP, QNE hh, QFK hz, K9V hz, Ksi hz]
    exact Bt.sel [3, 4, 5] hh (by decide) (by simp only [q9C, FrSel, BlkSel, AV.ren, renL, AV.ok, okL, Option.some.injEq, exists_eq_left', List.length_cons, List.length_nil, Nat.reduceAdd, Nat.reduceLT, reduceCtorEq, implies_true, exists_eq', zfI]) (by simp only [q9C, FrSel, BlkSel, AV.ren, renL, AV.ok, okL, Option.some.injEq, exists_eq_left', List.length_cons, List.length_nil, Nat.reduceAdd, Nat.reduceLT, reduceCtorEq, implies_true, exists_eq', YuL, kz, h0', if_false])
  ·cases e
 ·cases e
end Go.Proofs.YtfaccliekejngaaGreat
end
section
namespace Go.Proofs.YtfaccliekejngaaGreat
set_option maxRecDepth 100000
set_option maxHeartbeats 4000000
theorem zrV : Spec Tryz.prog 122 JoE := by
 intro args h v h' e
 unfold JoE at e
 split at e
 ·rename_i a b c d
  cases e
  refine FnAt.c (FnAt.run (by kernel_rfl) (T := ⟨[], []⟩) ⟨trivial, trivial⟩ Tryz.func122 YbE fun ho hh => ?_)
  unfold w122
  simp only [XH8, QN9, X1r, X5W, zVq, simprocAttr, CO.tmps, Opd.tmps, optT, Nat.reducePow, Nat.reduceDiv, Nat.reduceMod]
  refine ⟨fun h1 => ?_, fun h1 => ⟨fun h2 => ?_, fun h2 => ?_⟩⟩ <;> exact Bt.dropB _ hh (by simp [ZwT, *])
 ·cases e
noncomputable def ZUI : List AV → List AB → Option (AV × List AB)
 | [l, .ag [s, t]], h => (getS qjO h l).bind fun hs => (getS intR h s).bind fun v => (getS dotR h t).bind fun ds => some (.b (decide (K16 v ds hs hs.length)), h)
 | _, _ => none
theorem KUT : Spec Tryz.prog 86 ZUI := by
 intro args h v h' e
 unfold ZUI at e
 split at e
 ·rename_i l s t
  obtain ⟨hs, hl, e⟩ := YI8 e
  obtain ⟨xs, hv, e⟩ := YI8 e
  obtain ⟨ds, hd, e⟩ := YI8 e
  cases e
  refine FnAt.c (FnAt.frz0 fun hz => ?_)
  replace hl := hl.frz
  replace hv := hv.frz
  replace hd := hd.frz
  generalize h.map AB.freeze = h at *
  refine FnAt.run (by kernel_rfl) (T := ⟨[⟨122, JoE, fun _ => []⟩, ⟨63, zEW, fun _ => []⟩], []⟩) ⟨⟨zrV, QKM, trivial⟩, trivial⟩ Tryz.func86 sw86 fun ho hh => ?_
  simp only [qMC, JAX, Bool.and_eq_true] at ho
  have f1 := hl.fx ho.1 (sz := 34) rfl
  have f2 := hv.fx ho.2.1.1 (sz := 1) rfl
  have f3 := hd.fx ho.2.1.2.1 (sz := 2) rfl
  have f4 := zxg hl
  unfold w86
  simp only [XH8, QN9, X1r, X5W, zVq, simprocAttr, CO.tmps, Opd.tmps, optT, Nat.reducePow, Nat.reduceDiv, Nat.reduceMod, f1, f2, f3]
  refine YMr (S := Nat) (fun i => hs.length - i) (fun i => [l] ++ tp 2 ++ [.p (h.length + 0) 0] ++ tp 1 ++ [.i .i64 i] ++ tp 33) (fun i => i ≤ hs.length ∧ K16 xs ds hs i) 0 ⟨Nat.zero_le _, fun k hk => absurd hk (Nat.not_lt_zero _)⟩ (by simp only [X1r, zVq, simprocAttr]) fun i hi => ?_
  by_cases g1 : i < hs.length
  ·have g1' := eq_true g1
   have e1 : IntKind.i64.wrap ((i : Int) + 1) = ((i + 1 : Nat) : Int) := ZL4 (by have := hl.2; unfold maxLen at this; unfold In64; omega)
   have hstep : K16 xs ds hs (i + 1) ↔ (0 < i → ZwT (hs.getD (i - 1) qjO.d).1 (hs.getD i qjO.d).1) ∧ (KXy xs ds = 0 ∧ YlY xs ds (hs.getD i qjO.d).1) := by
    constructor
    ·intro q
     exact q i (Nat.lt_succ_self i)
    ·rintro q k hk
     rcases Nat.lt_succ_iff_lt_or_eq.1 hk with z | rfl
     ·exact hi.2 k z
     ·exact q
   have hbad : ¬ K16 xs ds hs (i + 1) → decide (K16 xs ds hs hs.length) = false := fun q => decide_eq_false fun z => q fun k hk' => z k (by omega)
   by_cases g0 : i = 0
   ·have gz : ((0 : Int) < (i : Int)) = False := eq_false (by omega)
    simp only [X1r, X5W, zVq, simprocAttr, CO.tmps, Opd.tmps, optT, Nat.reducePow, Nat.reduceDiv, Nat.reduceMod, f1, f2, f3, f4, g1', gz, JoE, zEW, QNE hh, QFK hz, K9V hz, Ksi hz]
    refine ⟨fun q => Bt.dropB _ hh (hbad fun z => q (hstep.1 z).2).symm, fun q => ?_⟩
    rw [e1]
    exact ⟨i + 1, ⟨g1, hstep.2 ⟨fun z => absurd z (by omega), Decidable.not_not.1 q⟩⟩, by omega, Wk.refl _⟩
   ·have gz : ((0 : Int) < (i : Int)) = True := eq_true (by omega)
    have e2 : IntKind.i64.wrap ((i : Int) - 1) = ((i - 1 : Nat) : Int) := by
     have : (i : Int) - 1 = ((i - 1 : Nat) : Int) := by omega
     rw [this]
     exact ZL4 (by have := hl.2; unfold maxLen at this; unfold In64; omega)
    have g2' : (i - 1 < hs.length) = True := eq_true (by omega)
    simp only [X1r, X5W, zVq, simprocAttr, CO.tmps, Opd.tmps, optT, Nat.reducePow, Nat.reduceDiv, Nat.reduceMod, f1, f2, f3, f4, g1', g2', e2, gz, JoE, zEW, QNE hh, QFK hz, K9V hz, Ksi hz]
    refine ⟨fun q => Bt.dropB _ hh (hbad fun z => q ((hstep.1 z).1 (by omega))).symm, fun p => ⟨fun q => Bt.dropB _ hh (hbad fun z => q (hstep.1 z).2).symm, fun q => ?_⟩⟩
    rw [e1]
    exact ⟨i + 1, ⟨g1, hstep.2 ⟨fun _ => Decidable.not_not.1 p, Decidable.not_not.1 q⟩⟩, by omega, Wk.refl _⟩
  ·obtain rfl : i = hs.length := by omega
   have g1' := eq_false g1
   simp only [X1r, X5W, zVq, simprocAttr, CO.tmps, Opd.tmps, optT, Nat.reducePow, Nat.reduceDiv, Nat.reduceMod, f1, f2, f3, f4, g1']
   exact Bt.dropB _ hh (decide_eq_true hi.2).symm
 ·cases e
theorem JxU : Spec Tryz.prog 32 Q1I := by
 intro args h v h' e
 unfold Q1I at e
 split at e
 ·rename_i l s t
  obtain ⟨hs, hl, e⟩ := YI8 e
  obtain ⟨xs, hv, e⟩ := YI8 e
  obtain ⟨ds, hd, e⟩ := YI8 e
  cases e
  refine FnAt.c (FnAt.run (by kernel_rfl) (T := ⟨[⟨61, X1L, fun _ => []⟩, ⟨86, ZUI, fun _ => []⟩], []⟩) ⟨⟨qeV, KUT, trivial⟩, trivial⟩ Tryz.func32 sw32 fun ho hh => ?_)
  simp only [qMC, JAX, Bool.and_eq_true] at ho
  have f1 := hl.fx ho.1.1 (sz := 34) rfl
  have f2 := hv.fx ho.1.2.1 (sz := 1) rfl
  have f3 := hd.fx ho.1.2.2.1 (sz := 2) rfl
  unfold w32
  by_cases c : KXy xs ds = 0
  case neg =>
   have c' := eq_false c
   have c2 : (KXy xs ds == 0) = false := beq_eq_false_iff_ne.2 c
   simp only [XH8, QN9, X1r, X5W, zVq, simprocAttr, CO.tmps, Opd.tmps, optT, Nat.reducePow, Nat.reduceDiv, Nat.reduceMod, f1, f2, f3, X1L, c', c2, not_false_eq_true, decide_true, decide_false]
   exact Bt.dropI _ hh (by unfold Kq6; rw [if_pos c])
  have hk : Kq6 hs xs ds = if K16 xs ds hs hs.length then 0 else 2 := by unfold Kq6; rw [if_neg (not_not_intro c)]
  rw [hk]
  by_cases q : K16 xs ds hs hs.length
  ·have q' := eq_true q
   rw [if_pos q]
   simp only [XH8, QN9, X1r, X5W, zVq, simprocAttr, CO.tmps, Opd.tmps, optT, Nat.reducePow, Nat.reduceDiv, Nat.reduceMod, f1, f2, f3, X1L, ZUI, c, q', not_false_eq_true, decide_true, decide_false]
   exact Bt.dropI _ hh rfl
  ·have q' := eq_false q
   rw [if_neg q]
   simp only [XH8, QN9, X1r, X5W, zVq, simprocAttr, CO.tmps, Opd.tmps, optT, Nat.reducePow, Nat.reduceDiv, Nat.reduceMod, f1, f2, f3, X1L, ZUI, c, q', not_false_eq_true, decide_true, decide_false]
   exact Bt.dropI _ hh rfl
 ·cases e
end Go.Proofs.YtfaccliekejngaaGreat
end
section
namespace Go.Proofs.YtfaccliekejngaaGreat
set_option maxRecDepth 100000
set_option maxHeartbeats 4000000
theorem QlK : ∀ (i : Nat) (l m : List UInt8), i ≤ l.length → i ≤ m.length → l.take i = m.take i → cmpB l m = cmpB (l.drop i) (m.drop i)
 | 0, _, _, _, _, _ => rfl
 | i + 1, [], _, h, _, _ => by simp at h
 | i + 1, _ :: _, [], _, h, _ => by simp at h
 | i + 1, a :: l, b :: m, h1, h2, e => by
  simp only [List.take_succ_cons, List.cons.injEq] at e
  obtain ⟨rfl, e⟩ := e
  rw [List.drop_succ_cons, List.drop_succ_cons, ← QlK i l m (by simpa using h1) (by simpa using h2) e]
  conv => lhs; unfold cmpB
  rw [if_neg (UInt8.lt_irrefl a), if_neg (UInt8.lt_irrefl a)]
theorem JPw (x : Dg) {i : Nat} (h : i < 32) : (idR.f x)[i]? = some (.i .u8 ((x.l.getD i 0).toNat : Int)) := by
 show (x.l.map u8A)[i]? = _
 have hl : i < x.l.length := by rw [x.h]; exact h
 rw [List.getElem?_map, List.getD_eq_getElem?_getD, List.getElem?_eq_getElem hl]
 rfl
def iaaV (k sz : Nat) (x i : AV) : Option AV := match x, i with
 | .p id off, .i _ n => if 0 ≤ n ∧ n < k then some (.p id (off + n.toNat * sz)) else none
 | _, _ => none
theorem QSg {T : Env} {fr : List AV} {h : List AB} (k sz : Nat) (x i : Opd) : opR T (.iaa k sz x i) fr h = (iaaV k sz (x.ev fr) (i.ev fr)).map (·, h) := by
 show (match x.ev fr, i.ev fr with
  | .p id off, .i _ n => if 0 ≤ n ∧ n < k then some (AV.p id (off + n.toNat * sz), h) else none
  | _, _ => none) = _
 unfold iaaV
 split
 ·split <;> rfl
 ·rfl
theorem qtf (k sz id off : Nat) (kk : IntKind) (n : Nat) (hn : n < k) : iaaV k sz (.p id off) (.i kk (n : Int)) = some (.p id (off + n * sz)) := by
 unfold iaaV
 simp only [Int.toNat_natCast]
 rw [if_pos ⟨by omega, by omega⟩]
theorem QZJ : Spec Tryz.prog 83 KNS := by
 intro args h v h' e
 unfold KNS at e
 split at e
 ·rename_i a b
  obtain ⟨x, hx, e2⟩ := Kky e
  obtain ⟨y, hy, e3⟩ := Kky e2
  clear e e2
  subst hx hy
  cases e3
  refine FnAt.c (FnAt.frz0 fun hz => ?_)
  generalize h.map AB.freeze = h at *
  refine FnAt.run (by kernel_rfl) (T := ⟨[], []⟩) ⟨trivial, trivial⟩ Tryz.func83 sw83 fun ho hh => ?_
  unfold w83
  simp only [XH8, QN9, X1r, X5W, zVq, simprocAttr, CO.tmps, Opd.tmps, optT, Nat.reducePow, Nat.reduceDiv, Nat.reduceMod, Ydx, XwU]
  refine YHj (S := Nat) (fun i => 32 - i) (fun i => tp 2 ++ [.p (h.length + 0) 0, .p (h.length + 1) 0] ++ tp 1 ++ [.i .i64 i] ++ tp 18) (fun _ => h ++ [.blk true true (idR.f x), .blk true true (idR.f y)]) (fun i => i ≤ 32 ∧ x.l.take i = y.l.take i) 0 ⟨Nat.zero_le _, rfl⟩ (Bt.wk (by simp only [X1r, zVq, simprocAttr])) fun i hi => ?_
  obtain ⟨hi, hp⟩ := hi
  have lx : x.l.length = 32 := x.h
  have ly : y.l.length = 32 := y.h
  have hc := QlK i x.l y.l (by omega) (by omega) hp
  by_cases g1 : i < 32
  ·have g1' : ((i : Int) < 32) = True := eq_true (by omega)
   have e1 : IntKind.i64.wrap ((i : Int) + 1) = ((i + 1 : Nat) : Int) := ZL4 (by unfold In64; omega)
   have gx := JPw x g1
   have gy := JPw y g1
   have dx : x.l.drop i = x.l.getD i 0 :: x.l.drop (i + 1) := by
    rw [List.drop_eq_getElem_cons (by omega), List.getD_eq_getElem?_getD, List.getElem?_eq_getElem (by omega)]
    rfl
   have dy : y.l.drop i = y.l.getD i 0 :: y.l.drop (i + 1) := by
    rw [List.drop_eq_getElem_cons (by omega), List.getD_eq_getElem?_getD, List.getElem?_eq_getElem (by omega)]
    rfl
   have tx : x.l.take (i + 1) = x.l.take i ++ [x.l.getD i 0] := by
    rw [List.take_succ_eq_append_getElem (by omega), List.getD_eq_getElem?_getD, List.getElem?_eq_getElem (by omega)]
    rfl
   have ty : y.l.take (i + 1) = y.l.take i ++ [y.l.getD i 0] := by
    rw [List.take_succ_eq_append_getElem (by omega), List.getD_eq_getElem?_getD, List.getElem?_eq_getElem (by omega)]
    rfl
   rw [dx, dy] at hc
   obtain ⟨a, ha⟩ : ∃ a, x.l.getD i 0 = a := ⟨_, rfl⟩
   obtain ⟨b, hb⟩ : ∃ b, y.l.getD i 0 = b := ⟨_, rfl⟩
   rw [ha] at gx tx hc
   rw [hb] at gy ty hc
   rw [show cmpB (a :: x.l.drop (i + 1)) (b :: y.l.drop (i + 1)) = if a < b then -1 else if b < a then 1 else cmpB (x.l.drop (i + 1)) (y.l.drop (i + 1)) from rfl] at hc
   by_cases c1 : a < b
   ·have c1' : ((a.toNat : Int) < (b.toNat : Int)) = True := eq_true (by have := UInt8.lt_iff_toNat_lt.1 c1; omega)
    rw [if_pos c1] at hc
    simp only [X1r, X5W, zVq, simprocAttr, CO.tmps, Opd.tmps, optT, Nat.reducePow, Nat.reduceDiv, Nat.reduceMod, g1', g1, QSg, qtf, gx, gy, c1', Nat.mul_one, Nat.zero_add, QNE hh, QFK hz, K9V hz, Ksi hz]
    exact Bt.dropI _ hh hc.symm
   rw [if_neg c1] at hc
   have c1' : ((a.toNat : Int) < (b.toNat : Int)) = False := eq_false (fun q => c1 (UInt8.lt_iff_toNat_lt.2 (by omega)))
   by_cases c2 : b < a
   ·have c2' : ((b.toNat : Int) < (a.toNat : Int)) = True := eq_true (by have := UInt8.lt_iff_toNat_lt.1 c2; omega)
    rw [if_pos c2] at hc
    simp only [X1r, X5W, zVq, simprocAttr, CO.tmps, Opd.tmps, optT, Nat.reducePow, Nat.reduceDiv, Nat.reduceMod, g1', g1, QSg, qtf, gx, gy, c1', c2', Nat.mul_one, Nat.zero_add, QNE hh, QFK hz, K9V hz, Ksi hz]
    exact Bt.dropI _ hh hc.symm
   have c2' : ((b.toNat : Int) < (a.toNat : Int)) = False := eq_false (fun q => c2 (UInt8.lt_iff_toNat_lt.2 (by omega)))
   have hab : a = b := by
    have q1 : ¬ a.toNat < b.toNat := fun q => c1 (UInt8.lt_iff_toNat_lt.2 q)
    have q2 : ¬ b.toNat < a.toNat := fun q => c2 (UInt8.lt_iff_toNat_lt.2 q)
    exact UInt8.toNat_inj.1 (by omega)
   simp only [X1r, X5W, zVq, simprocAttr, CO.tmps, Opd.tmps, optT, Nat.reducePow, Nat.reduceDiv, Nat.reduceMod, g1', g1, QSg, qtf, gx, gy, c1', c2', e1, Nat.mul_one, Nat.zero_add, QNE hh, QFK hz, K9V hz, Ksi hz]
   exact ⟨i + 1, ⟨by omega, by rw [tx, ty, hp, hab]⟩, by dsimp only; omega, Bt.wk (by simp only [X1r, zVq, simprocAttr])⟩
  ·obtain rfl : i = 32 := by omega
   have g1' : (((32 : Nat) : Int) < 32) = False := eq_false (by omega)
   have hc0 : cmpG x y = 0 := by
    show cmpB x.l y.l = 0
    rw [hc, List.drop_eq_nil_of_le (by omega), List.drop_eq_nil_of_le (by omega)]
    rfl
   simp only [X1r, X5W, zVq, simprocAttr, CO.tmps, Opd.tmps, optT, Nat.reducePow, Nat.reduceDiv, Nat.reduceMod, g1', QSg, QNE hh, QFK hz, K9V hz, Ksi hz]
   exact Bt.dropI _ hh hc0.symm
 ·cases e
end Go.Proofs.YtfaccliekejngaaGreat
end
section
namespace Go.Proofs.YtfaccliekejngaaGreat
set_option maxRecDepth 100000
set_option maxHeartbeats 8000000
theorem JMY (h : List AB) : Yph [.ag [.ns, .ns, .ns]] h = some (.tu [], h) := rfl
theorem ZCZ {h L : List AB} {l : List Hd} {v : List Int} {m : Dots} {i j k : Nat} (hi : ownM qjO l L i) (hj : ownM intR v L j) (hk : ownM dotR m L k) (hl : l.length ≤ 1000000) (hv : v.length ≤ 1000000) (hm : m.length ≤ 1000000) (n1 : (i = j) = False) (n2 : (i = k) = False) (n3 : (j = k) = False) :
  Yph [.ag [rsl qjO (h.length + i) l, rsl intR (h.length + j) v, rsl dotR (h.length + k) m]] (h ++ L) = some (.tu [], h ++ Ycl (Ycl (Ycl L i) j) k) := by
 have h1 : (h ++ L)[h.length + i]? = some (resB qjO true l) := by rw [Yn6]; exact ZLZ l L i hi
 have h2 : (h ++ L)[h.length + j]? = some (resB intR true v) := by rw [Yn6]; exact ZLZ v L j hj
 have h3 : (h ++ L)[h.length + k]? = some (resB dotR true m) := by rw [Yn6]; exact ZLZ m L k hk
 have g1 : getS qjO (h ++ L) (rsl qjO (h.length + i) l) = some l := (zRx h1 (by unfold maxLen; omega)).get
 have g2 : getS intR (h ++ L) (rsl intR (h.length + j) v) = some v := (zRx h2 (by unfold maxLen; omega)).get
 have g3 : getS dotR (h ++ L) (rsl dotR (h.length + k) m) = some m := (zRx h3 (by unfold maxLen; omega)).get
 have m1 : ¬ i = j := fun q => by rw [q] at n1; simp at n1
 have m2 : ¬ i = k := fun q => by rw [q] at n2; simp at n2
 have m3 : ¬ j = k := fun q => by rw [q] at n3; simp at n3
 unfold Yph
 split
 ·rename_i q
  simp only [List.cons.injEq, AV.ag.injEq] at q
  exact absurd q.1.1 (qY8 _ _ _)
 ·rename_i q
  simp only [List.cons.injEq, AV.ag.injEq, and_true] at q
  obtain ⟨rfl, rfl, rfl⟩ := q
  rw [g1, g2, g3]
  simp only [Option.bind_some, XPg]
  rw [if_pos ⟨rfl, h1, rfl, h2, rfl, h3, by omega, by omega, by omega, hl, hv, hm⟩, ZII, ZII, ZII]
  rw [zpT, zpT, zpT]
 ·rename_i q1 q2
  first | exact (q2 _ _ _ rfl).elim | exact (q2 _ _ _ rfl rfl).elim | exact (q1 _ _ _ rfl rfl).elim
theorem KDG {h : List AB} {v : List Int} {ds : Dots} (hr : J6E v ds) (L : List AB) (k : Nat) (hL : ownC L k = some (intR.cells (fmR v (layR ds)).1)) : getS intR (h ++ L) (.sl (h.length + k) 0 (topI (fmR v (layR ds)).1 16) 16 none) = some (fmO v ds).1 := by
 have inv := Jyu v hr.1 hr.2.1 (fun d hd => hr.2.2 d (XTx ds d hd)) (Nat.le_refl (layR ds).length)
 rw [List.take_length] at inv
 have t1 := ZGW (fmR v (layR ds)).1 16
 exact (zDF hL (by unfold maxLen; omega) (by omega)).get
end Go.Proofs.YtfaccliekejngaaGreat
end
section
namespace Go.Proofs.YtfaccliekejngaaGreat
set_option maxRecDepth 100000
set_option maxHeartbeats 4000000
theorem ZiD {h : List AB} (L : List AB) (k i n sz by_ m : Nat) (ys : List AV) (hb : YpO L k = true) (hx : (blkX L k).length = n * sz) (hs : sz ≠ 0) (hi : i < n) (hm : n < i + m) (h1 : (i + m) * by_ ≤ 140737488355328) (h2 : i + m ≤ maxLen) :
  appW (h ++ L) true sz by_ (.sl (h.length + k) 0 i n (some sz)) m ys = some (.sl (h.length + L.length) 0 (i + m) (i + m) (some sz), h ++ (Ycl L k ++ [.blk true true ((blkX L k).take (i * sz) ++ ys)])) := by
 have hx2 := Kwk L k hb
 have hlt : i * sz < n * sz := Nat.mul_lt_mul_of_pos_right hi (by omega)
 unfold appW
 dsimp only
 rw [if_neg (by omega : ¬ m = 0), if_neg (by omega), Yn6, hx2]
 simp only [true_and, Nat.zero_add, hx, Nat.le_of_lt hlt, h1, h2, and_self, if_true, reduceCtorEq, if_false, List.drop_zero, List.length_append]
 rw [if_neg (fun q => by omega), if_pos ⟨hs, trivial⟩, ZII, List.set_append_right _ _ (by omega), Nat.add_sub_cancel_left, List.append_assoc]
theorem KRe (id n i sz : Nat) (hi : i ≤ n) : slL sz (.sl id 0 n n (some sz)) none (some (.i .i64 (i : Int))) none = some (.sl id 0 i n (some sz)) := by
 simp only [slL, bnd, Option.map_some, if_true]
 rw [if_pos (by omega)]
 simp
theorem JIT (id n i sz : Nat) (hi : i < n) : ∃ kk, slL sz (.sl id 0 n n (some sz)) (some (.i .i64 (i : Int))) none none = some (.sl id (i * sz) (n - i) (n - i) kk) ∧ ∀ id2, slL sz (.sl id2 0 n n (some sz)) (some (.i .i64 (i : Int))) none none = some (.sl id2 (i * sz) (n - i) (n - i) kk) := by
 by_cases h0 : i = 0
 ·subst h0
  exact ⟨some sz, by simp [slL, bnd], fun id2 => by simp [slL, bnd]⟩
 ·refine ⟨kcut (some sz) sz, ?_, fun id2 => ?_⟩ <;> simp [slL, bnd, h0, hi] <;> omega
theorem Q52 (id n sz : Nat) (hn : n ≠ 0) : slL sz (.sl id 0 n n (some sz)) (some (.i .i64 (n : Int))) none none = some .se := by
 simp [slL, bnd, hn]
end Go.Proofs.YtfaccliekejngaaGreat
end
