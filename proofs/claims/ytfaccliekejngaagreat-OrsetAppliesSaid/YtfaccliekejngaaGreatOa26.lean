/- Part 26 of what the laws' proofs rest on. No condition. -/
import Derived.Test.YtfaccliekejngaaGreatOa25
set_option linter.all false
section
namespace Go.Proofs.YtfaccliekejngaaGreat
set_option maxRecDepth 100000
set_option maxHeartbeats 4000000
def QrH : List AV → List AB → Option (AV × List AB)
 | [.i .i64 a, .i .i64 b], h => some (.ag [.i .i64 a, .i .i64 b], h)
 | _, _ => none
theorem Y8U : Spec Tryz.prog 42 QrH := by
 intro args h v h' e
 unfold QrH at e
 split at e
 ·cases e
  refine FnAt.c (FnAt.run (by kernel_rfl) (T := ⟨[], []⟩) ⟨trivial, trivial⟩ Tryz.func42 sw42 fun ho hh => ?_)
  unfold w42
  simp only [YGO, Jyg, X5g, QXB, simprocAttr]
  exact Bt.drop _ hh rfl (by simp only [QTF, znG, J2K, Z4M, XzQ, ok_i, Bool.and_true])
 ·cases e
def Xaw : List AV → List AB → Option (AV × List AB)
 | [.i .u8 n], h => if 0 ≤ n ∧ n < 256 then some (.ag (idR.f (dgB n)), h) else none
 | _, _ => none
theorem YRl : Spec Tryz.prog 43 Xaw := by
 intro args h v h' e
 unfold Xaw at e
 split at e
 ·rename_i n
  split at e
  ·rename_i hn
   cases e
   refine FnAt.c (FnAt.run (by kernel_rfl) (T := ⟨[], []⟩) ⟨trivial, trivial⟩ Tryz.func43 sw43 fun ho hh => ?_)
   unfold w43
   rw [K3W hn]
   simp only [YGO, Jyg, X5g, QXB, simprocAttr]
   exact Bt.drop _ hh rfl (by simp only [QTF, znG, J2K, Z4M, XzQ, ok_i, Bool.and_true])
  ·cases e
 ·cases e
def zh9 : List AV → List AB → Option (AV × List AB)
 | [.i .i64 a, .i .i64 b, .i .u8 n], h => if 0 ≤ n ∧ n < 256 then some (.ag (qdS.f ((a, b), dgB n)), h) else none
 | _, _ => none
theorem Yk3 : Spec Tryz.prog 41 zh9 := by
 intro args h v h' e
 unfold zh9 at e
 split at e
 ·rename_i a b n
  split at e
  ·rename_i hn
   cases e
   refine FnAt.c (FnAt.run (by kernel_rfl) (T := ⟨[⟨42, QrH, fun _ => []⟩, ⟨43, Xaw, fun _ => []⟩], []⟩) ⟨⟨Y8U, YRl, trivial⟩, trivial⟩ Tryz.func41 sw41 fun ho hh => ?_)
   have hn' := eq_true hn
   have e0 := K3W hn
   unfold w41
   rw [K9h, e0]
   simp only [YGO, Jyg, X5g, QXB, simprocAttr, QrH, Xaw, hn', e0]
   exact Bt.drop _ hh rfl (by simp only [QTF, znG, J2K, Z4M, XzQ, ok_i, Bool.and_true])
  ·cases e
 ·cases e
def Y88 : List AV → List AB → Option (AV × List AB)
 | [v, l], h => if v.isSl = true ∧ l.isSl = true then some (.ag [l, v, .ns], h) else none
 | _, _ => none
theorem YqF : Spec Tryz.prog 40 Y88 := by
 intro args h v h' e
 unfold Y88 at e
 split at e
 ·rename_i v l
  split at e
  ·rename_i hs
   cases e
   refine FnAt.c (FnAt.run (by kernel_rfl) (T := ⟨[], []⟩) ⟨trivial, trivial⟩ Tryz.func40 sw40 fun ho hh => ?_)
   simp only [znG, Bool.and_eq_true] at ho
   unfold w40
   simp only [YGO, Jyg, X5g, QXB, simprocAttr, qrP hs.1, qrP hs.2, zTI hs.1, zTI hs.2, QfT hs.1, QfT hs.2]
   exact Bt.drop _ hh rfl (by simp only [znG, J2K, Z4M, XzQ, Bool.and_true, ho.1, ho.2.1, Bool.and_self])
  ·cases e
 ·cases e
def jnS (hs : List Hd) (v : List Int) (ds : Dots) (hs' : List Hd) (v' : List Int) (ds' : Dots) (hw : List Hd) (vw : List Int) (dw : Dots) : Prop :=
 QjU hs v ds = 0 ∧ QjU hs' v' ds' = 0 ∧ J36 hs hs' ∧ (QRp v v' ds ds').2.length ≤ 4096 ∧ jnL hs hs' v v' ds ds' = hw ∧ (QRp v v' ds ds').1 = vw ∧ (QRp v v' ds ds').2 = dw
noncomputable instance (hs : List Hd) (v : List Int) (ds : Dots) (hs' : List Hd) (v' : List Int) (ds' : Dots) (hw : List Hd) (vw : List Int) (dw : Dots) : Decidable (jnS hs v ds hs' v' ds' hw vw dw) := Classical.propDecidable _
noncomputable def QIp : List AV → List AB → Option (AV × List AB)
 | [.ag [l, s, t], .ag [l', s', t'], .ag [lw, sw, tw]], h => (getS qdS h l).bind fun hs => (getS intR h s).bind fun v => (getS dotR h t).bind fun ds => (getS qdS h l').bind fun hs' => (getS intR h s').bind fun v' => (getS dotR h t').bind fun ds' => (getS qdS h lw).bind fun hw => (getS intR h sw).bind fun vw => (getS dotR h tw).bind fun dw =>
   if (hs.length ≤ 1000 ∧ hs'.length ≤ 1000) ∧ t.capOk = true ∧ t'.capOk = true then some (.b (decide (jnS hs v ds hs' v' ds' hw vw dw)), h) else none
 | _, _ => none
theorem XOP : Spec Tryz.prog 45 QIp := by
 intro args h v h' e
 unfold QIp at e
 split at e
 ·rename_i l s t l' s' t' lw sw tw
  obtain ⟨hs, hl, e⟩ := KsT e
  obtain ⟨xs, hv, e⟩ := KsT e
  obtain ⟨ds, hd, e⟩ := KsT e
  obtain ⟨hs', hl', e⟩ := KsT e
  obtain ⟨xs', hv', e⟩ := KsT e
  obtain ⟨ds', hd', e⟩ := KsT e
  obtain ⟨hw, hlw, e⟩ := KsT e
  obtain ⟨vw, hvw, e⟩ := KsT e
  obtain ⟨dw, hdw, e⟩ := KsT e
  split at e
  ·rename_i hc
   obtain ⟨⟨hL, hL'⟩, k1, k2⟩ := hc
   cases e
   refine FnAt.c (FnAt.run (by kernel_rfl) (T := ⟨[⟨15, ZAt, fun _ => []⟩, ⟨19, KNf, fun _ => []⟩], []⟩) ⟨⟨z3q, Q3m, trivial⟩, trivial⟩ Tryz.func45 sw45 fun ho hh => ?_)
   simp only [znG, Z4M, Bool.and_eq_true] at ho
   have f1 := hl.fx ho.1.1 (sz := 34) rfl
   have f2 := hv.fx ho.1.2.1 (sz := 1) rfl
   have f3 := hd.fx ho.1.2.2.1 (sz := 2) rfl
   have f4 := hl'.fx ho.2.1.1 (sz := 34) rfl
   have f5 := hv'.fx ho.2.1.2.1 (sz := 1) rfl
   have f6 := hd'.fx ho.2.1.2.2.1 (sz := 2) rfl
   have f7 := hlw.fx ho.2.2.1.1 (sz := 34) rfl
   have f8 := hvw.fx ho.2.2.1.2.1 (sz := 1) rfl
   have f9 := hdw.fx ho.2.2.1.2.2.1 (sz := 2) rfl
   have hL1 : (hs.length ≤ 10000) = True := eq_true (by omega)
   have hL2 : (hs'.length ≤ 10000) = True := eq_true (by omega)
   unfold w45
   by_cases c0 : QjU hs xs ds = 0
   case neg =>
    have c0' := eq_false c0
    simp only [YGO, Jyg, X5g, zLK, QXB, simprocAttr, CO.tmps, Opd.tmps, optT, Nat.reducePow, Nat.reduceDiv, Nat.reduceMod, f1, f2, f3, f4, f5, f6, f7, f8, f9, ZAt, KNf, c0', hL1, hL2, k1, k2, XoA, and_self, eq_self, ne_eq, not_false_eq_true, not_true_eq_false, decide_true, decide_false]
    exact Bt.dropB _ hh (decide_eq_false fun z => c0 z.1).symm
   by_cases c1 : QjU hs' xs' ds' = 0
   case neg =>
    have c1' := eq_false c1
    simp only [YGO, Jyg, X5g, zLK, QXB, simprocAttr, CO.tmps, Opd.tmps, optT, Nat.reducePow, Nat.reduceDiv, Nat.reduceMod, f1, f2, f3, f4, f5, f6, f7, f8, f9, ZAt, KNf, c0, c1', hL1, hL2, k1, k2, XoA, and_self, eq_self, ne_eq, not_false_eq_true, not_true_eq_false, decide_true, decide_false]
    exact Bt.dropB _ hh (decide_eq_false fun z => c1 z.2.1).symm
   by_cases c2 : J36 hs hs'
   case neg =>
    have c2' := eq_false c2
    simp only [YGO, Jyg, X5g, zLK, QXB, simprocAttr, CO.tmps, Opd.tmps, optT, Nat.reducePow, Nat.reduceDiv, Nat.reduceMod, f1, f2, f3, f4, f5, f6, f7, f8, f9, ZAt, KNf, c0, c1, c2', hL1, hL2, k1, k2, XoA, and_self, eq_self, ne_eq, not_false_eq_true, not_true_eq_false, decide_true, decide_false]
    exact Bt.dropB _ hh (decide_eq_false fun z => c2 z.2.2.1).symm
   have c2' := eq_true c2
   by_cases c3 : (QRp xs xs' ds ds').2.length ≤ 4096
   case neg =>
    have c3' := eq_false c3
    simp only [YGO, Jyg, X5g, zLK, QXB, simprocAttr, CO.tmps, Opd.tmps, optT, Nat.reducePow, Nat.reduceDiv, Nat.reduceMod, f1, f2, f3, f4, f5, f6, f7, f8, f9, ZAt, KNf, c0, c1, c2', c3', hL1, hL2, k1, k2, XoA, and_self, eq_self, ne_eq, not_false_eq_true, not_true_eq_false, decide_true, decide_false]
    exact Bt.dropB _ hh (decide_eq_false fun z => c3 z.2.2.2.1).symm
   have c3' := eq_true c3
   have n0 := YXL hs hs' xs xs' ds ds'
   have nj := Qld (Koi.1 c0).nf (Koi.1 c1).nf
   have n1 : ((jnL hs hs' xs xs' ds ds').length ≤ 1000000) = True := eq_true (by omega)
   have n2 : ((QRp xs xs' ds ds').1.length ≤ 1000000) = True := eq_true (by have := nj.rg.1; omega)
   have n3 : ((QRp xs xs' ds ds').2.length ≤ 1000000) = True := eq_true (by omega)
   simp only [YGO, Jyg, X5g, zLK, QXB, simprocAttr, CO.tmps, Opd.tmps, optT, Nat.reducePow, Nat.reduceDiv, Nat.reduceMod, f1, f2, f3, f4, f5, f6, f7, f8, f9, ZAt, KNf, c0, c1, c2', c3', hL1, hL2, k1, k2, n1, n2, n3, ZnW, and_self, eq_self, ne_eq, not_false_eq_true, not_true_eq_false, decide_true, decide_false]
   exact Bt.dropB _ hh (decide_eq_decide.2 ⟨fun z => ⟨c0, c1, c2, c3, z⟩, fun z => z.2.2.2.2⟩)
  ·cases e
 ·cases e
end Go.Proofs.YtfaccliekejngaaGreat
end
section
namespace Go.Proofs.YtfaccliekejngaaGreat
set_option maxRecDepth 100000
theorem ZiT {v : List Int} {ds : Dots} (c : X74 v ds = 0) : QjU [] v ds = 0 := Koi.2 ⟨JZA c, (zAo c).2.1, List.Pairwise.nil, fun x h => by cases h⟩
theorem qby {v : List Int} {ds : Dots} {x : Hd} (c : X74 v ds = 0) (h : q2o v ds x.1) : QjU [x] v ds = 0 := Koi.2 ⟨JZA c, (zAo c).2.1, List.pairwise_singleton _ _, fun y hy => by
 rw [List.mem_singleton.1 hy]
 exact (YCI (JZA c).rg _).1 h⟩
theorem qx5 {v : List Int} {ds : Dots} {x y : Hd} (c : X74 v ds = 0) (hx : q2o v ds x.1) (hy : q2o v ds y.1) (hxy : zpz x.1 y.1) : QjU [x, y] v ds = 0 := Koi.2 ⟨JZA c, (zAo c).2.1, List.pairwise_cons.2 ⟨fun z hz => by rw [List.mem_singleton.1 hz]; exact hxy, List.pairwise_singleton _ _⟩, fun z hz => by
 rcases List.mem_cons.1 hz with rfl | hz
 ·exact (YCI (JZA c).rg _).1 hx
 ·rw [List.mem_singleton.1 hz]
  exact (YCI (JZA c).rg _).1 hy⟩
abbrev x4 : Hd := ((1, 1), dgB 4)
theorem k00 : X74 [] [] = 0 := by decide
theorem k10 : X74 [1] [] = 0 := by decide
theorem k01 : X74 [0, 1] [] = 0 := by decide
theorem k11 : X74 [1, 1] [] = 0 := by decide
theorem YZE (v : List Int) (ds : Dots) : outL v ds [] = [] := rfl
theorem qSW {v : List Int} {ds : Dots} {x : Hd} {l : List Hd} (h : X74 v ds = 0 ∧ q2o v ds x.1) : outL v ds (x :: l) = outL v ds l := by
 unfold outL
 rw [List.filter_cons, if_neg (by rw [decide_eq_true_eq]; exact not_not_intro h)]
theorem qm5 {v : List Int} {ds : Dots} {x : Hd} {l : List Hd} (h : ¬ (X74 v ds = 0 ∧ q2o v ds x.1)) : outL v ds (x :: l) = x :: outL v ds l := by
 unfold outL
 rw [List.filter_cons, if_pos (decide_eq_true h)]
theorem qMI (x : Hd) : layG QdS [] x = [x] := rfl
theorem c1 : outL [1] [] [x4] = [] ∧ QRp [1] [1] [] [] = ([1], []) := ⟨by rw [qSW (by decide), YZE], by decide⟩
theorem c2 : outL [] [] [x4] = [x4] ∧ QRp [1] [] [] [] = ([1], []) := ⟨by rw [qm5 (by decide), YZE], by decide⟩
end Go.Proofs.YtfaccliekejngaaGreat
end
section
namespace Go.Proofs.YtfaccliekejngaaGreat
set_option maxRecDepth 100000
set_option maxHeartbeats 8000000
theorem Jv7 (zs l m : List AV) (k : Nat) (h : zs.length = l.length + m.length) (hk : k = l.length) : over (over zs 0 l) k m = l ++ m := by
 subst hk
 have e1 : (l ++ zs.drop l.length).take l.length = l := List.take_left' rfl
 have e2 : (l ++ zs.drop l.length).drop (l.length + m.length) = [] := List.drop_eq_nil_of_le (by rw [List.length_append, List.length_drop]; omega)
 simp only [over, List.take_zero, List.nil_append, Nat.zero_add, e1, e2, List.append_nil]
def qfh : List AV → List AB → Option (AV × List AB)
 | [], h => some (.b true, h)
 | _, _ => none
theorem lit1 {h : List AB} (L : List AB) (k : Nat) (x : Hd) (q : ownC L k = some (qdS.f x)) : getS qdS (h ++ L) (.sl (h.length + k) 0 1 1 none) = some [x] :=
 (XKv (r := qdS) (n := 1) (l := [x]) (by rw [q]; simp [Row.cells]) (by unfold maxLen; simp) (by simp)).get
theorem lit2 {h : List AB} (L : List AB) (k : Nat) (x y : Hd) (q : ownC L k = some (qdS.f x ++ qdS.f y)) : getS qdS (h ++ L) (.sl (h.length + k) 0 2 2 none) = some [x, y] :=
 (XKv (r := qdS) (n := 2) (l := [x, y]) (by rw [q]; simp [Row.cells]) (by unfold maxLen; simp) (by simp)).get
end Go.Proofs.YtfaccliekejngaaGreat
end
section
namespace Go.Proofs.YtfaccliekejngaaGreat
set_option maxRecDepth 100000
set_option maxHeartbeats 8000000
section
variable (d e : Dg)
theorem s10 : QjU [((1, 1), d)] [1] [] = 0 := qby k10 (show q2o [1] [] (1, 1) by decide)
theorem s01 : QjU [((2, 1), e)] [0, 1] [] = 0 := qby k01 (show q2o [0, 1] [] (2, 1) by decide)
theorem s11 : QjU [((1, 1), d), ((2, 1), e)] [1, 1] [] = 0 := qx5 k11 (show q2o [1, 1] [] (1, 1) by decide) (show q2o [1, 1] [] (2, 1) by decide) (show zpz (1, 1) (2, 1) by decide)
theorem zR6 : addE [] [] [] (1, 1) = 0 := by
 unfold addE
 rw [if_neg (not_not_intro (ZiT k00)), if_neg (by decide), if_neg (by decide), if_neg (by decide)]
theorem KRU : mkO [] [] (1, 1) = ([1], []) := by decide
theorem qhM : jnS [((1, 1), d)] [1] [] [] [1] [] [] [1] [] := by
 have g : J36 [((1, 1), d)] [] := fun x hx y hy e => by cases hy
 refine ⟨s10 d, ZiT k10, g, by decide, ?_, by decide, by decide⟩
 refine (Xrr (Koi.1 (s10 d)) (Koi.1 (ZiT k10)) List.Pairwise.nil fun x => ?_).symm
 have n1 : inC [1] [] (1, 1) := (YCI (JZA k10).rg _).1 (by decide)
 rw [YFi g]
 simp only [List.mem_cons, List.not_mem_nil, or_false, false_iff]
 rintro (⟨_, q⟩ | ⟨q, q2⟩ | ⟨q, _⟩)
 ·exact q
 ·subst q; exact q2 n1
 ·exact q
theorem JLE : jnS [((1, 1), d)] [1] [] [((2, 1), e)] [0, 1] [] [((1, 1), d), ((2, 1), e)] [1, 1] [] := by
 have g : J36 [((1, 1), d)] [((2, 1), e)] := fun x hx y hy q => by
  rw [List.mem_singleton.1 hx, List.mem_singleton.1 hy] at q
  exact absurd (show ((1 : Int), (1 : Int)) = (2, 1) from q) (by decide)
 refine ⟨s10 d, s01 e, g, by decide, ?_, by decide, by decide⟩
 refine (Xrr (Koi.1 (s10 d)) (Koi.1 (s01 e)) (Koi.1 (s11 d e)).rise fun x => ?_).symm
 have n1 : ¬ inC [0, 1] [] (1, 1) := fun q => absurd ((YCI (JZA k01).rg _).2 q) (by decide)
 have n2 : ¬ inC [1] [] (2, 1) := fun q => absurd ((YCI (JZA k10).rg _).2 q) (by decide)
 rw [YFi g]
 simp only [List.mem_cons, List.not_mem_nil, or_false]
 constructor
 ·rintro (rfl | rfl)
  ·exact .inr (.inl ⟨rfl, n1⟩)
  ·exact .inr (.inr ⟨rfl, n2⟩)
 ·rintro (⟨q, _⟩ | ⟨q, _⟩ | ⟨q, _⟩)
  ·exact .inl q
  ·exact .inl q
  ·exact .inr q
end
theorem XeL {h : List AB} (L : List AB) (k : Nat) (a : Int) (q : ownC L k = some [.i .i64 a]) : getS intR (h ++ L) (.sl (h.length + k) 0 1 1 none) = some [a] :=
 (XKv (r := intR) (n := 1) (l := [a]) (by rw [q]; simp [Row.cells, KH7]) (by unfold maxLen; simp) (by simp)).get
theorem YaK {h : List AB} (L : List AB) (k : Nat) (a b : Int) (q : ownC L k = some [.i .i64 a, .i .i64 b]) : getS intR (h ++ L) (.sl (h.length + k) 0 2 2 none) = some [a, b] :=
 (XKv (r := intR) (n := 2) (l := [a, b]) (by rw [q]; simp [Row.cells, KH7]) (by unfold maxLen; simp) (by simp)).get
theorem JGl : AV.ns.kn = true := rfl
theorem zP8 : Spec Tryz.prog 12 qfh := by
 intro args h v h' e
 unfold qfh at e
 split at e
 ·cases e
  refine FnAt.c (FnAt.frz0 fun hz => ?_)
  generalize h.map AB.freeze = h at *
  refine FnAt.run (by kernel_rfl) (T := ⟨[⟨42, QrH, fun _ => []⟩, ⟨43, Xaw, fun _ => []⟩, ⟨41, zh9, fun _ => []⟩, ⟨40, Y88, fun _ => []⟩, ⟨24, zTL, fun _ => []⟩, ⟨33, KkK, fun _ => []⟩, ⟨19, KNf, fun _ => []⟩, ⟨45, QIp, fun _ => []⟩], []⟩) ⟨⟨Y8U, YRl, Yk3, YqF, KOk, Zk3, Q3m, XOP, trivial⟩, trivial⟩ Tryz.func12 sw12 fun ho hh => ?_
  have l1 := fun (L : List AB) k q => lit1 (h := h) L k ((1, 1), dgB 7) q
  have l2 := fun (L : List AB) k q => lit1 (h := h) L k ((2, 1), dgB 7) q
  have l3 := fun (L : List AB) k q => lit2 (h := h) L k ((1, 1), dgB 7) ((2, 1), dgB 7) q
  have ln := fun (L : List AB) k a q => XeL (h := h) L k a q
  have lm := fun (L : List AB) k a b q => YaK (h := h) L k a b q
  have ex1 := zR6
  have ex2 := KRU
  have ex3 : layG QdS [] ((1, 1), dgB 7) = [((1, 1), dgB 7)] := qMI _
  have ex4 := s10 (dgB 7)
  have ex5 := eq_true (qhM (dgB 7))
  have ex6 := eq_true (JLE (dgB 7) (dgB 7))
  have ex7 : (∃ x ∈ ([((1, 1), dgB 7)] : List Hd), x.2 = dgB 7) = True := eq_true ⟨_, .head _, rfl⟩
  have u0 : (0 ≤ maxLen) = True := eq_true (by unfold maxLen; omega)
  have u1 : (1 ≤ maxLen) = True := eq_true (by unfold maxLen; omega)
  have u2 : (2 ≤ maxLen) = True := eq_true (by unfold maxLen; omega)
  have b7 : ((0 : Int) ≤ 7 ∧ (7 : Int) < 256) = True := eq_true (by decide)
  unfold w12
  simp only [YGO, Jyg, X5g, zLK, QXB, simprocAttr, CO.tmps, Opd.tmps, optT, Nat.reducePow, Nat.reduceDiv, Nat.reduceMod, QrH, Xaw, zh9, Y88, zTL, KkK, KNf, QIp, Zqj, JGl, ex1, ex2, ex3, ex4, ex5, ex6, ex7, l1, l2, l3, ln, lm, XoA, zwU, ZZ4, u0, u1, u2, Nat.zero_add, beq_self_eq_true, and_self, eq_self, ne_eq, not_false_eq_true, not_true_eq_false, decide_true, decide_false, b7, nsSl, slSl, ZyM, Y0j, XIy, XuT, zjk, Xtr, XxF, Q7f, Jv7, qa3, QwN, List.all_append, List.length_cons, List.length_nil, XeO hh, QU9 hz, QLc hz, zkD hz]
  exact ⟨rfl, rfl, Bt.dropB _ hh rfl⟩
 ·cases e
end Go.Proofs.YtfaccliekejngaaGreat
end
section
namespace Go.Proofs.YtfaccliekejngaaGreat
set_option maxRecDepth 100000
set_option maxHeartbeats 4000000
theorem zSv : Spec Tryz.prog 122 Jwd := by
 intro args h v h' e
 unfold Jwd at e
 split at e
 ·rename_i a b c d
  cases e
  refine FnAt.c (FnAt.run (by kernel_rfl) (T := ⟨[], []⟩) ⟨trivial, trivial⟩ Tryz.func122 zTy fun ho hh => ?_)
  unfold w122
  simp only [YGO, Jyg, X5g, zLK, QXB, simprocAttr, CO.tmps, Opd.tmps, optT, Nat.reducePow, Nat.reduceDiv, Nat.reduceMod]
  refine ⟨fun h1 => ?_, fun h1 => ⟨fun h2 => ?_, fun h2 => ?_⟩⟩ <;> exact Bt.dropB _ hh (by simp [zpz, *])
 ·cases e
noncomputable def Kov : List AV → List AB → Option (AV × List AB)
 | [l, .ag [s, t]], h => (getS qdS h l).bind fun hs => (getS intR h s).bind fun v => (getS dotR h t).bind fun ds => some (.b (decide (zgs v ds hs hs.length)), h)
 | _, _ => none
theorem JC8 : Spec Tryz.prog 86 Kov := by
 intro args h v h' e
 unfold Kov at e
 split at e
 ·rename_i l s t
  obtain ⟨hs, hl, e⟩ := KsT e
  obtain ⟨xs, hv, e⟩ := KsT e
  obtain ⟨ds, hd, e⟩ := KsT e
  cases e
  refine FnAt.c (FnAt.frz0 fun hz => ?_)
  replace hl := hl.frz
  replace hv := hv.frz
  replace hd := hd.frz
  generalize h.map AB.freeze = h at *
  refine FnAt.run (by kernel_rfl) (T := ⟨[⟨122, Jwd, fun _ => []⟩, ⟨63, qOD, fun _ => []⟩], []⟩) ⟨⟨zSv, ZeA, trivial⟩, trivial⟩ Tryz.func86 sw86 fun ho hh => ?_
  simp only [znG, Z4M, Bool.and_eq_true] at ho
  have f1 := hl.fx ho.1 (sz := 34) rfl
  have f2 := hv.fx ho.2.1.1 (sz := 1) rfl
  have f3 := hd.fx ho.2.1.2.1 (sz := 2) rfl
  have f4 := q6X hl
  unfold w86
  simp only [YGO, Jyg, X5g, zLK, QXB, simprocAttr, CO.tmps, Opd.tmps, optT, Nat.reducePow, Nat.reduceDiv, Nat.reduceMod, f1, f2, f3]
  refine KPW (S := Nat) (fun i => hs.length - i) (fun i => [l] ++ tp 2 ++ [.p (h.length + 0) 0] ++ tp 1 ++ [.i .i64 i] ++ tp 33) (fun i => i ≤ hs.length ∧ zgs xs ds hs i) 0 ⟨Nat.zero_le _, fun k hk => absurd hk (Nat.not_lt_zero _)⟩ (by simp only [X5g, QXB, simprocAttr]) fun i hi => ?_
  by_cases g1 : i < hs.length
  ·have g1' := eq_true g1
   have e1 : IntKind.i64.wrap ((i : Int) + 1) = ((i + 1 : Nat) : Int) := q6V (by have := hl.2; unfold maxLen at this; unfold In64; omega)
   have hstep : zgs xs ds hs (i + 1) ↔ (0 < i → zpz (hs.getD (i - 1) qdS.d).1 (hs.getD i qdS.d).1) ∧ (X74 xs ds = 0 ∧ q2o xs ds (hs.getD i qdS.d).1) := by
    constructor
    ·intro q
     exact q i (Nat.lt_succ_self i)
    ·rintro q k hk
     rcases Nat.lt_succ_iff_lt_or_eq.1 hk with z | rfl
     ·exact hi.2 k z
     ·exact q
   have hbad : ¬ zgs xs ds hs (i + 1) → decide (zgs xs ds hs hs.length) = false := fun q => decide_eq_false fun z => q fun k hk' => z k (by omega)
   by_cases g0 : i = 0
   ·have gz : ((0 : Int) < (i : Int)) = False := eq_false (by omega)
    simp only [X5g, zLK, QXB, simprocAttr, CO.tmps, Opd.tmps, optT, Nat.reducePow, Nat.reduceDiv, Nat.reduceMod, f1, f2, f3, f4, g1', gz, Jwd, qOD, XeO hh, QU9 hz, QLc hz, zkD hz]
    refine ⟨fun q => Bt.dropB _ hh (hbad fun z => q (hstep.1 z).2).symm, fun q => ?_⟩
    rw [e1]
    exact ⟨i + 1, ⟨g1, hstep.2 ⟨fun z => absurd z (by omega), Decidable.not_not.1 q⟩⟩, by omega, Wk.refl _⟩
   ·have gz : ((0 : Int) < (i : Int)) = True := eq_true (by omega)
    have e2 : IntKind.i64.wrap ((i : Int) - 1) = ((i - 1 : Nat) : Int) := by
     have : (i : Int) - 1 = ((i - 1 : Nat) : Int) := by omega
     rw [this]
     exact q6V (by have := hl.2; unfold maxLen at this; unfold In64; omega)
    have g2' : (i - 1 < hs.length) = True := eq_true (by omega)
    simp only [X5g, zLK, QXB, simprocAttr, CO.tmps, Opd.tmps, optT, Nat.reducePow, Nat.reduceDiv, Nat.reduceMod, f1, f2, f3, f4, g1', g2', e2, gz, Jwd, qOD, XeO hh, QU9 hz, QLc hz, zkD hz]
    refine ⟨fun q => Bt.dropB _ hh (hbad fun z => q ((hstep.1 z).1 (by omega))).symm, fun p => ⟨fun q => Bt.dropB _ hh (hbad fun z => q (hstep.1 z).2).symm, fun q => ?_⟩⟩
    rw [e1]
    exact ⟨i + 1, ⟨g1, hstep.2 ⟨fun _ => Decidable.not_not.1 p, Decidable.not_not.1 q⟩⟩, by omega, Wk.refl _⟩
  ·obtain rfl : i = hs.length := by omega
   have g1' := eq_false g1
   simp only [X5g, zLK, QXB, simprocAttr, CO.tmps, Opd.tmps, optT, Nat.reducePow, Nat.reduceDiv, Nat.reduceMod, f1, f2, f3, f4, g1']
   exact Bt.dropB _ hh (decide_eq_true hi.2).symm
 ·cases e
theorem XGe : Spec Tryz.prog 32 Z2z := by
 intro args h v h' e
 unfold Z2z at e
 split at e
 ·rename_i l s t
  obtain ⟨hs, hl, e⟩ := KsT e
  obtain ⟨xs, hv, e⟩ := KsT e
  obtain ⟨ds, hd, e⟩ := KsT e
  cases e
  refine FnAt.c (FnAt.run (by kernel_rfl) (T := ⟨[⟨61, z6T, fun _ => []⟩, ⟨86, Kov, fun _ => []⟩], []⟩) ⟨⟨YbC, JC8, trivial⟩, trivial⟩ Tryz.func32 sw32 fun ho hh => ?_)
  simp only [znG, Z4M, Bool.and_eq_true] at ho
  have f1 := hl.fx ho.1.1 (sz := 34) rfl
  have f2 := hv.fx ho.1.2.1 (sz := 1) rfl
  have f3 := hd.fx ho.1.2.2.1 (sz := 2) rfl
  unfold w32
  by_cases c : X74 xs ds = 0
  case neg =>
   have c' := eq_false c
   have c2 : (X74 xs ds == 0) = false := beq_eq_false_iff_ne.2 c
   simp only [YGO, Jyg, X5g, zLK, QXB, simprocAttr, CO.tmps, Opd.tmps, optT, Nat.reducePow, Nat.reduceDiv, Nat.reduceMod, f1, f2, f3, z6T, c', c2, not_false_eq_true, decide_true, decide_false]
   exact Bt.dropI _ hh (by unfold QjU; rw [if_pos c])
  have hk : QjU hs xs ds = if zgs xs ds hs hs.length then 0 else 2 := by unfold QjU; rw [if_neg (not_not_intro c)]
  rw [hk]
  by_cases q : zgs xs ds hs hs.length
  ·have q' := eq_true q
   rw [if_pos q]
   simp only [YGO, Jyg, X5g, zLK, QXB, simprocAttr, CO.tmps, Opd.tmps, optT, Nat.reducePow, Nat.reduceDiv, Nat.reduceMod, f1, f2, f3, z6T, Kov, c, q', not_false_eq_true, decide_true, decide_false]
   exact Bt.dropI _ hh rfl
  ·have q' := eq_false q
   rw [if_neg q]
   simp only [YGO, Jyg, X5g, zLK, QXB, simprocAttr, CO.tmps, Opd.tmps, optT, Nat.reducePow, Nat.reduceDiv, Nat.reduceMod, f1, f2, f3, z6T, Kov, c, q', not_false_eq_true, decide_true, decide_false]
   exact Bt.dropI _ hh rfl
 ·cases e
noncomputable def JYL : List AV → List AB → Option (AV × List AB)
 | [l, .ag [.i .i64 a, .i .i64 b]], h => (getS dotR h l).bind fun ks => some (.b (decide ((a, b) ∈ ks)), h)
 | _, _ => none
theorem KvN : Spec Tryz.prog 111 JYL := by
 intro args h v h' e
 unfold JYL at e
 split at e
 ·rename_i l a b
  obtain ⟨ks, hl, e⟩ := KsT e
  cases e
  refine FnAt.c (FnAt.frz0 fun hz => ?_)
  replace hl := hl.frz
  generalize h.map AB.freeze = h at *
  refine FnAt.run (by kernel_rfl) (T := ⟨[], []⟩) ⟨trivial, trivial⟩ Tryz.func111 XUx fun ho hh => ?_
  simp only [znG, Z4M, Bool.and_eq_true] at ho
  have f1 := hl.fx ho.1 (sz := 2) rfl
  unfold w111
  simp only [YGO, Jyg, X5g, zLK, QXB, simprocAttr, CO.tmps, Opd.tmps, optT, Nat.reducePow, Nat.reduceDiv, Nat.reduceMod, f1]
  refine KPW (S := Nat) (fun i => ks.length - i) (fun i => [l] ++ tp 2 ++ [.p (h.length + 0) 0] ++ tp 1 ++ [.i .i64 i] ++ tp 12) (fun i => i ≤ ks.length ∧ (a, b) ∉ ks.take i) 0 ⟨Nat.zero_le _, by simp⟩ (by simp only [X5g, QXB, simprocAttr]) fun i hi => ?_
  by_cases g1 : i < ks.length
  ·have g1' := eq_true g1
   have e1 : IntKind.i64.wrap ((i : Int) + 1) = ((i + 1 : Nat) : Int) := q6V (by have := hl.2; unfold maxLen at this; unfold In64; omega)
   have hm : ks.getD i dotR.d ∈ ks := by
    rw [List.getD_eq_getElem?_getD, List.getElem?_eq_getElem g1]
    exact List.getElem_mem g1
   have ht : ∀ z, z ∈ ks.take (i + 1) ↔ z ∈ ks.take i ∨ z = ks.getD i dotR.d := fun z => by
    rw [List.take_succ_eq_append_getElem g1, List.mem_append, List.mem_singleton, List.getD_eq_getElem?_getD, List.getElem?_eq_getElem g1]
    rfl
   generalize hx : ks.getD i dotR.d = x at *
   simp only [X5g, zLK, QXB, simprocAttr, CO.tmps, Opd.tmps, optT, Nat.reducePow, Nat.reduceDiv, Nat.reduceMod, f1, g1', eqcG, YKr, hx, e1, XeO hh, QU9 hz, QLc hz, zkD hz]
   refine ⟨fun q => Bt.dropB _ hh (decide_eq_true ?_).symm, fun q => ⟨i + 1, ⟨g1, fun z => ?_⟩, by omega, Wk.refl _⟩⟩
   ·rw [show (a, b) = x from Prod.ext q.1.symm q.2.symm]
    exact hm
   ·rcases (ht _).1 z with w | w
    ·exact hi.2 w
    ·exact q (by rw [← w]; exact ⟨rfl, rfl⟩)
  ·obtain rfl : i = ks.length := by omega
   have g1' := eq_false g1
   have hn := hi.2
   rw [List.take_length] at hn
   simp only [X5g, zLK, QXB, simprocAttr, CO.tmps, Opd.tmps, optT, Nat.reducePow, Nat.reduceDiv, Nat.reduceMod, f1, g1']
   exact Bt.dropB _ hh (decide_eq_false hn).symm
 ·cases e
theorem QLb : Spec Tryz.prog 110 zcS := by
 intro args h v h' e
 unfold zcS at e
 split at e
 ·rename_i l a b
  obtain ⟨hs, hl, e⟩ := KsT e
  cases e
  refine FnAt.c (FnAt.frz0 fun hz => ?_)
  replace hl := hl.frz
  generalize h.map AB.freeze = h at *
  refine FnAt.run (by kernel_rfl) (T := ⟨[], []⟩) ⟨trivial, trivial⟩ Tryz.func110 ZOP fun ho hh => ?_
  simp only [znG, Z4M, Bool.and_eq_true] at ho
  have f1 := hl.fx ho.1 (sz := 34) rfl
  have f4 := q6X hl
  unfold w110
  simp only [YGO, Jyg, X5g, zLK, QXB, simprocAttr, CO.tmps, Opd.tmps, optT, Nat.reducePow, Nat.reduceDiv, Nat.reduceMod, f1, YiA, zjk]
  refine JEe (S := Nat) (fun i => hs.length - i) (fun i => [l] ++ tp 2 ++ [.p (h.length + 0) 0, .p (h.length + 1) 0] ++ tp 1 ++ [.i .i64 i] ++ tp 19) (fun i => h ++ [.blk true true [.i .i64 a, .i .i64 b], .blk true true (idR.f zBD)]) (fun i => i ≤ hs.length ∧ ∀ k, k < i → (hs.getD k qdS.d).1 ≠ (a, b)) 0 ⟨Nat.zero_le _, fun k hk => absurd hk (Nat.not_lt_zero _)⟩ (Bt.wk (by simp only [X5g, QXB, simprocAttr])) fun i hi => ?_
  by_cases g1 : i < hs.length
  ·have g1' := eq_true g1
   have e1 : IntKind.i64.wrap ((i : Int) + 1) = ((i + 1 : Nat) : Int) := q6V (by have := hl.2; unfold maxLen at this; unfold In64; omega)
   by_cases hq : (hs.getD i qdS.d).1 = (a, b)
   ·have q' : ((hs.getD i qdS.d).1.1 = a ∧ (hs.getD i qdS.d).1.2 = b) = True := eq_true (by rw [hq]; exact ⟨rfl, rfl⟩)
    rw [JlB g1 hi.2 hq]
    simp only [X5g, zLK, QXB, simprocAttr, CO.tmps, Opd.tmps, optT, Nat.reducePow, Nat.reduceDiv, Nat.reduceMod, f1, f4, g1', eqcG, q', e1, Xtr, zjk, XxF, Q7f, XeO hh, QU9 hz, QLc hz, zkD hz]
    exact Bt.drop _ hh rfl (by simp only [QTF, znG, J2K, Z4M, ok_b, XuT, Bool.and_true])
   ·have q' : ((hs.getD i qdS.d).1.1 = a ∧ (hs.getD i qdS.d).1.2 = b) = False := eq_false (fun z => hq (Prod.ext z.1 z.2))
    simp only [X5g, zLK, QXB, simprocAttr, CO.tmps, Opd.tmps, optT, Nat.reducePow, Nat.reduceDiv, Nat.reduceMod, f1, f4, g1', eqcG, q', e1, Xtr, zjk, XxF, Q7f, XeO hh, QU9 hz, QLc hz, zkD hz]
    refine ⟨i + 1, ⟨g1, fun k hk => ?_⟩, by dsimp only; omega, Bt.wk (by simp only [X5g, QXB, simprocAttr])⟩
    rcases Nat.lt_succ_iff_lt_or_eq.1 hk with z | rfl
    ·exact hi.2 k z
    ·exact hq
  ·obtain rfl : i = hs.length := by omega
   have g1' := eq_false g1
   rw [KQR hi.2]
   simp only [X5g, zLK, QXB, simprocAttr, CO.tmps, Opd.tmps, optT, Nat.reducePow, Nat.reduceDiv, Nat.reduceMod, f1, g1', YiA, Xtr, zjk, XxF, Q7f]
   exact Bt.drop _ hh rfl (by simp only [QTF, znG, J2K, Z4M, ok_b, XuT, Bool.and_true])
 ·cases e
end Go.Proofs.YtfaccliekejngaaGreat
end
section
namespace Go.Proofs.YtfaccliekejngaaGreat
set_option maxRecDepth 100000
set_option maxHeartbeats 8000000
theorem Qj0 (x : Hd) : ∀ (l : List Hd) (k : Nat), k ≤ l.length → (∀ j, j < k → ¬ QdS x (l.getD j qdS.d)) → (k < l.length → QdS x (l.getD k qdS.d)) → layG QdS l x = l.take k ++ x :: l.drop k
 | [], k, hk, _, _ => by
  have : k = 0 := by simpa using hk
  subst this
  rfl
 | y :: l, 0, _, _, h => by
  have := h (by simp)
  unfold layG
  rw [if_pos (by simpa using this)]
  rfl
 | y :: l, k + 1, hk, h1, h2 => by
  have h0 : ¬ QdS x y := by simpa using h1 0 (Nat.succ_pos _)
  unfold layG
  rw [if_neg h0, Qj0 x l k (by simpa using hk) (fun j hj => by simpa using h1 (j + 1) (by omega)) (fun q => by simpa using h2 (by simpa using q))]
  rfl
open Classical in
noncomputable def JJY : List AV → List AB → Option (AV × List AB)
 | [s, y], h => (getS qdS h s).bind fun l => (getH y).bind fun x => if l.length ≤ 100000 ∧ s.capOk = true ∧ ∀ z ∈ l, z.1 ≠ x.1 then some (rsl qdS h.length (layG QdS l x), h ++ [resB qdS true (layG QdS l x)]) else none
 | _, _ => none
theorem QJJ {h : List AB} (hz : h.map AB.freeze = h) {s : AV} {l : List Hd} {x : Hd} (hl : Rd qdS h s l) (hL : l.length ≤ 100000) (hc : s.capOk = true) (hx : ∀ z ∈ l, z.1 ≠ x.1) :
  FnAt Tryz.prog 76 [s, .ag (qdS.f x)] h (rsl qdS h.length (layG QdS l x)) (h ++ [resB qdS true (layG QdS l x)]) := by
 refine FnAt.run (by kernel_rfl) (T := ⟨[⟨122, Jwd, fun _ => []⟩], []⟩) ⟨⟨zSv, trivial⟩, trivial⟩ Tryz.func76 sw76 fun ho hh => ?_
 simp only [znG, Z4M, Bool.and_eq_true] at ho
 have f1 := hl.fx ho.1 (sz := 34) rfl
 have f4 := q6X hl
 have kd : ∀ z : Hd, (qdS.f z).take 2 = [.i .i64 z.1.1, .i .i64 z.1.2] := fun _ => rfl
 unfold w76
 simp only [YGO, Jyg, X5g, zLK, QXB, simprocAttr, CO.tmps, Opd.tmps, optT, Nat.reducePow, Nat.reduceDiv, Nat.reduceMod, f1, ZyM, Y0j, XIy, Q7f]
 refine KPW (S := Nat) (fun i => l.length - i) (fun i => [s] ++ tp 2 ++ [.p (h.length + 0) 0] ++ tp 1 ++ [.i .i64 i] ++ tp 32) (fun i => i ≤ l.length ∧ ∀ j, j < i → zpz (l.getD j qdS.d).1 x.1) 0 ⟨Nat.zero_le _, fun j hj => absurd hj (Nat.not_lt_zero _)⟩ (by simp only [X5g, QXB, simprocAttr]) fun i hi => ?_
 have done : (i = l.length ∨ (i < l.length ∧ ¬ zpz (l.getD i qdS.d).1 x.1)) → layG QdS l x = l.take i ++ x :: l.drop i := fun q => by
  refine Qj0 x l i hi.1 (fun j hj z => YJc _ (zpi z (hi.2 j hj))) fun hil => ?_
  rcases q with q | ⟨_, q⟩
  ·omega
  ·have hm : l.getD i qdS.d ∈ l := by rw [List.getD_eq_getElem?_getD, List.getElem?_eq_getElem hil]; exact List.getElem_mem hil
   rcases Yud (l.getD i qdS.d).1 x.1 with z | z | z
   ·exact absurd z q
   ·exact absurd z (hx _ hm)
   ·exact z
 obtain ⟨s1, q1, r1, o1⟩ := hl.takeS hc hi.1 (sz := 34) rfl
 obtain ⟨s2, q2, r2, o2⟩ := hl.dropS hc hi.1 (sz := 34) rfl
 have g1 := r1.fx (o1 _ ho.1) (sz := 34) rfl
 have g2 := r2.fx (o2 _ ho.1) (sz := 34) rfl
 have u1 := r1.src (sz := 34) rfl
 have u2 := r2.src (sz := 34) rfl
 have lt1 : (l.take i).length = i := by rw [List.length_take]; omega
 have lt2 : (l.drop i).length = l.length - i := List.length_drop
 rw [lt1] at u1
 rw [lt2] at u2
 have za : ∀ m : List Hd, (qdS.cells m).all (wrOk true) = true := fun m => qSZ ZyM m
 have hN : (l.take i ++ x :: l.drop i).length = l.length + 1 := by rw [List.length_append, List.length_cons, lt1, lt2]; omega
 have hC : qdS.cells (l.take i ++ x :: l.drop i) = qdS.cells (l.take i) ++ (qdS.f x ++ qdS.cells (l.drop i)) := by simp [Row.cells]
 have hne : (l.take i ++ x :: l.drop i).length ≠ 0 := by omega
 have hT : (qdS.cells (l.take i)).length = i * 34 := by rw [qdS.cells_len, lt1]; rfl
 have hD : (qdS.cells (l.drop i)).length = (l.length - i) * 34 := by rw [qdS.cells_len, lt2]; rfl
 have tkD : (qdS.cells (l.drop i)).take ((l.length - i) * 34) = qdS.cells (l.drop i) := List.take_of_length_le (by omega)
 have ap0 : ∀ H id n k ys, appW H true 34 48 (.sl id 0 n n k) 0 ys = some (.sl id 0 n n k, H) := fun H id n k ys => rfl
 have mI : (i * 48 ≤ 140737488355328 ∧ i ≤ maxLen) = True := eq_true ⟨by omega, by unfold maxLen; omega⟩
 have mR : ((l.length - i) * 48 ≤ 140737488355328 ∧ l.length - i ≤ maxLen) = True := eq_true ⟨by omega, by unfold maxLen; omega⟩
 have m1 : (1 * 48 ≤ 140737488355328 ∧ 1 ≤ maxLen) = True := eq_true ⟨by decide, by unfold maxLen; omega⟩
 have a1 := fun (L : List AB) (k : Nat) (ys : List AV) hb hx => qMb (h := h) L k i 34 48 1 ys hb hx (by decide) (by decide) (by omega) (by unfold maxLen; omega)
 have hX1 : (qdS.f x).length = 1 * 34 := qdS.len x
 have hX2 : (qdS.cells (l.take i) ++ qdS.f x).length = (i + 1) * 34 := by rw [List.length_append, hT, qdS.len]; show i * 34 + 34 = _; omega
 by_cases gi : i < l.length
 case neg =>
  have gi' := eq_false gi
  have z2 : ((l.length - i) = 0) = True := eq_true (by omega)
  rw [done (.inl (by omega))]
  by_cases i0 : i = 0
  ·have i0t : (i = 0) = True := eq_true i0
   have cnt : 1 = l.length + 1 := by omega
   simp only [X5g, zLK, QXB, simprocAttr, CO.tmps, Opd.tmps, optT, Nat.reducePow, Nat.reduceDiv, Nat.reduceMod, f1, gi', kd, Jwd, qPx, q1, q2, g1, g2, u1, u2, za, YKk, qZ4, JxS, YFP, Nat.zero_add, Nat.le_refl, QwN, true_and, i0t, z2, ap0, m1, zxc, hT, hD, hX1, hX2, ZyM, Y0j, XIy, Q7f, XeO hh, QU9 hz, QLc hz, zkD hz]
   have eF : ∀ id, rsl qdS id (l.take i ++ x :: l.drop i) = .sl id 0 1 1 (some 34) := fun id => by rw [K50 _ hne, hN, show l.length + 1 = 1 by omega]; rfl
   have eB : resB qdS true (l.take i ++ x :: l.drop i) = .blk true true (qdS.f x) := by rw [ZVr _ hne, hC]; rw [show qdS.cells (l.take i) = [] from by rw [i0]; rfl, show qdS.cells (l.drop i) = [] from by rw [List.drop_eq_nil_of_le (by omega)]; rfl, List.nil_append, List.append_nil]
   rw [eF, eB]
   exact Bt.sel [4] hh (by decide) (by simp only [Zy2, FrSel, BlkSel, AV.ren, renL, AV.ok, okL, Option.some.injEq, exists_eq_left', List.length_cons, List.length_nil, Nat.reduceAdd, Nat.reduceLT, reduceCtorEq, implies_true, exists_eq']) (by simp only [Zy2, FrSel, BlkSel, AV.ren, renL, AV.ok, okL, Option.some.injEq, exists_eq_left', List.length_cons, List.length_nil, Nat.reduceAdd, Nat.reduceLT, reduceCtorEq, implies_true, exists_eq'])
  ·have i0f : (i = 0) = False := eq_false i0
   have cnt : (i + 1) = l.length + 1 := by omega
   simp only [X5g, zLK, QXB, simprocAttr, CO.tmps, Opd.tmps, optT, Nat.reducePow, Nat.reduceDiv, Nat.reduceMod, f1, gi', kd, Jwd, qPx, q1, q2, g1, g2, u1, u2, za, YKk, qZ4, JxS, YFP, Nat.zero_add, Nat.le_refl, QwN, true_and, i0f, z2, a1, mI, ap0, m1, zxc, hT, hD, hX1, hX2, ZyM, Y0j, XIy, Q7f, XeO hh, QU9 hz, QLc hz, zkD hz]
   have eF : ∀ id, rsl qdS id (l.take i ++ x :: l.drop i) = .sl id 0 (i + 1) (i + 1) (some 34) := fun id => by rw [K50 _ hne, hN, show l.length + 1 = (i + 1) by omega]; rfl
   have eB : resB qdS true (l.take i ++ x :: l.drop i) = .blk true true (qdS.cells (l.take i) ++ qdS.f x) := by rw [ZVr _ hne, hC]; rw [show qdS.cells (l.drop i) = [] from by rw [List.drop_eq_nil_of_le (by omega)]; rfl, List.append_nil]
   rw [eF, eB]
   exact Bt.sel [5] hh (by decide) (by simp only [Zy2, FrSel, BlkSel, AV.ren, renL, AV.ok, okL, Option.some.injEq, exists_eq_left', List.length_cons, List.length_nil, Nat.reduceAdd, Nat.reduceLT, reduceCtorEq, implies_true, exists_eq']) (by simp only [Zy2, FrSel, BlkSel, AV.ren, renL, AV.ok, okL, Option.some.injEq, exists_eq_left', List.length_cons, List.length_nil, Nat.reduceAdd, Nat.reduceLT, reduceCtorEq, implies_true, exists_eq'])
 have gi' := eq_true gi
 by_cases gl : zpz (l.getD i qdS.d).1 x.1
 ·have e1 : IntKind.i64.wrap ((i : Int) + 1) = ((i + 1 : Nat) : Int) := q6V (by unfold In64; omega)
  have gl' := eq_true gl
  simp only [X5g, zLK, QXB, simprocAttr, CO.tmps, Opd.tmps, optT, Nat.reducePow, Nat.reduceDiv, Nat.reduceMod, f1, f4, gi', gl', e1, kd, Jwd, qPx, ZyM, Y0j, XeO hh, QU9 hz, QLc hz, zkD hz]
  refine ⟨i + 1, ⟨gi, fun j hj => ?_⟩, by omega, Wk.refl _⟩
  rcases Nat.lt_succ_iff_lt_or_eq.1 hj with z | rfl
  ·exact hi.2 j z
  ·exact gl
 ·have gl' := eq_false gl
  have z2 : ((l.length - i) = 0) = False := eq_false (by omega)
  rw [done (.inr ⟨gi, gl⟩)]
  by_cases i0 : i = 0
  ·have i0t : (i = 0) = True := eq_true i0
   have a2 := fun (L : List AB) (k : Nat) (ys : List AV) hb hx => qMb (h := h) L k 1 34 48 (l.length - i) ys hb hx (by decide) (by omega) (by omega) (by unfold maxLen; omega)
   have cnt : (1 + (l.length - i)) = l.length + 1 := by omega
   simp only [X5g, zLK, QXB, simprocAttr, CO.tmps, Opd.tmps, optT, Nat.reducePow, Nat.reduceDiv, Nat.reduceMod, f1, f4, gi', gl', kd, Jwd, qPx, q1, q2, g1, g2, u1, u2, za, YKk, qZ4, JxS, YFP, Nat.zero_add, Nat.le_refl, QwN, true_and, i0t, z2, a2, tkD, mR, ap0, m1, zxc, hT, hD, hX1, hX2, ZyM, Y0j, XIy, Q7f, XeO hh, QU9 hz, QLc hz, zkD hz]
   have eF : ∀ id, rsl qdS id (l.take i ++ x :: l.drop i) = .sl id 0 (1 + (l.length - i)) (1 + (l.length - i)) (some 34) := fun id => by rw [K50 _ hne, hN, show l.length + 1 = (1 + (l.length - i)) by omega]; rfl
   have eB : resB qdS true (l.take i ++ x :: l.drop i) = .blk true true (qdS.f x ++ qdS.cells (l.drop i)) := by rw [ZVr _ hne, hC]; rw [show qdS.cells (l.take i) = [] from by rw [i0]; rfl, List.nil_append]
   rw [eF, eB]
   exact Bt.sel [6] hh (by decide) (by simp only [Zy2, FrSel, BlkSel, AV.ren, renL, AV.ok, okL, Option.some.injEq, exists_eq_left', List.length_cons, List.length_nil, Nat.reduceAdd, Nat.reduceLT, reduceCtorEq, implies_true, exists_eq']) (by simp only [Zy2, FrSel, BlkSel, AV.ren, renL, AV.ok, okL, Option.some.injEq, exists_eq_left', List.length_cons, List.length_nil, Nat.reduceAdd, Nat.reduceLT, reduceCtorEq, implies_true, exists_eq'])
  ·have i0f : (i = 0) = False := eq_false i0
   have a2 := fun (L : List AB) (k : Nat) (ys : List AV) hb hx => qMb (h := h) L k (i + 1) 34 48 (l.length - i) ys hb hx (by decide) (by omega) (by omega) (by unfold maxLen; omega)
   have cnt : (i + 1 + (l.length - i)) = l.length + 1 := by omega
   simp only [X5g, zLK, QXB, simprocAttr, CO.tmps, Opd.tmps, optT, Nat.reducePow, Nat.reduceDiv, Nat.reduceMod, f1, f4, gi', gl', kd, Jwd, qPx, q1, q2, g1, g2, u1, u2, za, YKk, qZ4, JxS, YFP, Nat.zero_add, Nat.le_refl, QwN, true_and, i0f, z2, a2, tkD, mR, a1, mI, ap0, m1, zxc, hT, hD, hX1, hX2, ZyM, Y0j, XIy, Q7f, XeO hh, QU9 hz, QLc hz, zkD hz]
   have eF : ∀ id, rsl qdS id (l.take i ++ x :: l.drop i) = .sl id 0 (i + (1 + (l.length - i))) (i + (1 + (l.length - i))) (some 34) := fun id => by rw [K50 _ hne, hN, show l.length + 1 = (i + (1 + (l.length - i))) by omega]; rfl
   have eB : resB qdS true (l.take i ++ x :: l.drop i) = .blk true true (qdS.cells (l.take i) ++ qdS.f x ++ qdS.cells (l.drop i)) := by rw [ZVr _ hne, hC]; rw [List.append_assoc]
   rw [eF, eB]
   exact Bt.sel [7] hh (by decide) (by simp only [Zy2, FrSel, BlkSel, AV.ren, renL, AV.ok, okL, Option.some.injEq, exists_eq_left', List.length_cons, List.length_nil, Nat.reduceAdd, Nat.reduceLT, reduceCtorEq, implies_true, exists_eq']) (by simp only [Zy2, FrSel, BlkSel, AV.ren, renL, AV.ok, okL, Option.some.injEq, exists_eq_left', List.length_cons, List.length_nil, Nat.reduceAdd, Nat.reduceLT, reduceCtorEq, implies_true, exists_eq'])
theorem zb9 : Spec Tryz.prog 76 JJY := by
 intro args h v h' e
 unfold JJY at e
 split at e
 ·rename_i s y
  obtain ⟨l, hl, e⟩ := KsT e
  obtain ⟨x, hx, e2⟩ := XpI e
  clear e
  subst hx
  split at e2
  ·rename_i hc
   cases e2
   refine FnAt.c (FnAt.frz fun hz => ?_)
   rw [show h.length = (h.map AB.freeze).length from (List.length_map _).symm]
   exact QJJ hz hl.frz hc.1 hc.2.1 hc.2.2
  ·cases e2
 ·cases e
end Go.Proofs.YtfaccliekejngaaGreat
end
section
namespace Go.Proofs.YtfaccliekejngaaGreat
set_option maxRecDepth 100000
set_option maxHeartbeats 4000000
noncomputable def Q0N : List AV → List AB → Option (AV × List AB)
 | [.ag [.i .i64 a, .i .i64 b], .p i 0], h => match QnD h i with
  | some [s] => (getS dotR h s).bind fun l => some (.b (decide ((a, b) ∈ l)), h)
  | _ => none
 | _, _ => none
theorem KpB : Spec Tryz.prog 128 Q0N := by
 intro args h v h' e
 unfold Q0N at e
 split at e
 ·rename_i a b i
  split at e
  ·rename_i s hb
   obtain ⟨l, hs, e⟩ := KsT e
   cases e
   refine FnAt.c (FnAt.run (by kernel_rfl) (T := ⟨[⟨90, ZEd, fun _ => []⟩], []⟩) ⟨⟨YkF, trivial⟩, trivial⟩ Tryz.func128 JUs fun ho hh => ?_)
   have fb := zcl hb
   have k1 : ∀ x, getS dotR (h ++ x) s = some l := fun x => (hs.app x).get
   unfold w128
   simp only [YGO, Jyg, X5g, zLK, QXB, simprocAttr, CO.tmps, Opd.tmps, optT, Nat.reducePow, Nat.reduceDiv, Nat.reduceMod, fb, k1, ZEd]
   exact Bt.dropB _ hh rfl
  ·cases e
 ·cases e
noncomputable def zmI : List AV → List AB → Option (AV × List AB)
 | [s, .f (.func 128) [] [.p i 0]], h => match QnD h i with
  | some [t] => (getS dotR h t).bind fun m => (getS dotR h s).bind fun l => some (.i .i64 (idx (fun d : Int × Int => d ∈ m) l), h)
  | _ => none
 | _, _ => none
theorem JXu : Spec Tryz.prog 136 zmI := by
 intro args h v h' e
 unfold zmI at e
 split at e
 ·rename_i s i
  split at e
  ·rename_i t hb
   obtain ⟨m, ht, e⟩ := KsT e
   obtain ⟨l, hx, e⟩ := KsT e
   cases e
   refine FnAt.c (FnAt.run (by kernel_rfl) (T := ⟨[⟨128, Q0N, fun _ => []⟩], []⟩) ⟨⟨KpB, trivial⟩, trivial⟩ Tryz.func136 Yg0 fun ho hh => ?_)
   simp only [znG, Bool.and_eq_true] at ho
   have f1 := hx.fx ho.1 (sz := 2) rfl
   have k0 : ∀ x, QnD (h ++ x) i = some [t] := (zcl hb).1
   have k1 : ∀ x, getS dotR (h ++ x) t = some m := fun x => (ht.app x).get
   unfold w136
   simp only [YGO, Jyg, X5g, QXB, simprocAttr, f1]
   refine KPW (S := Nat) (fun j => l.length - j) (fun j => [s, .f (.func 128) [] [.p i 0]] ++ tp 5 ++ [.i .i64 l.length, .i .i64 j] ++ tp 10) (fun j => j ≤ l.length ∧ idx (fun d : Int × Int => d ∈ m) l = Jfp (fun d : Int × Int => d ∈ m) (l.drop j) j) 0 ⟨Nat.zero_le _, rfl⟩ (by simp only [X5g, QXB, simprocAttr]) fun j hj => ?_
   simp only [X5g, QXB, simprocAttr, f1]
   refine ⟨fun h2 => ?_, fun h2 => ?_⟩
   ·have e1 : IntKind.i64.wrap ((j : Int) + 1) = ((j + 1 : Nat) : Int) := q6V (by have := hx.2; unfold maxLen at this; unfold In64; omega)
    have e2 := Xyt (fun d : Int × Int => d ∈ m) dotR.d j h2
    simp only [X5g, QXB, simprocAttr, f1, h2, YKr, e1, Q0N, k0, k1, qPx]
    refine ⟨fun h3 => Bt.eq (by rw [hj.2, e2, if_pos h3]) (List.append_nil h), fun h3 => ⟨j + 1, ⟨h2, ?_⟩, by omega, Wk.refl _⟩⟩
    rw [hj.2, e2, if_neg h3]
   ·exact Bt.eq (by rw [hj.2, List.drop_eq_nil_of_le (by omega)]; rfl) (List.append_nil h)
  ·cases e
 ·cases e
noncomputable def Zvt : List AV → List AB → Option (AV × List AB)
 | [s, .f (.func 128) [] [.p i 0]], h => match QnD h i with
  | some [t] => (getS dotR h t).bind fun m => (getS dotR h s).bind fun l => some (.b (decide (∃ d ∈ l, d ∈ m)), h)
  | _ => none
 | _, _ => none
theorem K8W : Spec Tryz.prog 98 Zvt := by
 intro args h v h' e
 unfold Zvt at e
 split at e
 ·rename_i s i
  split at e
  ·rename_i t hb
   obtain ⟨m, ht, e⟩ := KsT e
   obtain ⟨l, hx, e⟩ := KsT e
   cases e
   refine FnAt.c (FnAt.run (by kernel_rfl) (T := ⟨[⟨136, zmI, fun _ => []⟩], []⟩) ⟨⟨JXu, trivial⟩, trivial⟩ Tryz.func98 sw98 fun ho hh => ?_)
   simp only [znG, Bool.and_eq_true] at ho
   have f1 := hx.fx ho.1 (sz := 2) rfl
   have k0 : ∀ x, QnD (h ++ x) i = some [t] := (zcl hb).1
   have k1 : ∀ x, getS dotR (h ++ x) t = some m := fun x => (ht.app x).get
   unfold w98
   simp only [YGO, Jyg, X5g, QXB, simprocAttr, f1, zmI, k0, k1]
   exact Bt.eq (by simp only [AV.b.injEq, decide_eq_decide]; exact XWi _ l) (List.append_nil h)
  ·cases e
 ·cases e
def mayP (nw : List Hd) (kp : Dots) (v : List Int) (ds : Dots) : Prop := Jhw v ds (nw.map (·.1)) nw.length ∧ Jhw v ds kp kp.length ∧ ¬ ∃ d ∈ kp, d ∈ nw.map (·.1)
noncomputable instance (nw : List Hd) (kp : Dots) (v : List Int) (ds : Dots) : Decidable (mayP nw kp v ds) := Classical.propDecidable _
noncomputable def KfS : List AV → List AB → Option (AV × List AB)
 | [.ag [n, k, s, t]], h => (getS qdS h n).bind fun nw => (getS dotR h k).bind fun kp => (getS intR h s).bind fun v => (getS dotR h t).bind fun ds => if nw.length ≤ 1000000 then some (.b (decide (mayP nw kp v ds)), h) else none
 | _, _ => none
theorem JpO : Spec Tryz.prog 88 KfS := by
 intro args h v h' e
 unfold KfS at e
 split at e
 ·rename_i n k s t
  obtain ⟨nw, hn, e⟩ := KsT e
  obtain ⟨kp, hk, e⟩ := KsT e
  obtain ⟨xs, hv, e⟩ := KsT e
  obtain ⟨ds, hd, e⟩ := KsT e
  split at e
  ·rename_i hL
   cases e
   refine FnAt.c (FnAt.run (by kernel_rfl) (T := ⟨[⟨85, XJg, fun _ => []⟩, ⟨84, ZdA, fun _ => []⟩, ⟨98, Zvt, fun _ => []⟩], []⟩) ⟨⟨KKO, qg7, K8W, trivial⟩, trivial⟩ Tryz.func88 sw88 fun ho hh => ?_)
   simp only [znG, Z4M, Bool.and_eq_true] at ho
   have f1 := hn.fx ho.1.1 (sz := 34) rfl
   have f2 := hk.fx ho.1.2.1 (sz := 2) rfl
   have f3 := hv.fx ho.1.2.2.1 (sz := 1) rfl
   have f4 := hd.fx ho.1.2.2.2.1 (sz := 2) rfl
   have hL' := eq_true hL
   have hm : (nw.length ≤ maxLen) = True := eq_true hn.2
   have hM : (nw.map (·.1)).length = nw.length := List.length_map _
   unfold w88
   by_cases h0 : nw = []
   ·subst h0
    have q1 : Jhw xs ds [] 0 = True := eq_true fun k hk => absurd hk (Nat.not_lt_zero _)
    have q2 : mayP [] kp xs ds ↔ Jhw xs ds kp kp.length := ⟨fun z => z.2.1, fun z => ⟨fun k hk => absurd hk (Nat.not_lt_zero _), z, by simp⟩⟩
    have q3 : (∃ d ∈ kp, d ∈ ([] : Dots)) = False := eq_false (by simp)
    simp only [YGO, Jyg, X5g, zLK, QXB, simprocAttr, CO.tmps, Opd.tmps, optT, Nat.reducePow, Nat.reduceDiv, Nat.reduceMod, f1, f2, f3, f4, XJg, ZdA, Zvt, XoA, List.map_nil, qZR, List.length_nil, X9f, hL', q1, q3]
    refine ⟨fun h1 => Bt.dropB _ hh (decide_eq_true (q2.2 h1)).symm, fun h1 => Bt.dropB _ hh (decide_eq_false fun z => h1 (q2.1 z)).symm⟩
   ·have hlB : (nw.map (·.1)).length ≠ 0 := fun q => h0 (List.eq_nil_of_length_eq_zero (by rwa [hM] at q))
    have gr : ∀ id, apS dotR id (nw.map (·.1)) = rsl dotR id (nw.map (·.1)) := fun id => Y8V _ hlB
    simp only [YGO, Jyg, X5g, zLK, QXB, simprocAttr, CO.tmps, Opd.tmps, optT, Nat.reducePow, Nat.reduceDiv, Nat.reduceMod, f1, f2, f3, f4, XJg, ZdA, Zvt, gr, ZZ4, Zpl, hM, hm, X9f, hL']
    refine ⟨fun h1 => ⟨fun h2 => Bt.dropB _ hh (decide_eq_decide.2 ⟨fun z => ⟨h1, h2, z⟩, fun z => z.2.2⟩), fun h2 => Bt.dropB _ hh (decide_eq_false fun z => h2 z.2.1).symm⟩, fun h1 => Bt.dropB _ hh (decide_eq_false fun z => h1 z.1).symm⟩
  ·cases e
 ·cases e
end Go.Proofs.YtfaccliekejngaaGreat
end
