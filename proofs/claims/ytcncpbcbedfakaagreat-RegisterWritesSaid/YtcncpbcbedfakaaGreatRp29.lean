/- No condition. -/
import Derived.Test.YtcncpbcbedfakaaGreatRp28
set_option linter.all false
section
namespace Go.Proofs.YtcncpbcbedfakaaGreat
set_option maxRecDepth 100000
set_option maxHeartbeats 16000000
theorem zXM {α : Type} {r : Row α} {h L : List AB} {l : List α} {k : Nat} (hk : ownM r l L k) (hl : l.length ≤ 1000000) : ZQd r [rsl r (h.length + k) l] (h ++ L) = some (.tu [], h ++ qd4 L k) := by
 have h1 : (h ++ L)[h.length + k]? = some (resB r true l) := by rw [Qzu]; exact Q6t l L k hk
 have := Q48 (r := r) (h := h ++ L) h1 hl []
 rw [List.append_nil, List.append_nil, qIW, ← X5U] at this
 exact this
theorem KIA {h : List AB} (hz : h.map AB.freeze = h) {l1 s1 t1 s2 t2 : AV} {la : List Hd} {va vc : List Int} {da dc : Dots} (hl1 : Rd Qv2 h l1 la) (hs1 : Rd intR h s1 va) (ht1 : Rd dotR h t1 da) (hs2 : Rd intR h s2 vc) (ht2 : Rd dotR h t2 dc) (x y : Int) (i : Dg) :
  FnAt Tryz.prog 4 [.ag [l1, s1, t1], .ag [.i .i64 x, .i .i64 y], .ag (idR.f i), .ag [s2, t2]] h (.b true) h := by
 refine FnAt.run (by kernel_rfl) (T := ⟨[⟨10, Jwr, fun _ => []⟩, ⟨9, Zjc, fun _ => []⟩, ⟨16, qBl, fun _ => []⟩, ⟨11, YkC, fun _ => []⟩, ⟨17, KAb, fun _ => []⟩, ⟨18, Z6Z, fun _ => []⟩, ⟨19, XJQ, fun _ => []⟩, ⟨20, Jga, fun _ => []⟩, ⟨21, qHa, fun _ => []⟩, ⟨22, XGJ, fun _ => []⟩, ⟨24, XGJ, fun _ => []⟩, ⟨14, QWB, fun _ => []⟩, ⟨23, XSX, fun _ => []⟩, ⟨30, Qd2, fun _ => []⟩, ⟨25, z82, fun _ => []⟩, ⟨26, z82, fun _ => []⟩, ⟨27, z0s, fun _ => []⟩, ⟨28, Q1i, fun _ => []⟩, ⟨15, YBB, fun _ => []⟩, ⟨29, ZQd idR, fun _ => []⟩], []⟩) ⟨⟨Q7B, JJC, zma, QT6, KGT, Yjt, zey, YD9, YlH, Jmw, Y4y, Jmh, qb5, qVt, YKn, qTD, QOB, ZYN, Kzc, J0a, trivial⟩, trivial⟩ Tryz.func4 sw4 fun ho hh => ?_
 simp only [Xto, J9P, Bool.and_eq_true] at ho
 have f1 := hl1.fx ho.1.1 (sz := 34) rfl
 have f2 := hs1.fx ho.1.2.1 (sz := 1) rfl
 have f3 := ht1.fx ho.1.2.2.1 (sz := 2) rfl
 have f4 := hs2.fx ho.2.2.2.1.1 (sz := 1) rfl
 have f5 := ht2.fx ho.2.2.2.1.2.1 (sz := 2) rfl
 unfold w4
 by_cases La : 20 < la.length ∨ 20 < va.length ∨ 30 < da.length
 ·have g := eq_true La
  simp (maxSteps := 4000000) only [X7f, KtR, YUa, YOR, XuN, simprocAttr, CO.tmps, Opd.tmps, optT, f1, f2, f3, f4, f5, Zjc, qBl, Jwr, XRx, JUv, Jmb, zN5 hh, X9l hz, Zf1 hz, QwP hz, g]
  exact Bt.dropB _ hh rfl
 have ga := eq_false La
 by_cases Lc : 20 < vc.length ∨ 30 < dc.length
 ·have g := eq_true Lc
  simp (maxSteps := 4000000) only [X7f, KtR, YUa, YOR, XuN, simprocAttr, CO.tmps, Opd.tmps, optT, f1, f2, f3, f4, f5, Zjc, qBl, Jwr, XRx, JUv, Jmb, zN5 hh, X9l hz, Zf1 hz, QwP hz, ga, g]
  exact Bt.dropB _ hh rfl
 have gc := eq_false Lc
 have m1 : (la.length ≤ 1000000) = True := eq_true (by omega)
 have m2 : (va.length ≤ 1000000) = True := eq_true (by omega)
 have m3 : (da.length ≤ 1000000) = True := eq_true (by omega)
 have m4 : (vc.length ≤ 1000000) = True := eq_true (by omega)
 have m5 : (dc.length ≤ 1000000) = True := eq_true (by omega)
 have m6 : (la.length ≤ 100000) = True := eq_true (by omega)
 by_cases ca : KwI la va da = 0
 case neg =>
  have g := eq_false ca
  have g2 : (wrE la va da (x, y) vc dc = 0) = False := eq_false fun q => ca (zQ5 q).1
  simp (maxSteps := 4000000) only [X7f, KtR, YUa, YOR, XuN, simprocAttr, CO.tmps, Opd.tmps, optT, f1, f2, f3, f4, f5, Zjc, qBl, Jwr, YkC, KAb, Z6Z, XJQ, Jga, qHa, XGJ, QWB, XSX, Qd2, z82, z0s, Q1i, YAD, q33, qvI, zXM, zJO, XRx, JUv, Q40, Jmb, qdw, zN5 hh, X9l hz, Zf1 hz, QwP hz, ne_eq, zzB, Ycd, beq_self_eq_true, and_self, eq_self, ga, gc, m1, m2, m3, m4, m5, m6, qHz, g, g2]
  exact Bt.dropB _ hh rfl
 have ra := XFh.1 ca
 have m7 : ((dgsL la).length ≤ 1000000) = True := eq_true (by have := q2R la; omega)
 by_cases cc : Zmz vc dc = 0
 case neg =>
  have g := eq_false cc
  have g2 : (wrE la va da (x, y) vc dc = 0) = False := eq_false fun q => cc (zQ5 q).2.2.1
  simp (maxSteps := 4000000) only [X7f, KtR, YUa, YOR, XuN, simprocAttr, CO.tmps, Opd.tmps, optT, f1, f2, f3, f4, f5, Zjc, qBl, Jwr, YkC, KAb, Z6Z, XJQ, Jga, qHa, XGJ, QWB, XSX, Qd2, z82, z0s, Q1i, YAD, q33, qvI, zXM, zJO, XRx, JUv, Q40, Jmb, qdw, zN5 hh, X9l hz, Zf1 hz, QwP hz, ne_eq, zzB, Ycd, beq_self_eq_true, and_self, eq_self, ga, gc, m1, m2, m3, m4, m5, m6, qHz, ca, m7, g, g2]
  exact Bt.dropB _ hh rfl
 have rc := YIm cc
 have kr := JT6 ra.nf.rg rc.rg
 have kl := ztk ra.nf rc
 have nj := qBh ra.nf rc
 have kv := nj.rg.1
 have e3 : fmO (K3Q va vc 16) (da ++ dc) = Zjt va vc da dc := rfl
 have e2 : (fmR (K3Q va vc 16) (layR (da ++ dc))).2 = (Zjt va vc da dc).2 := rfl
 have e1 := fun (L : List AB) (k : Nat) (hL : ownC L k = some (intR.cells (fmR (K3Q va vc 16) (layR (da ++ dc))).1)) => zlX (h := h) kr L k hL
 rw [e3] at e1
 have o1 : ((Zjt va vc da dc).2.length ≤ 4096) = True := eq_true (by omega)
 have o2 : ((Zjt va vc da dc).1.length ≤ 1000000) = True := eq_true (by omega)
 have o3 : ((Zjt va vc da dc).2.length ≤ 1000000) = True := eq_true (by omega)
 have o4 : ((outL vc dc la).length ≤ 1000000) = True := eq_true (by have := JKG vc dc la; omega)
 by_cases wE : wrE la va da (x, y) vc dc = 0
 case neg =>
  have g := eq_false wE
  simp (maxSteps := 4000000) only [X7f, KtR, YUa, YOR, XuN, simprocAttr, CO.tmps, Opd.tmps, optT, f1, f2, f3, f4, f5, Zjc, qBl, Jwr, YkC, KAb, Z6Z, XJQ, Jga, qHa, XGJ, QWB, XSX, Qd2, z82, z0s, Q1i, YAD, q33, qvI, zXM, zJO, XRx, JUv, Q40, Jmb, qdw, zN5 hh, X9l hz, Zf1 hz, QwP hz, ne_eq, zzB, Ycd, beq_self_eq_true, and_self, eq_self, ga, gc, m1, m2, m3, m4, m5, m6, qHz, ca, cc, m7, e1, e2, e3, o1, o2, o3, o4, g]
  exact Bt.dropB _ hh rfl
 have hd := (zQ5 wE).2.1
 have km := ZAN nj hd
 have n5 := KmN nj hd
 have n6 := (XnG nj hd).rg.1
 have e5 : (fmR (Zjt va vc da dc).1 (layR ((Zjt va vc da dc).2 ++ [(x, y)]))).2 = (mkO (Zjt va vc da dc).1 (Zjt va vc da dc).2 (x, y)).2 := rfl
 have e6 : fmO (Zjt va vc da dc).1 ((Zjt va vc da dc).2 ++ [(x, y)]) = mkO (Zjt va vc da dc).1 (Zjt va vc da dc).2 (x, y) := rfl
 have e4 := fun (L : List AB) (k : Nat) (hL : ownC L k = some (intR.cells (fmR (Zjt va vc da dc).1 (layR ((Zjt va vc da dc).2 ++ [(x, y)]))).1)) => zlX (h := h) km L k hL
 rw [e6] at e4
 have o5 : ((mkO (Zjt va vc da dc).1 (Zjt va vc da dc).2 (x, y)).1.length ≤ 1000000) = True := eq_true (by omega)
 have o6 : ((mkO (Zjt va vc da dc).1 (Zjt va vc da dc).2 (x, y)).2.length ≤ 1000000) = True := eq_true (by omega)
 have o7 : ((wrL la vc dc ((x, y), i)).length ≤ 1000000) = True := eq_true (by have := zfL la vc dc ((x, y), i); omega)
 simp (maxSteps := 4000000) only [X7f, KtR, YUa, YOR, XuN, simprocAttr, CO.tmps, Opd.tmps, optT, f1, f2, f3, f4, f5, Zjc, qBl, Jwr, YkC, KAb, Z6Z, XJQ, Jga, qHa, XGJ, QWB, XSX, Qd2, z82, z0s, Q1i, YAD, q33, qvI, zXM, zJO, XRx, JUv, Q40, Jmb, qdw, zN5 hh, X9l hz, Zf1 hz, QwP hz, ne_eq, zzB, Ycd, beq_self_eq_true, and_self, eq_self, ga, gc, m1, m2, m3, m4, m5, m6, qHz, ca, cc, wE, m7, e1, e2, e3, e4, e5, e6, o1, o2, o3, o4, o5, o6, o7]
 exact Bt.dropB _ hh rfl
end Go.Proofs.YtcncpbcbedfakaaGreat
end
