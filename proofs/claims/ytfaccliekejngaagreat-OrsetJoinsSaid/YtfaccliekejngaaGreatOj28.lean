/- Part 28 of what the laws' proofs rest on. No condition. -/
import Derived.Test.YtfaccliekejngaaGreatOj27
set_option linter.all false
section
namespace Go.Proofs.YtfaccliekejngaaGreat
set_option maxRecDepth 100000
set_option maxHeartbeats 8000000
theorem Qzv (h : List AB) : YJN [.ag [.ns, .ns, .ns]] h = some (.tu [], h) := rfl
theorem JwT {h L : List AB} {l : List Hd} {v : List Int} {m : Dots} {i j k : Nat} (hi : ownM qdS l L i) (hj : ownM intR v L j) (hk : ownM dotR m L k) (hl : l.length ≤ 1000000) (hv : v.length ≤ 1000000) (hm : m.length ≤ 1000000) (n1 : (i = j) = False) (n2 : (i = k) = False) (n3 : (j = k) = False) :
  YJN [.ag [rsl qdS (h.length + i) l, rsl intR (h.length + j) v, rsl dotR (h.length + k) m]] (h ++ L) = some (.tu [], h ++ Ko9 (Ko9 (Ko9 L i) j) k) := by
 have h1 : (h ++ L)[h.length + i]? = some (resB qdS true l) := by rw [z0m]; exact JOK l L i hi
 have h2 : (h ++ L)[h.length + j]? = some (resB intR true v) := by rw [z0m]; exact JOK v L j hj
 have h3 : (h ++ L)[h.length + k]? = some (resB dotR true m) := by rw [z0m]; exact JOK m L k hk
 have g1 : getS qdS (h ++ L) (rsl qdS (h.length + i) l) = some l := (quw h1 (by unfold maxLen; omega)).get
 have g2 : getS intR (h ++ L) (rsl intR (h.length + j) v) = some v := (quw h2 (by unfold maxLen; omega)).get
 have g3 : getS dotR (h ++ L) (rsl dotR (h.length + k) m) = some m := (quw h3 (by unfold maxLen; omega)).get
 have m1 : ¬ i = j := fun q => by rw [q] at n1; simp at n1
 have m2 : ¬ i = k := fun q => by rw [q] at n2; simp at n2
 have m3 : ¬ j = k := fun q => by rw [q] at n3; simp at n3
 unfold YJN
 split
 ·rename_i q
  simp only [List.cons.injEq, AV.ag.injEq] at q
  exact absurd q.1.1 (Zq0 _ _ _)
 ·rename_i q
  simp only [List.cons.injEq, AV.ag.injEq, and_true] at q
  obtain ⟨rfl, rfl, rfl⟩ := q
  rw [g1, g2, g3]
  simp only [Option.bind_some, JNv]
  rw [if_pos ⟨rfl, h1, rfl, h2, rfl, h3, by omega, by omega, by omega, hl, hv, hm⟩, ZbS, ZbS, ZbS]
  rw [Zbq, Zbq, Zbq]
 ·rename_i q1 q2
  first | exact (q2 _ _ _ rfl).elim | exact (q2 _ _ _ rfl rfl).elim | exact (q1 _ _ _ rfl rfl).elim
theorem XtT {h : List AB} {v : List Int} {ds : Dots} (hr : ZHB v ds) (L : List AB) (k : Nat) (hL : ownC L k = some (intR.cells (fmR v (layR ds)).1)) : getS intR (h ++ L) (.sl (h.length + k) 0 (topI (fmR v (layR ds)).1 16) 16 none) = some (fmO v ds).1 := by
 have inv := KjD v hr.1 hr.2.1 (fun d hd => hr.2.2 d (XH4 ds d hd)) (Nat.le_refl (layR ds).length)
 rw [List.take_length] at inv
 have t1 := X40 (fmR v (layR ds)).1 16
 exact (XKv hL (by unfold maxLen; omega) (by omega)).get
end Go.Proofs.YtfaccliekejngaaGreat
end
section
namespace Go.Proofs.YtfaccliekejngaaGreat
set_option maxRecDepth 100000
set_option maxHeartbeats 8000000
theorem Kdd {h : List AB} (hz : h.map AB.freeze = h) {l1 s1 t1 l2 s2 t2 s3 t3 : AV} {la lb : List Hd} {va vb vc : List Int} {da db dc : Dots} (hl1 : Rd qdS h l1 la) (hs1 : Rd intR h s1 va) (ht1 : Rd dotR h t1 da) (hl2 : Rd qdS h l2 lb) (hs2 : Rd intR h s2 vb) (ht2 : Rd dotR h t2 db) (hs3 : Rd intR h s3 vc) (ht3 : Rd dotR h t3 dc) :
  FnAt Tryz.prog 3 [.ag [l1, s1, t1], .ag [l2, s2, t2], .ag [s3, t3]] h (.b true) h := by
 refine FnAt.run (by kernel_rfl) (T := ⟨[⟨12, qfh, fun _ => []⟩, ⟨10, QOg, fun _ => []⟩, ⟨11, QB3, fun _ => []⟩, ⟨13, Z2L, fun _ => []⟩, ⟨14, qsF, fun _ => []⟩, ⟨15, ZAt, fun _ => []⟩, ⟨16, YnD, fun _ => []⟩, ⟨17, Zzb, fun _ => []⟩, ⟨18, Zzb, fun _ => []⟩, ⟨19, KNf, fun _ => []⟩, ⟨20, Yb9, fun _ => []⟩, ⟨23, Z5e, fun _ => []⟩, ⟨21, YJN, fun _ => []⟩, ⟨22, znc, fun _ => []⟩], []⟩) ⟨⟨zP8, JDW, qqj, zCz, zwa, z3q, KZY, YdW, YGO, Q3m, KNc, QfY, qY9, zIK, trivial⟩, trivial⟩ Tryz.func3 sw3 fun ho hh => ?_
 simp only [znG, Z4M, Bool.and_eq_true] at ho
 have f1 := hl1.fx ho.1.1 (sz := 34) rfl
 have f2 := hs1.fx ho.1.2.1 (sz := 1) rfl
 have f3 := ht1.fx ho.1.2.2.1 (sz := 2) rfl
 have f4 := hl2.fx ho.2.1.1 (sz := 34) rfl
 have f5 := hs2.fx ho.2.1.2.1 (sz := 1) rfl
 have f6 := ht2.fx ho.2.1.2.2.1 (sz := 2) rfl
 have f7 := hs3.fx ho.2.2.1.1 (sz := 1) rfl
 have f8 := ht3.fx ho.2.2.1.2.1 (sz := 2) rfl
 unfold w3
 by_cases La : 20 < la.length ∨ 20 < va.length ∨ 30 < da.length
 ·have g := eq_true La
  simp only [YGP, Jyg, X5g, zLK, QXB, simprocAttr, CO.tmps, Opd.tmps, optT, Nat.reducePow, Nat.reduceDiv, Nat.reduceMod, f1, f2, f3, f4, f5, f6, f7, f8, QOg, QB3, qfh, Z2L, qsF, ZAt, YnD, rCl, rClB, Zzb, KNf, Yb9, Z5e, Qzv, JwT, Z7Y, Jub, XeO hh, QU9 hz, QLc hz, zkD hz, ne_eq, not_false_eq_true, not_true_eq_false, decide_true, decide_false, zwU, beq_self_eq_true, and_self, eq_self, XoA, g]
  exact Bt.dropB _ hh rfl
 have ga := eq_false La
 by_cases Lb : 20 < lb.length ∨ 20 < vb.length ∨ 30 < db.length
 ·have g := eq_true Lb
  simp only [YGP, Jyg, X5g, zLK, QXB, simprocAttr, CO.tmps, Opd.tmps, optT, Nat.reducePow, Nat.reduceDiv, Nat.reduceMod, f1, f2, f3, f4, f5, f6, f7, f8, QOg, QB3, qfh, Z2L, qsF, ZAt, YnD, rCl, rClB, Zzb, KNf, Yb9, Z5e, Qzv, JwT, Z7Y, Jub, XeO hh, QU9 hz, QLc hz, zkD hz, ne_eq, not_false_eq_true, not_true_eq_false, decide_true, decide_false, zwU, beq_self_eq_true, and_self, eq_self, XoA, ga, g]
  exact Bt.dropB _ hh rfl
 have gb := eq_false Lb
 by_cases Lc : 20 < vc.length ∨ 30 < dc.length
 ·have g := eq_true Lc
  simp only [YGP, Jyg, X5g, zLK, QXB, simprocAttr, CO.tmps, Opd.tmps, optT, Nat.reducePow, Nat.reduceDiv, Nat.reduceMod, f1, f2, f3, f4, f5, f6, f7, f8, QOg, QB3, qfh, Z2L, qsF, ZAt, YnD, rCl, rClB, Zzb, KNf, Yb9, Z5e, Qzv, JwT, Z7Y, Jub, XeO hh, QU9 hz, QLc hz, zkD hz, ne_eq, not_false_eq_true, not_true_eq_false, decide_true, decide_false, zwU, beq_self_eq_true, and_self, eq_self, XoA, ga, gb, g]
  exact Bt.dropB _ hh rfl
 have gc := eq_false Lc
 have m1 : (la.length ≤ 1000000) = True := eq_true (by omega)
 have m2 : (va.length ≤ 1000000) = True := eq_true (by omega)
 have m3 : (da.length ≤ 1000000) = True := eq_true (by omega)
 have m4 : (lb.length ≤ 1000000) = True := eq_true (by omega)
 have m5 : (vb.length ≤ 1000000) = True := eq_true (by omega)
 have m6 : (db.length ≤ 1000000) = True := eq_true (by omega)
 have m7 : (vc.length ≤ 1000000) = True := eq_true (by omega)
 have m8 : (dc.length ≤ 1000000) = True := eq_true (by omega)
 have n1 : (la.length ≤ 10000) = True := eq_true (by omega)
 have n2 : (lb.length ≤ 10000) = True := eq_true (by omega)
 have lo := QX9 vc dc la
 have lk := JA4 vc dc la la.length
 rw [List.take_length] at lk
 have p1 : ((outL vc dc la).length ≤ 1000000) = True := eq_true (by omega)
 have p2 : ((ZS3 vc dc la).length ≤ 1000000) = True := eq_true (by omega)
 by_cases ca : QjU la va da = 0
 case neg =>
  have g := eq_false ca
  simp only [YGP, Jyg, X5g, zLK, QXB, simprocAttr, CO.tmps, Opd.tmps, optT, Nat.reducePow, Nat.reduceDiv, Nat.reduceMod, f1, f2, f3, f4, f5, f6, f7, f8, QOg, QB3, qfh, Z2L, qsF, ZAt, YnD, rCl, rClB, Zzb, KNf, Yb9, Z5e, Qzv, JwT, Z7Y, Jub, XeO hh, QU9 hz, QLc hz, zkD hz, ne_eq, not_false_eq_true, not_true_eq_false, decide_true, decide_false, zwU, beq_self_eq_true, and_self, eq_self, XoA, ga, gb, gc, m1, m2, m3, m4, m5, m6, m7, m8, n1, n2, p1, p2, ZnW, g]
  exact Bt.dropB _ hh rfl
 have ra := Koi.1 ca
 by_cases cb : QjU lb vb db = 0
 case neg =>
  have g := eq_false cb
  by_cases cc : X74 vc dc = 0
  ·simp only [YGP, Jyg, X5g, zLK, QXB, simprocAttr, CO.tmps, Opd.tmps, optT, Nat.reducePow, Nat.reduceDiv, Nat.reduceMod, f1, f2, f3, f4, f5, f6, f7, f8, QOg, QB3, qfh, Z2L, qsF, ZAt, YnD, rCl, rClB, Zzb, KNf, Yb9, Z5e, Qzv, JwT, Z7Y, Jub, XeO hh, QU9 hz, QLc hz, zkD hz, ne_eq, not_false_eq_true, not_true_eq_false, decide_true, decide_false, zwU, beq_self_eq_true, and_self, eq_self, XoA, ga, gb, gc, m1, m2, m3, m4, m5, m6, m7, m8, n1, n2, p1, p2, ZnW, ca, cc, g]
   exact Bt.dropB _ hh rfl
  ·have gd := eq_false cc
   simp only [YGP, Jyg, X5g, zLK, QXB, simprocAttr, CO.tmps, Opd.tmps, optT, Nat.reducePow, Nat.reduceDiv, Nat.reduceMod, f1, f2, f3, f4, f5, f6, f7, f8, QOg, QB3, qfh, Z2L, qsF, ZAt, YnD, rCl, rClB, Zzb, KNf, Yb9, Z5e, Qzv, JwT, Z7Y, Jub, XeO hh, QU9 hz, QLc hz, zkD hz, ne_eq, not_false_eq_true, not_true_eq_false, decide_true, decide_false, zwU, beq_self_eq_true, and_self, eq_self, XoA, ga, gb, gc, m1, m2, m3, m4, m5, m6, m7, m8, n1, n2, p1, p2, ZnW, ca, gd, g]
   exact Bt.dropB _ hh rfl
 by_cases gab : J36 la lb
 case neg =>
  have g := eq_false gab
  by_cases cc : X74 vc dc = 0
  ·simp only [YGP, Jyg, X5g, zLK, QXB, simprocAttr, CO.tmps, Opd.tmps, optT, Nat.reducePow, Nat.reduceDiv, Nat.reduceMod, f1, f2, f3, f4, f5, f6, f7, f8, QOg, QB3, qfh, Z2L, qsF, ZAt, YnD, rCl, rClB, Zzb, KNf, Yb9, Z5e, Qzv, JwT, Z7Y, Jub, XeO hh, QU9 hz, QLc hz, zkD hz, ne_eq, not_false_eq_true, not_true_eq_false, decide_true, decide_false, zwU, beq_self_eq_true, and_self, eq_self, XoA, ga, gb, gc, m1, m2, m3, m4, m5, m6, m7, m8, n1, n2, p1, p2, ZnW, ca, cb, cc, g]
   exact Bt.dropB _ hh rfl
  ·have gd := eq_false cc
   simp only [YGP, Jyg, X5g, zLK, QXB, simprocAttr, CO.tmps, Opd.tmps, optT, Nat.reducePow, Nat.reduceDiv, Nat.reduceMod, f1, f2, f3, f4, f5, f6, f7, f8, QOg, QB3, qfh, Z2L, qsF, ZAt, YnD, rCl, rClB, Zzb, KNf, Yb9, Z5e, Qzv, JwT, Z7Y, Jub, XeO hh, QU9 hz, QLc hz, zkD hz, ne_eq, not_false_eq_true, not_true_eq_false, decide_true, decide_false, zwU, beq_self_eq_true, and_self, eq_self, XoA, ga, gb, gc, m1, m2, m3, m4, m5, m6, m7, m8, n1, n2, p1, p2, ZnW, ca, cb, gd, g]
   exact Bt.dropB _ hh rfl
 have g := eq_true gab
 have rb := Koi.1 cb
 have kr := qcK ra.nf.rg rb.nf.rg
 have kl := ZWS ra.nf rb.nf
 have kv := (Qld ra.nf rb.nf).rg.1
 have u1 := YXL la lb va vb da db
 have e3 : fmO (YJO va vb 16) (da ++ db) = QRp va vb da db := rfl
 have e2 : (fmR (YJO va vb 16) (layR (da ++ db))).2 = (QRp va vb da db).2 := rfl
 have e1 := fun (L : List AB) (k : Nat) (hL : ownC L k = some (intR.cells (fmR (YJO va vb 16) (layR (da ++ db))).1)) => XtT (h := h) kr L k hL
 rw [e3] at e1
 have o1 : ((QRp va vb da db).2.length ≤ 4096) = True := eq_true (by omega)
 have o2 : ((QRp va vb da db).1.length ≤ 1000000) = True := eq_true (by omega)
 have o3 : ((QRp va vb da db).2.length ≤ 1000000) = True := eq_true (by omega)
 have o4 : ((jnL la lb va vb da db).length ≤ 1000000) = True := eq_true (by omega)
 by_cases cc : X74 vc dc = 0
 ·simp only [YGP, Jyg, X5g, zLK, QXB, simprocAttr, CO.tmps, Opd.tmps, optT, Nat.reducePow, Nat.reduceDiv, Nat.reduceMod, f1, f2, f3, f4, f5, f6, f7, f8, QOg, QB3, qfh, Z2L, qsF, ZAt, YnD, rCl, rClB, Zzb, KNf, Yb9, Z5e, Qzv, JwT, Z7Y, Jub, XeO hh, QU9 hz, QLc hz, zkD hz, ne_eq, not_false_eq_true, not_true_eq_false, decide_true, decide_false, zwU, beq_self_eq_true, and_self, eq_self, XoA, ga, gb, gc, m1, m2, m3, m4, m5, m6, m7, m8, n1, n2, p1, p2, ZnW, ca, cb, cc, g, e1, e2, e3, o1, o2, o3, o4]
  exact Bt.dropB _ hh rfl
 ·have gd := eq_false cc
  simp only [YGP, Jyg, X5g, zLK, QXB, simprocAttr, CO.tmps, Opd.tmps, optT, Nat.reducePow, Nat.reduceDiv, Nat.reduceMod, f1, f2, f3, f4, f5, f6, f7, f8, QOg, QB3, qfh, Z2L, qsF, ZAt, YnD, rCl, rClB, Zzb, KNf, Yb9, Z5e, Qzv, JwT, Z7Y, Jub, XeO hh, QU9 hz, QLc hz, zkD hz, ne_eq, not_false_eq_true, not_true_eq_false, decide_true, decide_false, zwU, beq_self_eq_true, and_self, eq_self, XoA, ga, gb, gc, m1, m2, m3, m4, m5, m6, m7, m8, n1, n2, p1, p2, ZnW, ca, cb, gd, g, e1, e2, e3, o1, o2, o3, o4]
  exact Bt.dropB _ hh rfl
end Go.Proofs.YtfaccliekejngaaGreat
end
