/- Part 29 of what the laws' proofs rest on. No condition. -/
import Derived.Test.YtcncpbcbedfakaaGreatRo28
set_option linter.all false
section
namespace Go.Proofs.YtcncpbcbedfakaaGreat
set_option maxRecDepth 100000
set_option maxHeartbeats 8000000
theorem KeC (h : List AB) : znS [.ag [.ns, .ns, .ns]] h = some (.tu [], h) := rfl
theorem zdR {h L : List AB} {l : List Hd} {v : List Int} {m : Dots} {i j k : Nat} (hi : ownM Kd6 l L i) (hj : ownM intR v L j) (hk : ownM dotR m L k) (hl : l.length ≤ 1000000) (hv : v.length ≤ 1000000) (hm : m.length ≤ 1000000) (n1 : (i = j) = False) (n2 : (i = k) = False) (n3 : (j = k) = False) :
  znS [.ag [rsl Kd6 (h.length + i) l, rsl intR (h.length + j) v, rsl dotR (h.length + k) m]] (h ++ L) = some (.tu [], h ++ q3W (q3W (q3W L i) j) k) := by
 have h1 : (h ++ L)[h.length + i]? = some (resB Kd6 true l) := by rw [qu4]; exact KAS l L i hi
 have h2 : (h ++ L)[h.length + j]? = some (resB intR true v) := by rw [qu4]; exact KAS v L j hj
 have h3 : (h ++ L)[h.length + k]? = some (resB dotR true m) := by rw [qu4]; exact KAS m L k hk
 have g1 : getS Kd6 (h ++ L) (rsl Kd6 (h.length + i) l) = some l := (K0f h1 (by unfold maxLen; omega)).get
 have g2 : getS intR (h ++ L) (rsl intR (h.length + j) v) = some v := (K0f h2 (by unfold maxLen; omega)).get
 have g3 : getS dotR (h ++ L) (rsl dotR (h.length + k) m) = some m := (K0f h3 (by unfold maxLen; omega)).get
 have m1 : ¬ i = j := fun q => by rw [q] at n1; simp at n1
 have m2 : ¬ i = k := fun q => by rw [q] at n2; simp at n2
 have m3 : ¬ j = k := fun q => by rw [q] at n3; simp at n3
 unfold znS
 split
 ·rename_i q
  simp only [List.cons.injEq, AV.ag.injEq] at q
  exact absurd q.1.1 (qVa _ _ _)
 ·rename_i q
  simp only [List.cons.injEq, AV.ag.injEq, and_true] at q
  obtain ⟨rfl, rfl, rfl⟩ := q
  rw [g1, g2, g3]
  simp only [Option.bind_some, Qqr]
  rw [if_pos ⟨rfl, h1, rfl, h2, rfl, h3, by omega, by omega, by omega, hl, hv, hm⟩, Zsj, Zsj, Zsj]
  rw [Yig, Yig, Yig]
 ·rename_i q1 q2
  first | exact (q2 _ _ _ rfl).elim | exact (q2 _ _ _ rfl rfl).elim | exact (q1 _ _ _ rfl rfl).elim
theorem zkQ {h : List AB} {v : List Int} {ds : Dots} (hr : qD3 v ds) (L : List AB) (k : Nat) (hL : ownC L k = some (intR.cells (fmR v (layR ds)).1)) : getS intR (h ++ L) (.sl (h.length + k) 0 (topI (fmR v (layR ds)).1 16) 16 none) = some (fmO v ds).1 := by
 have inv := KYS v hr.1 hr.2.1 (fun d hd => hr.2.2 d (zyz ds d hd)) (Nat.le_refl (layR ds).length)
 rw [List.take_length] at inv
 have t1 := Qvk (fmR v (layR ds)).1 16
 exact (ZCP hL (by unfold maxLen; omega) (by omega)).get
theorem zVa {h : List AB} (hz : h.map AB.freeze = h) {l1 s1 t1 l2 s2 t2 : AV} {la lb : List Hd} {va vb : List Int} {da db : Dots} (hl1 : Rd Kd6 h l1 la) (hs1 : Rd intR h s1 va) (ht1 : Rd dotR h t1 da) (hl2 : Rd Kd6 h l2 lb) (hs2 : Rd intR h s2 vb) (ht2 : Rd dotR h t2 db) :
  FnAt Tryz.prog 3 [.ag [l1, s1, t1], .ag [l2, s2, t2]] h (.b true) h := by
 refine FnAt.run (by kernel_rfl) (T := ⟨[⟨10, QGt, fun _ => []⟩, ⟨9, ZTc, fun _ => []⟩, ⟨11, z0I, fun _ => []⟩, ⟨12, QSh, fun _ => []⟩, ⟨13, ZDM, fun _ => []⟩, ⟨14, KRb, fun _ => []⟩, ⟨15, znS, fun _ => []⟩], []⟩) ⟨⟨qML, zfH, Xjg, QQf, Zjm, KiC, qa9, trivial⟩, trivial⟩ Tryz.func3 sw3 fun ho hh => ?_
 simp only [XDC, Y8A, Bool.and_eq_true] at ho
 have f1 := hl1.fx ho.1.1 (sz := 34) rfl
 have f2 := hs1.fx ho.1.2.1 (sz := 1) rfl
 have f3 := ht1.fx ho.1.2.2.1 (sz := 2) rfl
 have f4 := hl2.fx ho.2.1.1 (sz := 34) rfl
 have f5 := hs2.fx ho.2.1.2.1 (sz := 1) rfl
 have f6 := ht2.fx ho.2.1.2.2.1 (sz := 2) rfl
 unfold w3
 by_cases La : 20 < la.length ∨ 20 < va.length ∨ 30 < da.length
 ·have g := eq_true La
  simp only [QhW, YqD, z18, KHF, Xq8, if_true, if_false, ↓reduceIte, Nat.reduceAdd, Nat.reduceSub, Nat.reduceLeDiff, Nat.reduceEqDiff, Nat.reduceMul, Nat.reduceLT, Int.reduceLT, Int.reduceLE, Int.reduceEq, CO.tmps, Opd.tmps, optT, Nat.reducePow, Nat.reduceDiv, Nat.reduceMod, f1, f2, f3, f4, f5, f6, ZTc, QGt, z0I, QSh, ZDM, KRb, KeC, zdR, XUt hh, Ygn hz, QqV hz, qNQ hz, ne_eq, not_false_eq_true, not_true_eq_false, decide_true, decide_false, zKf, beq_self_eq_true, and_self, eq_self, g]
  exact Bt.dropB _ hh rfl
 have ga := eq_false La
 by_cases Lb : 20 < lb.length ∨ 20 < vb.length ∨ 30 < db.length
 ·have g := eq_true Lb
  simp only [QhW, YqD, z18, KHF, Xq8, if_true, if_false, ↓reduceIte, Nat.reduceAdd, Nat.reduceSub, Nat.reduceLeDiff, Nat.reduceEqDiff, Nat.reduceMul, Nat.reduceLT, Int.reduceLT, Int.reduceLE, Int.reduceEq, CO.tmps, Opd.tmps, optT, Nat.reducePow, Nat.reduceDiv, Nat.reduceMod, f1, f2, f3, f4, f5, f6, ZTc, QGt, z0I, QSh, ZDM, KRb, KeC, zdR, XUt hh, Ygn hz, QqV hz, qNQ hz, ne_eq, not_false_eq_true, not_true_eq_false, decide_true, decide_false, zKf, beq_self_eq_true, and_self, eq_self, ga, g]
  exact Bt.dropB _ hh rfl
 have gb := eq_false Lb
 have m1 : (la.length ≤ 1000000) = True := eq_true (by omega)
 have m2 : (va.length ≤ 1000000) = True := eq_true (by omega)
 have m3 : (da.length ≤ 1000000) = True := eq_true (by omega)
 have m4 : (lb.length ≤ 1000000) = True := eq_true (by omega)
 have m5 : (vb.length ≤ 1000000) = True := eq_true (by omega)
 have m6 : (db.length ≤ 1000000) = True := eq_true (by omega)
 have n1 : (la.length ≤ 10000) = True := eq_true (by omega)
 have n2 : (lb.length ≤ 10000) = True := eq_true (by omega)
 have n3 : (la.length ≤ 100000) = True := eq_true (by omega)
 have n4 : (lb.length ≤ 100000) = True := eq_true (by omega)
 by_cases ca : QeQ la va da = 0
 case neg =>
  have g := eq_false ca
  simp only [QhW, YqD, z18, KHF, Xq8, if_true, if_false, ↓reduceIte, Nat.reduceAdd, Nat.reduceSub, Nat.reduceLeDiff, Nat.reduceEqDiff, Nat.reduceMul, Nat.reduceLT, Int.reduceLT, Int.reduceLE, Int.reduceEq, CO.tmps, Opd.tmps, optT, Nat.reducePow, Nat.reduceDiv, Nat.reduceMod, f1, f2, f3, f4, f5, f6, ZTc, QGt, z0I, QSh, ZDM, KRb, KeC, zdR, XUt hh, Ygn hz, QqV hz, qNQ hz, ne_eq, not_false_eq_true, not_true_eq_false, decide_true, decide_false, zKf, beq_self_eq_true, and_self, eq_self, ga, gb, m1, m2, m3, m4, m5, m6, n1, n2, n3, n4, z9n, g]
  exact Bt.dropB _ hh rfl
 by_cases cb : QeQ lb vb db = 0
 case neg =>
  have g := eq_false cb
  simp only [QhW, YqD, z18, KHF, Xq8, if_true, if_false, ↓reduceIte, Nat.reduceAdd, Nat.reduceSub, Nat.reduceLeDiff, Nat.reduceEqDiff, Nat.reduceMul, Nat.reduceLT, Int.reduceLT, Int.reduceLE, Int.reduceEq, CO.tmps, Opd.tmps, optT, Nat.reducePow, Nat.reduceDiv, Nat.reduceMod, f1, f2, f3, f4, f5, f6, ZTc, QGt, z0I, QSh, ZDM, KRb, KeC, zdR, XUt hh, Ygn hz, QqV hz, qNQ hz, ne_eq, not_false_eq_true, not_true_eq_false, decide_true, decide_false, zKf, beq_self_eq_true, and_self, eq_self, ga, gb, m1, m2, m3, m4, m5, m6, n1, n2, n3, n4, z9n, ca, g]
  exact Bt.dropB _ hh rfl
 by_cases gab : agreeP la lb
 case neg =>
  have g := eq_false gab
  simp only [QhW, YqD, z18, KHF, Xq8, if_true, if_false, ↓reduceIte, Nat.reduceAdd, Nat.reduceSub, Nat.reduceLeDiff, Nat.reduceEqDiff, Nat.reduceMul, Nat.reduceLT, Int.reduceLT, Int.reduceLE, Int.reduceEq, CO.tmps, Opd.tmps, optT, Nat.reducePow, Nat.reduceDiv, Nat.reduceMod, f1, f2, f3, f4, f5, f6, ZTc, QGt, z0I, QSh, ZDM, KRb, KeC, zdR, XUt hh, Ygn hz, QqV hz, qNQ hz, ne_eq, not_false_eq_true, not_true_eq_false, decide_true, decide_false, zKf, beq_self_eq_true, and_self, eq_self, ga, gb, m1, m2, m3, m4, m5, m6, n1, n2, n3, n4, z9n, ca, cb, g]
  exact Bt.dropB _ hh rfl
 have g := eq_true gab
 have ra := XlN.1 ca
 have rb := XlN.1 cb
 have kr := Zvu ra.nf.rg rb.nf.rg
 have kl := Jlr ra.nf rb.nf
 have kv := (Zi4 ra.nf rb.nf).rg.1
 have u1 := q55 la lb va vb da db
 have e3 : fmO (YLg va vb 16) (da ++ db) = z9r va vb da db := rfl
 have e2 : (fmR (YLg va vb 16) (layR (da ++ db))).2 = (z9r va vb da db).2 := rfl
 have e1 := fun (L : List AB) (k : Nat) (hL : ownC L k = some (intR.cells (fmR (YLg va vb 16) (layR (da ++ db))).1)) => zkQ (h := h) kr L k hL
 rw [e3] at e1
 have o1 : ((z9r va vb da db).2.length ≤ 4096) = True := eq_true (by omega)
 have o2 : ((z9r va vb da db).1.length ≤ 1000000) = True := eq_true (by omega)
 have o3 : ((z9r va vb da db).2.length ≤ 1000000) = True := eq_true (by omega)
 have o4 : ((jnL la lb va vb da db).length ≤ 1000000) = True := eq_true (by omega)
 simp only [QhW, YqD, z18, KHF, Xq8, if_true, if_false, ↓reduceIte, Nat.reduceAdd, Nat.reduceSub, Nat.reduceLeDiff, Nat.reduceEqDiff, Nat.reduceMul, Nat.reduceLT, Int.reduceLT, Int.reduceLE, Int.reduceEq, CO.tmps, Opd.tmps, optT, Nat.reducePow, Nat.reduceDiv, Nat.reduceMod, f1, f2, f3, f4, f5, f6, ZTc, QGt, z0I, QSh, ZDM, KRb, KeC, zdR, XUt hh, Ygn hz, QqV hz, qNQ hz, ne_eq, not_false_eq_true, not_true_eq_false, decide_true, decide_false, zKf, beq_self_eq_true, and_self, eq_self, ga, gb, m1, m2, m3, m4, m5, m6, n1, n2, n3, n4, z9n, ca, cb, g, e1, e2, e3, o1, o2, o3, o4]
 exact Bt.dropB _ hh rfl
end Go.Proofs.YtcncpbcbedfakaaGreat
end
