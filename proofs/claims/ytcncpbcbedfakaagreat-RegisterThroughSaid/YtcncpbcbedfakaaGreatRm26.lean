/- Part 26 of what the laws' proofs rest on. No condition. -/
import Derived.Test.YtcncpbcbedfakaaGreatRm25
set_option linter.all false
section
namespace Go.Proofs.YtcncpbcbedfakaaGreat
set_option maxRecDepth 100000
set_option maxHeartbeats 4000000
set_option linter.unusedSimpArgs false
def T_known : List AV → List AB → Option (AV × List AB)
 | [], h => some (.b true, h)
 | _, _ => none
theorem RegisterLattice_at0 (hK : Spec Tryz.prog 5 T_known) {h : List AB} (hz : h.map AB.freeze = h) {l1 s1 t1 l2 s2 t2 l3 s3 t3 : AV} {la lb lc : List Hd} {va vb vc : List Int} {da db dc : Dots} (hl1 : Rd heldR h l1 la) (hs1 : Rd intR h s1 va) (ht1 : Rd dotR h t1 da) (hl2 : Rd heldR h l2 lb) (hs2 : Rd intR h s2 vb) (ht2 : Rd dotR h t2 db) (hl3 : Rd heldR h l3 lc) (hs3 : Rd intR h s3 vc) (ht3 : Rd dotR h t3 dc) (k1 : t1.capOk = true) (k2 : t2.capOk = true) (k3 : t3.capOk = true) :
  FnAt Tryz.prog 6 [.ag [l1, s1, t1], .ag [l2, s2, t2], .ag [l3, s3, t3]] h (.b true) h := by
 refine FnAt.run (by kernel_rfl) (T := ⟨[⟨5, T_known, fun _ => []⟩, ⟨9, T_LongReg, fun _ => []⟩, ⟨27, T_pgCheck, fun _ => []⟩, ⟨12, T_pJoin, fun _ => []⟩, ⟨37, T_agree, fun _ => []⟩, ⟨14, T_SameReg, fun _ => []⟩], []⟩) ⟨⟨hK, LongReg_spec, pgCheck_spec, pJoin_spec, agree_spec, SameReg_spec, trivial⟩, trivial⟩ Tryz.func6 sw6 fun ho hh => ?_
 simp only [okL_cons, ok_ag, Bool.and_eq_true] at ho
 have f1 := hl1.fx ho.1.1 (sz := 34) rfl
 have f2 := hs1.fx ho.1.2.1 (sz := 1) rfl
 have f3 := ht1.fx ho.1.2.2.1 (sz := 2) rfl
 have f4 := hl2.fx ho.2.1.1 (sz := 34) rfl
 have f5 := hs2.fx ho.2.1.2.1 (sz := 1) rfl
 have f6 := ht2.fx ho.2.1.2.2.1 (sz := 2) rfl
 have f7 := hl3.fx ho.2.2.1.1 (sz := 34) rfl
 have f8 := hs3.fx ho.2.2.1.2.1 (sz := 1) rfl
 have f9 := ht3.fx ho.2.2.1.2.2.1 (sz := 2) rfl
 have q1 := And.intro hs1.isSl (And.intro ht1.isSl (And.intro hs2.isSl (And.intro ht2.isSl (And.intro hs3.isSl ht3.isSl))))
 unfold w6
 by_cases La : 20 < la.length ∨ 20 < va.length ∨ 30 < da.length
 ·have g := eq_true La
  simp only [rep_0, rep_s, walkW, walkQ, walkX, if_true, if_false, ↓reduceIte, Nat.reduceAdd, Nat.reduceSub, Nat.reduceLeDiff, Nat.reduceEqDiff, Nat.reduceMul, Nat.reduceLT, Int.reduceLT, Int.reduceLE, Int.reduceEq, CO.tmps, Opd.tmps, optT, Nat.reducePow, Nat.reduceDiv, Nat.reduceMod, f1, f2, f3, f4, f5, f6, f7, f8, f9, T_LongReg, T_known, g]
  exact Bt.dropB _ hh rfl
 have ga := eq_false La
 by_cases Lb : 20 < lb.length ∨ 20 < vb.length ∨ 30 < db.length
 ·have g := eq_true Lb
  simp only [rep_0, rep_s, walkW, walkQ, walkX, if_true, if_false, ↓reduceIte, Nat.reduceAdd, Nat.reduceSub, Nat.reduceLeDiff, Nat.reduceEqDiff, Nat.reduceMul, Nat.reduceLT, Int.reduceLT, Int.reduceLE, Int.reduceEq, CO.tmps, Opd.tmps, optT, Nat.reducePow, Nat.reduceDiv, Nat.reduceMod, f1, f2, f3, f4, f5, f6, f7, f8, f9, T_LongReg, T_known, ga, g]
  exact Bt.dropB _ hh rfl
 have gb := eq_false Lb
 by_cases Lc : 20 < lc.length ∨ 20 < vc.length ∨ 30 < dc.length
 ·have g := eq_true Lc
  simp only [rep_0, rep_s, walkW, walkQ, walkX, if_true, if_false, ↓reduceIte, Nat.reduceAdd, Nat.reduceSub, Nat.reduceLeDiff, Nat.reduceEqDiff, Nat.reduceMul, Nat.reduceLT, Int.reduceLT, Int.reduceLE, Int.reduceEq, CO.tmps, Opd.tmps, optT, Nat.reducePow, Nat.reduceDiv, Nat.reduceMod, f1, f2, f3, f4, f5, f6, f7, f8, f9, T_LongReg, T_known, ga, gb, g]
  exact Bt.dropB _ hh rfl
 have gc := eq_false Lc
 have nla : (la.length ≤ 1000000) = True := eq_true (by omega)
 have nlb : (lb.length ≤ 1000000) = True := eq_true (by omega)
 have nlc : (lc.length ≤ 1000000) = True := eq_true (by omega)
 by_cases ca : checkG la va da = 0
 case neg =>
  have g := eq_false ca
  simp only [rep_0, rep_s, walkW, walkQ, walkX, if_true, if_false, ↓reduceIte, Nat.reduceAdd, Nat.reduceSub, Nat.reduceLeDiff, Nat.reduceEqDiff, Nat.reduceMul, Nat.reduceLT, Int.reduceLT, Int.reduceLE, Int.reduceEq, CO.tmps, Opd.tmps, optT, Nat.reducePow, Nat.reduceDiv, Nat.reduceMod, f1, f2, f3, f4, f5, f6, f7, f8, f9, T_LongReg, T_known, T_pgCheck, ga, gb, gc, nla, g, ne_eq, not_false_eq_true, not_true_eq_false, decide_true, decide_false]
  exact Bt.dropB _ hh rfl
 by_cases cb : checkG lb vb db = 0
 case neg =>
  have g := eq_false cb
  simp only [rep_0, rep_s, walkW, walkQ, walkX, if_true, if_false, ↓reduceIte, Nat.reduceAdd, Nat.reduceSub, Nat.reduceLeDiff, Nat.reduceEqDiff, Nat.reduceMul, Nat.reduceLT, Int.reduceLT, Int.reduceLE, Int.reduceEq, CO.tmps, Opd.tmps, optT, Nat.reducePow, Nat.reduceDiv, Nat.reduceMod, f1, f2, f3, f4, f5, f6, f7, f8, f9, T_LongReg, T_known, T_pgCheck, ga, gb, gc, nla, nlb, ca, g, ne_eq, not_false_eq_true, not_true_eq_false, decide_true, decide_false]
  exact Bt.dropB _ hh rfl
 by_cases cc : checkG lc vc dc = 0
 case neg =>
  have g := eq_false cc
  simp only [rep_0, rep_s, walkW, walkQ, walkX, if_true, if_false, ↓reduceIte, Nat.reduceAdd, Nat.reduceSub, Nat.reduceLeDiff, Nat.reduceEqDiff, Nat.reduceMul, Nat.reduceLT, Int.reduceLT, Int.reduceLE, Int.reduceEq, CO.tmps, Opd.tmps, optT, Nat.reducePow, Nat.reduceDiv, Nat.reduceMod, f1, f2, f3, f4, f5, f6, f7, f8, f9, T_LongReg, T_known, T_pgCheck, ga, gb, gc, nla, nlb, nlc, ca, cb, g, ne_eq, not_false_eq_true, not_true_eq_false, decide_true, decide_false]
  exact Bt.dropB _ hh rfl
 have ra := checkG_rg.1 ca
 have rb := checkG_rg.1 cb
 have rc := checkG_rg.1 cc
 have j1 := join_len ra.nf rb.nf
 have j2 := join_len rb.nf rc.nf
 have nj1 := join_nf ra.nf rb.nf
 have nj2 := join_nf rb.nf rc.nf
 have j3 := join_len nj1 rc.nf
 have v1 := nj1.rg.1
 have v2 := nj2.rg.1
 have v3 := (join_nf nj1 rc.nf).rg.1
 have u1 := jnL_len la lb va vb da db
 have u2 := jnL_len lb lc vb vc db dc
 have u3 := jnL_len (jnL la lb va vb da db) lc (joinO va vb da db).1 vc (joinO va vb da db).2 dc
 have b1 : ((la.length ≤ 10000 ∧ lb.length ≤ 10000)) = True := eq_true ⟨by omega, by omega⟩
 have m1 : ((joinO va vb da db).2.length ≤ 4096) = True := eq_true (by omega)
 by_cases gab : agreeP la lb
 case neg =>
  have g := eq_false gab
  simp only [rep_0, rep_s, walkW, walkQ, walkX, if_true, if_false, ↓reduceIte, Nat.reduceAdd, Nat.reduceSub, Nat.reduceLeDiff, Nat.reduceEqDiff, Nat.reduceMul, Nat.reduceLT, Int.reduceLT, Int.reduceLE, Int.reduceEq, CO.tmps, Opd.tmps, optT, Nat.reducePow, Nat.reduceDiv, Nat.reduceMod, f1, f2, f3, f4, f5, f6, f7, f8, f9, q1, T_LongReg, T_known, T_pgCheck, T_pJoin, T_agree, ga, gb, gc, nla, nlb, nlc, ca, cb, cc, k1, k2, k3, b1, m1, g, ne_eq, not_false_eq_true, not_true_eq_false, decide_true, decide_false]
  exact Bt.dropB _ hh rfl
 have hab := eq_true gab
 by_cases gac : agreeP la lc
 case neg =>
  have g := eq_false gac
  simp only [rep_0, rep_s, walkW, walkQ, walkX, if_true, if_false, ↓reduceIte, Nat.reduceAdd, Nat.reduceSub, Nat.reduceLeDiff, Nat.reduceEqDiff, Nat.reduceMul, Nat.reduceLT, Int.reduceLT, Int.reduceLE, Int.reduceEq, CO.tmps, Opd.tmps, optT, Nat.reducePow, Nat.reduceDiv, Nat.reduceMod, f1, f2, f3, f4, f5, f6, f7, f8, f9, q1, T_LongReg, T_known, T_pgCheck, T_pJoin, T_agree, ga, gb, gc, nla, nlb, nlc, ca, cb, cc, k1, k2, k3, b1, m1, hab, g, ne_eq, not_false_eq_true, not_true_eq_false, decide_true, decide_false]
  exact Bt.dropB _ hh rfl
 have hac := eq_true gac
 by_cases gbc : agreeP lb lc
 case neg =>
  have g := eq_false gbc
  simp only [rep_0, rep_s, walkW, walkQ, walkX, if_true, if_false, ↓reduceIte, Nat.reduceAdd, Nat.reduceSub, Nat.reduceLeDiff, Nat.reduceEqDiff, Nat.reduceMul, Nat.reduceLT, Int.reduceLT, Int.reduceLE, Int.reduceEq, CO.tmps, Opd.tmps, optT, Nat.reducePow, Nat.reduceDiv, Nat.reduceMod, f1, f2, f3, f4, f5, f6, f7, f8, f9, q1, T_LongReg, T_known, T_pgCheck, T_pJoin, T_agree, ga, gb, gc, nla, nlb, nlc, ca, cb, cc, k1, k2, k3, b1, m1, hab, hac, g, ne_eq, not_false_eq_true, not_true_eq_false, decide_true, decide_false]
  exact Bt.dropB _ hh rfl
 have hbc := eq_true gbc
 have o1 : (joinO va vb da db).2.length ≤ 4096 := by omega
 have o2 : (joinO vb vc db dc).2.length ≤ 4096 := by omega
 have rx := jnL_rg ra rb o1
 have rz := jnL_rg rb rc o2
 have hba := eq_true gab.symm
 have hxc := eq_true (agree3 gac gbc fun x hx => jnL_sub hx : agreeP (jnL la lb va vb da db) lc)
 have haz := eq_true (agree3 gab.symm gac.symm fun x hx => jnL_sub hx : agreeP (jnL lb lc vb vc db dc) la).symm
 have gxa : agreeP (jnL la lb va vb da db) la := fun x hx y hy e => by
  rcases jnL_sub hx with q | q
  ·rw [ra.one q hy e]
  ·exact (gab y hy x q e.symm).symm
 have hxa := eq_true gxa
 have e1 := jnL_comm ra rb gab
 have e2 := join_comm ra.nf rb.nf
 have e3 := jnL_assoc ra rb rc gab gac gbc o1 o2
 have e4 := join_assoc ra.nf rb.nf rc.nf
 have e5 := jnL_abs ra rb gab o1
 have e6 := joinO_abs ra.nf rb.nf
 have cx := checkG_rg.2 rx
 have cz := checkG_rg.2 rz
 have cxx := checkG_rg.2 (jnL_rg rx ra (by rw [e6]; exact o1))
 generalize hU : jnL (jnL la lb va vb da db) lc (joinO va vb da db).1 vc (joinO va vb da db).2 dc = U at *
 generalize hX : jnL la lb va vb da db = X at *
 generalize hZ : jnL lb lc vb vc db dc = Z at *
 generalize hW : joinO (joinO va vb da db).1 vc (joinO va vb da db).2 dc = WW at *
 generalize hJ : joinO va vb da db = J at *
 generalize hK2 : joinO vb vc db dc = K at *
 have e3' := e3.symm
 have t1 : (la.length ≤ 10000) = True := eq_true (by omega)
 have t2 : (lb.length ≤ 10000) = True := eq_true (by omega)
 have t3 : (lc.length ≤ 10000) = True := eq_true (by omega)
 have t4 : (X.length ≤ 10000) = True := eq_true (by omega)
 have t5 : (Z.length ≤ 10000) = True := eq_true (by omega)
 have p1 : (X.length ≤ 1000000) = True := eq_true (by omega)
 have p2 : (Z.length ≤ 1000000) = True := eq_true (by omega)
 have p3 : (U.length ≤ 1000000) = True := eq_true (by omega)
 have p4 : (J.1.length ≤ 1000000) = True := eq_true (by omega)
 have p5 : (J.2.length ≤ 1000000) = True := eq_true (by omega)
 have p6 : (K.1.length ≤ 1000000) = True := eq_true (by omega)
 have p7 : (K.2.length ≤ 1000000) = True := eq_true (by omega)
 have p8 : (WW.1.length ≤ 1000000) = True := eq_true (by omega)
 have p9 : (WW.2.length ≤ 1000000) = True := eq_true (by omega)
 have m2 : (K.2.length ≤ 4096) = True := eq_true (by omega)
 have m3 : (WW.2.length ≤ 4096) = True := eq_true (by omega)
 simp only [rep_0, rep_s, walkW, walkQ, walkX, if_true, if_false, ↓reduceIte, Nat.reduceAdd, Nat.reduceSub, Nat.reduceLeDiff, Nat.reduceEqDiff, Nat.reduceMul, Nat.reduceLT, Int.reduceLT, Int.reduceLE, Int.reduceEq, CO.tmps, Opd.tmps, optT, Nat.reducePow, Nat.reduceDiv, Nat.reduceMod, f1, f2, f3, f4, f5, f6, f7, f8, f9, q1, T_LongReg, T_known, T_pgCheck, T_pJoin, T_agree, T_SameReg, ga, gb, gc, nla, nlb, nlc, ca, cb, cc, cx, cz, k1, k2, k3, m1, m2, m3, t1, t2, t3, t4, t5, p1, p2, p3, p4, p5, p6, p7, p8, p9, hab, hac, hbc, hba, hxc, haz, hxa, hX, hZ, hJ, hK2, hU, hW, e1, e2, e3', e4, e5, e6, rsl_isSl, rsl_capOk, maxLen_ok, beq_self_eq_true, ne_eq, not_false_eq_true, not_true_eq_false, decide_true, decide_false, and_self, eq_self]
 exact Bt.dropB _ hh rfl
end Go.Proofs.YtcncpbcbedfakaaGreat
end
section
namespace Go.Proofs.YtcncpbcbedfakaaGreat
set_option maxRecDepth 100000
set_option maxHeartbeats 4000000
set_option linter.unusedSimpArgs false
theorem wrE_ok {hs : List Hd} {v : List Int} {ds : Dots} {d : Int × Int} {v' : List Int} {ds' : Dots} (c1 : checkG hs v ds = 0) (c2 : dottedP d) (c3 : checkR v' ds' = 0) (c4 : ¬ rhasP v ds d) (c5 : ¬ rhasP v' ds' d) (c6 : (joinO v v' ds ds').2.length ≤ 4096) (c7 : (mkO (joinO v v' ds ds').1 (joinO v v' ds ds').2 d).2.length ≤ 4096) : wrE hs v ds d v' ds' = 0 := by
 unfold wrE
 rw [if_neg (not_not_intro c1), if_neg (not_not_intro c2), if_neg (not_not_intro c3), if_neg (fun q => q.elim c4 c5), if_neg (not_not_intro c6), if_neg (not_not_intro c7)]
theorem RegisterThrough_at0 (hK : Spec Tryz.prog 5 T_known) {h : List AB} (hz : h.map AB.freeze = h) {l1 s1 t1 l2 s2 t2 s3 t3 : AV} {x y : Int} {i : Dg} {la lb : List Hd} {va vb vc : List Int} {da db dc : Dots} (hl1 : Rd heldR h l1 la) (hs1 : Rd intR h s1 va) (ht1 : Rd dotR h t1 da) (hl2 : Rd heldR h l2 lb) (hs2 : Rd intR h s2 vb) (ht2 : Rd dotR h t2 db) (hs3 : Rd intR h s3 vc) (ht3 : Rd dotR h t3 dc) (k1 : t1.capOk = true) (k2 : t2.capOk = true) (k3 : t3.capOk = true) :
  FnAt Tryz.prog 7 [.ag [l1, s1, t1], .ag [l2, s2, t2], .ag [.i .i64 x, .i .i64 y], .ag (idR.f i), .ag [s3, t3]] h (.b true) h := by
 refine FnAt.run (by kernel_rfl) (T := ⟨[⟨5, T_known, fun _ => []⟩, ⟨9, T_LongReg, fun _ => []⟩, ⟨16, T_Long, fun _ => []⟩, ⟨27, T_pgCheck, fun _ => []⟩, ⟨12, T_pJoin, fun _ => []⟩, ⟨38, T_rLeq, fun _ => []⟩, ⟨20, T_pClear, fun _ => []⟩, ⟨18, T_pWrite, fun _ => []⟩, ⟨39, T_rHas, fun _ => []⟩, ⟨14, T_SameReg, fun _ => []⟩], []⟩) ⟨⟨hK, LongReg_spec, Long_spec, pgCheck_spec, pJoin_spec, Leq_spec, pClear_spec, pWrite_spec, Has_spec, SameReg_spec, trivial⟩, trivial⟩ Tryz.func7 sw7 fun ho hh => ?_
 simp only [okL_cons, ok_ag, Bool.and_eq_true] at ho
 have f1 := hl1.fx ho.1.1 (sz := 34) rfl
 have f2 := hs1.fx ho.1.2.1 (sz := 1) rfl
 have f3 := ht1.fx ho.1.2.2.1 (sz := 2) rfl
 have f4 := hl2.fx ho.2.1.1 (sz := 34) rfl
 have f5 := hs2.fx ho.2.1.2.1 (sz := 1) rfl
 have f6 := ht2.fx ho.2.1.2.2.1 (sz := 2) rfl
 have f7 := hs3.fx ho.2.2.2.2.1.1 (sz := 1) rfl
 have f8 := ht3.fx ho.2.2.2.2.1.2.1 (sz := 2) rfl
 unfold w7
 by_cases La : 20 < la.length ∨ 20 < va.length ∨ 30 < da.length
 ·have g := eq_true La
  simp only [rep_0, rep_s, walkW, walkQ, walkX, if_true, if_false, ↓reduceIte, Nat.reduceAdd, Nat.reduceSub, Nat.reduceLeDiff, Nat.reduceEqDiff, Nat.reduceMul, Nat.reduceLT, Int.reduceLT, Int.reduceLE, Int.reduceEq, CO.tmps, Opd.tmps, optT, Nat.reducePow, Nat.reduceDiv, Nat.reduceMod, f1, f2, f3, f4, f5, f6, f7, f8, T_LongReg, T_Long, T_known, T_pgCheck, T_pJoin, T_rLeq, T_pClear, T_SameReg, T_rHas, T_pWrite, getI_f, id_all, id_len, id_take, over_at, g, id_ok, ne_eq, not_false_eq_true, not_true_eq_false, decide_true, decide_false]
  exact Bt.dropB _ hh rfl
 have ga := eq_false La
 by_cases Lb : 20 < lb.length ∨ 20 < vb.length ∨ 30 < db.length
 ·have g := eq_true Lb
  simp only [rep_0, rep_s, walkW, walkQ, walkX, if_true, if_false, ↓reduceIte, Nat.reduceAdd, Nat.reduceSub, Nat.reduceLeDiff, Nat.reduceEqDiff, Nat.reduceMul, Nat.reduceLT, Int.reduceLT, Int.reduceLE, Int.reduceEq, CO.tmps, Opd.tmps, optT, Nat.reducePow, Nat.reduceDiv, Nat.reduceMod, f1, f2, f3, f4, f5, f6, f7, f8, T_LongReg, T_Long, T_known, T_pgCheck, T_pJoin, T_rLeq, T_pClear, T_SameReg, T_rHas, T_pWrite, getI_f, id_all, id_len, id_take, over_at, ga, g, id_ok, ne_eq, not_false_eq_true, not_true_eq_false, decide_true, decide_false]
  exact Bt.dropB _ hh rfl
 have gb := eq_false Lb
 by_cases Lc : 20 < vc.length ∨ 30 < dc.length
 ·have g := eq_true Lc
  simp only [rep_0, rep_s, walkW, walkQ, walkX, if_true, if_false, ↓reduceIte, Nat.reduceAdd, Nat.reduceSub, Nat.reduceLeDiff, Nat.reduceEqDiff, Nat.reduceMul, Nat.reduceLT, Int.reduceLT, Int.reduceLE, Int.reduceEq, CO.tmps, Opd.tmps, optT, Nat.reducePow, Nat.reduceDiv, Nat.reduceMod, f1, f2, f3, f4, f5, f6, f7, f8, T_LongReg, T_Long, T_known, T_pgCheck, T_pJoin, T_rLeq, T_pClear, T_SameReg, T_rHas, T_pWrite, getI_f, id_all, id_len, id_take, over_at, ga, gb, g, id_ok, ne_eq, not_false_eq_true, not_true_eq_false, decide_true, decide_false]
  exact Bt.dropB _ hh rfl
 have gc := eq_false Lc
 have nla : (la.length ≤ 1000000) = True := eq_true (by omega)
 have nlb : (lb.length ≤ 1000000) = True := eq_true (by omega)
 by_cases ca : checkG la va da = 0
 case neg =>
  have g := eq_false ca
  simp only [rep_0, rep_s, walkW, walkQ, walkX, if_true, if_false, ↓reduceIte, Nat.reduceAdd, Nat.reduceSub, Nat.reduceLeDiff, Nat.reduceEqDiff, Nat.reduceMul, Nat.reduceLT, Int.reduceLT, Int.reduceLE, Int.reduceEq, CO.tmps, Opd.tmps, optT, Nat.reducePow, Nat.reduceDiv, Nat.reduceMod, f1, f2, f3, f4, f5, f6, f7, f8, T_LongReg, T_Long, T_known, T_pgCheck, T_pJoin, T_rLeq, T_pClear, T_SameReg, T_rHas, T_pWrite, getI_f, id_all, id_len, id_take, over_at, ga, gb, gc, nla, nlb, g, id_ok, ne_eq, not_false_eq_true, not_true_eq_false, decide_true, decide_false]
  exact Bt.dropB _ hh rfl
 by_cases cb : checkG lb vb db = 0
 case neg =>
  have g := eq_false cb
  simp only [rep_0, rep_s, walkW, walkQ, walkX, if_true, if_false, ↓reduceIte, Nat.reduceAdd, Nat.reduceSub, Nat.reduceLeDiff, Nat.reduceEqDiff, Nat.reduceMul, Nat.reduceLT, Int.reduceLT, Int.reduceLE, Int.reduceEq, CO.tmps, Opd.tmps, optT, Nat.reducePow, Nat.reduceDiv, Nat.reduceMod, f1, f2, f3, f4, f5, f6, f7, f8, T_LongReg, T_Long, T_known, T_pgCheck, T_pJoin, T_rLeq, T_pClear, T_SameReg, T_rHas, T_pWrite, getI_f, id_all, id_len, id_take, over_at, ga, gb, gc, nla, nlb, ca, g, id_ok, ne_eq, not_false_eq_true, not_true_eq_false, decide_true, decide_false]
  exact Bt.dropB _ hh rfl
 have ra := checkG_rg.1 ca
 have rb := checkG_rg.1 cb
 have cka := (checkG_0 ca).1
 have ckb := (checkG_0 cb).1
 have j1 := join_len ra.nf rb.nf
 have nj := join_nf ra.nf rb.nf
 have v1 := nj.rg.1
 have u1 := jnL_len la lb va vb da db
 have b1 : (la.length ≤ 10000) = True := eq_true (by omega)
 have b2 : (lb.length ≤ 10000) = True := eq_true (by omega)
 have m1 : ((joinO va vb da db).2.length ≤ 4096) = True := eq_true (by omega)
 by_cases gab : agreeP la lb
 case neg =>
  have g := eq_false gab
  by_cases cc : checkR vc dc = 0
  ·simp only [rep_0, rep_s, walkW, walkQ, walkX, if_true, if_false, ↓reduceIte, Nat.reduceAdd, Nat.reduceSub, Nat.reduceLeDiff, Nat.reduceEqDiff, Nat.reduceMul, Nat.reduceLT, Int.reduceLT, Int.reduceLE, Int.reduceEq, CO.tmps, Opd.tmps, optT, Nat.reducePow, Nat.reduceDiv, Nat.reduceMod, f1, f2, f3, f4, f5, f6, f7, f8, T_LongReg, T_Long, T_known, T_pgCheck, T_pJoin, T_rLeq, T_pClear, T_SameReg, T_rHas, T_pWrite, getI_f, id_all, id_len, id_take, over_at, ga, gb, gc, nla, nlb, ca, cb, cka, ckb, k1, k2, k3, b1, b2, m1, cc, g, id_ok, ne_eq, not_false_eq_true, not_true_eq_false, decide_true, decide_false]
   exact Bt.dropB _ hh rfl
  ·have g2 := eq_false cc
   simp only [rep_0, rep_s, walkW, walkQ, walkX, if_true, if_false, ↓reduceIte, Nat.reduceAdd, Nat.reduceSub, Nat.reduceLeDiff, Nat.reduceEqDiff, Nat.reduceMul, Nat.reduceLT, Int.reduceLT, Int.reduceLE, Int.reduceEq, CO.tmps, Opd.tmps, optT, Nat.reducePow, Nat.reduceDiv, Nat.reduceMod, f1, f2, f3, f4, f5, f6, f7, f8, T_LongReg, T_Long, T_known, T_pgCheck, T_pJoin, T_rLeq, T_pClear, T_SameReg, T_rHas, T_pWrite, getI_f, id_all, id_len, id_take, over_at, ga, gb, gc, nla, nlb, ca, cb, cka, ckb, k1, k2, k3, b1, b2, m1, g2, g, id_ok, ne_eq, not_false_eq_true, not_true_eq_false, decide_true, decide_false]
   exact Bt.dropB _ hh rfl
 have hab := eq_true gab
 by_cases cc : checkR vc dc = 0
 case neg =>
  have g := eq_false cc
  simp only [rep_0, rep_s, walkW, walkQ, walkX, if_true, if_false, ↓reduceIte, Nat.reduceAdd, Nat.reduceSub, Nat.reduceLeDiff, Nat.reduceEqDiff, Nat.reduceMul, Nat.reduceLT, Int.reduceLT, Int.reduceLE, Int.reduceEq, CO.tmps, Opd.tmps, optT, Nat.reducePow, Nat.reduceDiv, Nat.reduceMod, f1, f2, f3, f4, f5, f6, f7, f8, T_LongReg, T_Long, T_known, T_pgCheck, T_pJoin, T_rLeq, T_pClear, T_SameReg, T_rHas, T_pWrite, getI_f, id_all, id_len, id_take, over_at, ga, gb, gc, nla, nlb, ca, cb, cka, ckb, k1, k2, k3, b1, b2, m1, hab, g, id_ok, ne_eq, not_false_eq_true, not_true_eq_false, decide_true, decide_false]
  exact Bt.dropB _ hh rfl
 by_cases w : leqP vc dc va da
 case neg =>
  have g := eq_false w
  simp only [rep_0, rep_s, walkW, walkQ, walkX, if_true, if_false, ↓reduceIte, Nat.reduceAdd, Nat.reduceSub, Nat.reduceLeDiff, Nat.reduceEqDiff, Nat.reduceMul, Nat.reduceLT, Int.reduceLT, Int.reduceLE, Int.reduceEq, CO.tmps, Opd.tmps, optT, Nat.reducePow, Nat.reduceDiv, Nat.reduceMod, f1, f2, f3, f4, f5, f6, f7, f8, T_LongReg, T_Long, T_known, T_pgCheck, T_pJoin, T_rLeq, T_pClear, T_SameReg, T_rHas, T_pWrite, getI_f, id_all, id_len, id_take, over_at, ga, gb, gc, nla, nlb, ca, cb, cka, ckb, k1, k2, k3, b1, b2, m1, hab, cc, g, id_ok, ne_eq, not_false_eq_true, not_true_eq_false, decide_true, decide_false]
  exact Bt.dropB _ hh rfl
 have hwt := eq_true w
 have rc := nf_check cc
 have hc : dc.length ≤ 4096 := by omega
 have hw := (leq_in rc.rg ra.nf.rg).1 w
 have o1 : (joinO va vb da db).2.length ≤ 4096 := by omega
 have rx := jnL_rg ra rb o1
 have cx := checkG_rg.2 rx
 have eJ := join_sub nj rc fun d hd => (join_mem ra.nf rb.nf d).2 (.inl (hw d hd))
 have eA := join_sub ra.nf rc hw
 have rac : RG (outL vc dc la) va da := ⟨ra.nf, ra.len, ra.rise.filter _, fun x hx => ra.sn x (List.mem_filter.1 hx).1⟩
 have cac := checkG_rg.2 rac
 have gac : agreeP (outL vc dc la) lb := fun x hx y hy e => gab x (List.mem_filter.1 hx).1 y hy e
 have hac := eq_true gac
 have eC := (clear_join ra rb rc hc gab hw).symm
 have la1 := outL_le vc dc la
 have la2 := outL_le vc dc (jnL la lb va vb da db)
 have e0 : wrE la va da (x, y) vc dc = 0 → ∀ _ : ¬ rhasP vb db (x, y), wrE (jnL la lb va vb da db) (joinO va vb da db).1 (joinO va vb da db).2 (x, y) vc dc = 0 ∧ checkG (wrL la vc dc ((x, y), i)) (mkO va da (x, y)).1 (mkO va da (x, y)).2 = 0 ∧ agreeP (wrL la vc dc ((x, y), i)) lb ∧ jnL (wrL la vc dc ((x, y), i)) lb (mkO va da (x, y)).1 vb (mkO va da (x, y)).2 db = wrL (jnL la lb va vb da db) vc dc ((x, y), i) := fun hE hb => by
  obtain ⟨_, c2, _, c4, c5, _, _⟩ := wrE_0 hE
  have na : ¬ inC va da (x, y) := fun q => c4 ((rhas_in ra.nf.rg _).2 q)
  have nb : ¬ inC vb db (x, y) := fun q => hb ((rhas_in rb.nf.rg _).2 q)
  have lm := mkO_len ra.nf c2
  have lm2 := mkO_len nj c2
  obtain ⟨w1, w2⟩ := write_join ra rb rc hc gab hw (x := ((x, y), i)) c2 na nb (show (mkO va da (x, y)).2.length ≤ 4096 by omega) o1
  refine ⟨wrE_ok cx c2 cc (fun q => ((join_mem ra.nf rb.nf _).1 ((rhas_in nj.rg _).1 q)).elim na nb) c5 (by rw [eJ]; exact o1) (by rw [eJ]; show (mkO (joinO va vb da db).1 (joinO va vb da db).2 (x, y)).2.length ≤ 4096; omega), checkG_rg.2 ?_, w1, w2.symm⟩
  have := wr_rg ra rc hc (x := ((x, y), i)) c2 na (by rw [eA]; show (mkO va da (x, y)).2.length ≤ 4096; omega)
  rw [eA] at this
  exact this
 have e1 : wrE la va da (x, y) vc dc = 0 → mkO (joinO va vb da db).1 (joinO va vb da db).2 (x, y) = joinO (mkO va da (x, y)).1 vb (mkO va da (x, y)).2 db ∧ (mkO va da (x, y)).2.length ≤ 31 ∧ (mkO va da (x, y)).1.length ≤ 16 ∧ (joinO (mkO va da (x, y)).1 vb (mkO va da (x, y)).2 db).2.length ≤ 61 ∧ (joinO (mkO va da (x, y)).1 vb (mkO va da (x, y)).2 db).1.length ≤ 16 := fun hE => by
  obtain ⟨_, c2, _⟩ := wrE_0 hE
  have lm := mkO_len ra.nf c2
  have nm := mk_nf ra.nf c2
  have lj := join_len nm rb.nf
  exact ⟨write_seen ra rb c2, by omega, nm.rg.1, by omega, (join_nf nm rb.nf).rg.1⟩
 have wl1 := wrL_len la vc dc ((x, y), i)
 have wl2 := wrL_len (jnL la lb va vb da db) vc dc ((x, y), i)
 generalize hX : jnL la lb va vb da db = X at *
 generalize hJ : joinO va vb da db = J at *
 generalize hA : outL vc dc la = AC at *
 generalize hXC : outL vc dc X = XC at *
 have t1 : (X.length ≤ 10000) = True := eq_true (by omega)
 have t2 : (AC.length ≤ 10000) = True := eq_true (by omega)
 have t3 : (X.length ≤ 100000) = True := eq_true (by omega)
 have t4 : (la.length ≤ 100000) = True := eq_true (by omega)
 have p1 : (X.length ≤ 1000000) = True := eq_true (by omega)
 have p2 : (AC.length ≤ 1000000) = True := eq_true (by omega)
 have p3 : (XC.length ≤ 1000000) = True := eq_true (by omega)
 have p4 : (J.1.length ≤ 1000000) = True := eq_true (by omega)
 have p5 : (J.2.length ≤ 1000000) = True := eq_true (by omega)
 have p6 : (va.length ≤ 1000000) = True := eq_true (by omega)
 have p7 : (da.length ≤ 1000000) = True := eq_true (by omega)
 have m2 : (da.length ≤ 4096) = True := eq_true (by omega)
 by_cases hE : wrE la va da (x, y) vc dc = 0
 case neg =>
  have g := eq_false hE
  simp only [rep_0, rep_s, walkW, walkQ, walkX, if_true, if_false, ↓reduceIte, Nat.reduceAdd, Nat.reduceSub, Nat.reduceLeDiff, Nat.reduceEqDiff, Nat.reduceMul, Nat.reduceLT, Int.reduceLT, Int.reduceLE, Int.reduceEq, CO.tmps, Opd.tmps, optT, Nat.reducePow, Nat.reduceDiv, Nat.reduceMod, f1, f2, f3, f4, f5, f6, f7, f8, T_LongReg, T_Long, T_known, T_pgCheck, T_pJoin, T_rLeq, T_pClear, T_SameReg, T_rHas, T_pWrite, getI_f, id_all, id_len, id_take, over_at, ga, gb, gc, nla, nlb, ca, cb, cka, ckb, k1, k2, k3, b1, b2, m1, hab, cc, hwt, cx, cac, hac, hX, hJ, hA, hXC, eJ, eA, eC, t1, t2, t3, t4, p1, p2, p3, p4, p5, p6, p7, m2, rsl_isSl, rsl_capOk, maxLen_ok, beq_self_eq_true, g, id_ok, ne_eq, not_false_eq_true, not_true_eq_false, decide_true, decide_false, and_self, eq_self]
  exact Bt.dropB _ hh rfl
 by_cases hb : rhasP vb db (x, y)
 ·have g := eq_true hb
  simp only [rep_0, rep_s, walkW, walkQ, walkX, if_true, if_false, ↓reduceIte, Nat.reduceAdd, Nat.reduceSub, Nat.reduceLeDiff, Nat.reduceEqDiff, Nat.reduceMul, Nat.reduceLT, Int.reduceLT, Int.reduceLE, Int.reduceEq, CO.tmps, Opd.tmps, optT, Nat.reducePow, Nat.reduceDiv, Nat.reduceMod, f1, f2, f3, f4, f5, f6, f7, f8, T_LongReg, T_Long, T_known, T_pgCheck, T_pJoin, T_rLeq, T_pClear, T_SameReg, T_rHas, T_pWrite, getI_f, id_all, id_len, id_take, over_at, ga, gb, gc, nla, nlb, ca, cb, cka, ckb, k1, k2, k3, b1, b2, m1, hab, cc, hwt, cx, cac, hac, hX, hJ, hA, hXC, eJ, eA, eC, t1, t2, t3, t4, p1, p2, p3, p4, p5, p6, p7, m2, rsl_isSl, rsl_capOk, maxLen_ok, beq_self_eq_true, hE, g, id_ok, ne_eq, not_false_eq_true, not_true_eq_false, decide_true, decide_false, and_self, eq_self]
  exact Bt.dropB _ hh rfl
 ·have g := eq_false hb
  obtain ⟨e2, e3, e4, e5⟩ := e0 hE hb
  obtain ⟨e6, e7, e8, e9, e10⟩ := e1 hE
  have e4' := eq_true e4
  clear e0 e1
  generalize hM : mkO va da (x, y) = M at *
  generalize hW : wrL la vc dc ((x, y), i) = W1 at *
  generalize hW2 : wrL X vc dc ((x, y), i) = W2 at *
  generalize hK2 : joinO M.1 vb M.2 db = K at *
  have m3 : (K.2.length ≤ 4096) = True := eq_true (by omega)
  have t5 : (W1.length ≤ 10000) = True := eq_true (by omega)
  have p8 : (W1.length ≤ 1000000) = True := eq_true (by omega)
  have p9 : (W2.length ≤ 1000000) = True := eq_true (by omega)
  have p10 : (M.1.length ≤ 1000000) = True := eq_true (by omega)
  have p11 : (M.2.length ≤ 1000000) = True := eq_true (by omega)
  have p12 : (K.1.length ≤ 1000000) = True := eq_true (by omega)
  have p13 : (K.2.length ≤ 1000000) = True := eq_true (by omega)
  simp only [rep_0, rep_s, walkW, walkQ, walkX, if_true, if_false, ↓reduceIte, Nat.reduceAdd, Nat.reduceSub, Nat.reduceLeDiff, Nat.reduceEqDiff, Nat.reduceMul, Nat.reduceLT, Int.reduceLT, Int.reduceLE, Int.reduceEq, CO.tmps, Opd.tmps, optT, Nat.reducePow, Nat.reduceDiv, Nat.reduceMod, f1, f2, f3, f4, f5, f6, f7, f8, T_LongReg, T_Long, T_known, T_pgCheck, T_pJoin, T_rLeq, T_pClear, T_SameReg, T_rHas, T_pWrite, getI_f, id_all, id_len, id_take, over_at, ga, gb, gc, nla, nlb, ca, cb, cka, ckb, k1, k2, k3, b1, b2, m1, hab, cc, hwt, cx, cac, hac, hX, hJ, hA, hXC, eJ, eA, eC, t1, t2, t3, t4, p1, p2, p3, p4, p5, p6, p7, m2, rsl_isSl, rsl_capOk, maxLen_ok, beq_self_eq_true, hE, g, e2, e3, e4', e5, e6, hM, hW, hW2, hK2, m3, t5, p8, p9, p10, p11, p12, p13, id_ok, ne_eq, not_false_eq_true, not_true_eq_false, decide_true, decide_false, and_self, eq_self]
  exact Bt.dropB _ hh rfl
end Go.Proofs.YtcncpbcbedfakaaGreat
end
section
namespace Go.Proofs.YtcncpbcbedfakaaGreat
open Go.Extern
theorem ba_get (l : List UInt8) (i : Nat) : (⟨l.toArray⟩ : ByteArray)[i]! = l.getD i 0 := by
 by_cases h : i < l.length
 ·have h' : i < (⟨l.toArray⟩ : ByteArray).size := by simpa [ByteArray.size] using h
  rw [getElem!_pos _ i h', List.getD_eq_getElem?_getD, List.getElem?_eq_getElem h]
  rfl
 ·have h' : ¬ i < (⟨l.toArray⟩ : ByteArray).size := by simpa [ByteArray.size] using h
  rw [getElem!_neg _ i h', List.getD_eq_getElem?_getD, List.getElem?_eq_none (by omega)]
  rfl
theorem ba_size (l : List UInt8) : (⟨l.toArray⟩ : ByteArray).size = l.length := by simp [ByteArray.size]
theorem bcmp_eq : ∀ (l m : List UInt8), BytealgCompare.cmp ⟨l.toArray⟩ ⟨m.toArray⟩ = cmpB l m := by
 have key : ∀ (l m : List UInt8), BytealgCompare.cmp ⟨l.toArray⟩ ⟨m.toArray⟩ = match (List.range (min l.length m.length)).find? fun i => l.getD i 0 != m.getD i 0 with
   | some i => if l.getD i 0 < m.getD i 0 then -1 else 1
   | none => if l.length < m.length then -1 else if l.length > m.length then 1 else 0 := fun l m => by
  unfold BytealgCompare.cmp
  simp only [ba_get, ba_size]
  rfl
 intro l
 induction l with
 | nil =>
  intro m
  rw [key]
  cases m with
  | nil => rfl
  | cons b m => simp [cmpB]
 | cons a l ih =>
  intro m
  cases m with
  | nil => rw [key]; simp [cmpB]
  | cons b m =>
   have h2 := ih m
   rw [key] at h2 ⊢
   have e : min (a :: l).length (b :: m).length = min l.length m.length + 1 := by simp only [List.length_cons]; omega
   rw [e, List.range_succ_eq_map, List.find?_cons]
   unfold cmpB
   by_cases hab : a = b
   ·subst hab
    have : ((a :: l).getD 0 0 != (a :: m).getD 0 0) = false := by simp
    rw [this, List.find?_map]
    rw [if_neg (UInt8.lt_irrefl a), if_neg (UInt8.lt_irrefl a), ← h2]
    have e2 : ((fun i => (a :: l).getD i 0 != (a :: m).getD i 0) ∘ Nat.succ) = fun i => l.getD i 0 != m.getD i 0 := by funext i; simp
    rw [e2]
    cases (List.range (min l.length m.length)).find? fun i => l.getD i 0 != m.getD i 0 with
    | none => simp
    | some i => simp
   ·have : ((a :: l).getD 0 0 != (b :: m).getD 0 0) = true := by simpa using hab
    rw [this]
    dsimp only
    by_cases h1 : a < b
    ·rw [if_pos h1]; simp [h1]
    ·rw [if_neg h1, if_pos (UInt8.lt_of_le_of_ne (UInt8.not_lt.1 h1) (Ne.symm hab))]
     simp [h1]
theorem bytesOf_u8 : ∀ l : List UInt8, bytesOf (l.map u8A) = some l
 | [] => rfl
 | a :: l => by
  show (bytesOf (l.map u8A)).map (UInt8.ofNat ((a.toNat : Int)).toNat :: ·) = _
  rw [bytesOf_u8 l, Int.toNat_natCast, UInt8.ofNat_toNat]
  rfl
end Go.Proofs.YtcncpbcbedfakaaGreat
end
section
namespace Go.Proofs.YtcncpbcbedfakaaGreat
open Go.Shelf
def sortRen66 : Go.Shelf.Ren := ⟨fun | 6 => 66 | 15 => 88 | 14 => 106 | 28 => 127 | 29 => 128 | 20 => 137 | 21 => 138 | 22 => 139 | 23 => 140 | 24 => 141 | 25 => 142 | 26 => 143 | 27 => 144 | 46 => 163 | 47 => 149 | 48 => 150 | 49 => 164 | 50 => 165 | 57 => 173 | n => n, fun | 22 => 45 | 24 => 40 | 25 => 96 | 3 => 3 | 39 => 119 | 0 => 0 | 53 => 151 | 55 => 153 | 4 => 4 | 46 => 145 | 45 => 144 | 50 => 135 | 5 => 5 | 9 => 9 | 66 => 164 | 70 => 168 | 76 => 183 | 77 => 184 | n => n, fun | n => n⟩
theorem sortLays66 : Go.Proofs.SlLaysF0.n6 Tryz.prog sortRen66 := {
 mixed := by kernel_rfl
 f6 := ⟨Tryz.f66.name, by decide, Tryz.func66.trans (congrArg some (by kernel_rfl))⟩
 f14 := ⟨Tryz.f106.name, by decide, Tryz.func106.trans (congrArg some (by kernel_rfl))⟩
 f15 := Tryz.func88.trans (congrArg some (by kernel_rfl))
 f20 := ⟨Tryz.f137.name, by decide, Tryz.func137.trans (congrArg some (by kernel_rfl))⟩
 f21 := ⟨Tryz.f138.name, by decide, Tryz.func138.trans (congrArg some (by kernel_rfl))⟩
 f22 := ⟨Tryz.f139.name, by decide, Tryz.func139.trans (congrArg some (by kernel_rfl))⟩
 f23 := ⟨Tryz.f140.name, by decide, Tryz.func140.trans (congrArg some (by kernel_rfl))⟩
 f24 := ⟨Tryz.f141.name, by decide, Tryz.func141.trans (congrArg some (by kernel_rfl))⟩
 f25 := ⟨Tryz.f142.name, by decide, Tryz.func142.trans (congrArg some (by kernel_rfl))⟩
 f26 := ⟨Tryz.f143.name, by decide, Tryz.func143.trans (congrArg some (by kernel_rfl))⟩
 f27 := ⟨Tryz.f144.name, by decide, Tryz.func144.trans (congrArg some (by kernel_rfl))⟩
 f28 := Tryz.func127.trans (congrArg some (by kernel_rfl))
 f29 := Tryz.func128.trans (congrArg some (by kernel_rfl))
 f46 := ⟨Tryz.f163.name, by decide, Tryz.func163.trans (congrArg some (by kernel_rfl))⟩
 f47 := Tryz.func149.trans (congrArg some (by kernel_rfl))
 f48 := Tryz.func150.trans (congrArg some (by kernel_rfl))
 f49 := ⟨Tryz.f164.name, by decide, Tryz.func164.trans (congrArg some (by kernel_rfl))⟩
 f50 := ⟨Tryz.f165.name, by decide, Tryz.func165.trans (congrArg some (by kernel_rfl))⟩
 f57 := ⟨Tryz.f173.name, by decide, Tryz.func173.trans (congrArg some (by kernel_rfl))⟩
 t0 := Tryz.underlying0
 a0 := Tryz.isAgg0
 z0 := Tryz.sizeOf0
 v0 := Tryz.zeroValue0
 t3 := Tryz.underlying3
 a3 := Tryz.isAgg3
 z3 := Tryz.sizeOf3
 v3 := Tryz.zeroValue3
 t4 := Tryz.underlying4
 a4 := Tryz.isAgg4
 z4 := Tryz.sizeOf4
 v4 := Tryz.zeroValue4
 t5 := Tryz.underlying5
 a5 := Tryz.isAgg5
 z5 := Tryz.sizeOf5
 v5 := Tryz.zeroValue5
 t9 := Tryz.underlying9
 a9 := Tryz.isAgg9
 z9 := Tryz.sizeOf9
 v9 := Tryz.zeroValue9
 t22 := Tryz.underlying45
 a22 := Tryz.isAgg45
 z22 := Tryz.sizeOf45
 v22 := Tryz.zeroValue45
 t25 := Tryz.underlying96
 a25 := Tryz.isAgg96
 z25 := Tryz.sizeOf96
 v25 := Tryz.zeroValue96
 t39 := Tryz.underlying119
 a39 := Tryz.isAgg119
 z39 := Tryz.sizeOf119
 v39 := Tryz.zeroValue119
 t45 := Tryz.underlying144
 a45 := Tryz.isAgg144
 z45 := Tryz.sizeOf144
 v45 := Tryz.zeroValue144
 t46 := Tryz.underlying145
 a46 := Tryz.isAgg145
 z46 := Tryz.sizeOf145
 v46 := Tryz.zeroValue145
 t50 := Tryz.underlying135
 a50 := Tryz.isAgg135
 z50 := Tryz.sizeOf135
 v50 := Tryz.zeroValue135
 t53 := Tryz.underlying151
 a53 := Tryz.isAgg151
 z53 := Tryz.sizeOf151
 v53 := Tryz.zeroValue151
 t55 := Tryz.underlying153
 a55 := Tryz.isAgg153
 z55 := Tryz.sizeOf153
 v55 := Tryz.zeroValue153
 t66 := Tryz.underlying164
 a66 := Tryz.isAgg164
 z66 := Tryz.sizeOf164
 v66 := Tryz.zeroValue164
 t70 := Tryz.underlying168
 a70 := Tryz.isAgg168
 z70 := Tryz.sizeOf168
 v70 := Tryz.zeroValue168
 t76 := Tryz.underlying183
 a76 := Tryz.isAgg183
 z76 := Tryz.sizeOf183
 v76 := Tryz.zeroValue183
 t77 := Tryz.underlying184
 a77 := Tryz.isAgg184
 z77 := Tryz.sizeOf184
 v77 := Tryz.zeroValue184 }
end Go.Proofs.YtcncpbcbedfakaaGreat
end
section
namespace Go.Proofs.YtcncpbcbedfakaaGreat
open Go.Sort
set_option maxRecDepth 100000
set_option maxHeartbeats 4000000
set_option linter.unusedSimpArgs false
theorem bytesOf_id (x : Dg) : bytesOf (idR.f x) = some x.l := bytesOf_u8 x.l
noncomputable def T_bCmp : List AV → List AB → Option (AV × List AB)
 | [a, b], h => (srcV h 1 a).bind fun (_, xs) => (srcV h 1 b).bind fun (_, ys) => (bytesOf xs).bind fun l => (bytesOf ys).bind fun m => some (.i .i64 (cmpB l m), h)
 | _, _ => none
theorem opR_bcmp {T : Env} {fr : List AV} {h : List AB} (x y : Opd) : opR T (.bcmp x y) fr h = T_bCmp [x.ev fr, y.ev fr] h := by
 show ((srcV h 1 (x.ev fr)).bind fun (_, xs) => (srcV h 1 (y.ev fr)).bind fun (_, ys) => (bytesOf xs).bind fun l => (bytesOf ys).map fun m => (AV.i .i64 (Go.Extern.BytealgCompare.cmp ⟨l.toArray⟩ ⟨m.toArray⟩), h)) = _
 simp only [T_bCmp, bcmp_eq]
 congr 1; funext p; congr 1; funext q; congr 1; funext l
 cases bytesOf q.2 <;> rfl
theorem bCmp_spec : Spec Tryz.prog 107 T_bCmp := by
 intro args h v h' e
 have e0 := e
 unfold T_bCmp at e
 split at e
 ·rename_i a b
  obtain ⟨⟨_, xs⟩, h1, e⟩ := Option.bind_eq_some_iff.1 e
  obtain ⟨⟨_, ys⟩, h2, e⟩ := Option.bind_eq_some_iff.1 e
  obtain ⟨l, h3, e⟩ := Option.bind_eq_some_iff.1 e
  obtain ⟨m, h4, e⟩ := Option.bind_eq_some_iff.1 e
  cases e
  refine FnAt.c (FnAt.run (by kernel_rfl) (T := ⟨[], []⟩) ⟨trivial, trivial⟩ Tryz.func107 sw107 fun ho hh => ?_)
  have e1 : T_bCmp [a, b] (h ++ []) = some (.i .i64 (cmpB l m), h) := by rw [List.append_nil]; exact e0
  unfold w107
  simp only [rep_0, rep_s, walkW, walkX, if_true, if_false, reduceIte, Nat.reduceAdd, Nat.reduceSub, Nat.reduceLeDiff, Nat.reduceEqDiff, Nat.reduceMul, Nat.reduceLT, Int.reduceLT, Int.reduceLE, Int.reduceEq, opR_bcmp, e1]
  exact Bt.eq rfl rfl
 ·cases e
theorem opR_sla {T : Env} {fr : List AV} {h : List AB} (n sz : Nat) (x : Opd) (lo hi mx : Option Opd) : opR T (.sla n sz x lo hi mx) fr h = (slA n sz (x.ev fr) (lo.map (Opd.ev fr)) (hi.map (Opd.ev fr)) (mx.map (Opd.ev fr))).map (·, h) := _root_.id rfl
theorem slA_all (id off : Nat) : slA 32 1 (.p id off) none none none = some (.sl id off 32 32 none) := by simp [slA, bnd]
noncomputable def T_sha : List AV → List AB → Option (AV × List AB)
 | [a, b], h => (getI a).bind fun x => (getI b).bind fun y => some (.i .i64 (cmpG x y), h)
 | _, _ => none
theorem sha_spec : Spec Tryz.prog 67 T_sha := by
 intro args h v h' e
 unfold T_sha at e
 split at e
 ·rename_i a b
  obtain ⟨x, hx, e2⟩ := getI_bind e
  obtain ⟨y, hy, e3⟩ := getI_bind e2
  clear e e2
  subst hx hy
  cases e3
  refine FnAt.c (FnAt.frz0 fun hz => ?_)
  generalize h.map AB.freeze = h at *
  refine FnAt.run (by kernel_rfl) (T := ⟨[⟨107, T_bCmp, fun _ => []⟩], []⟩) ⟨⟨bCmp_spec, trivial⟩, trivial⟩ Tryz.func67 sw67 fun ho hh => ?_
  unfold w67
  simp only [rep_0, rep_s, walkW, walkQ, walkX, if_true, if_false, ↓reduceIte, Nat.reduceAdd, Nat.reduceSub, Nat.reduceLeDiff, Nat.reduceEqDiff, Nat.reduceMul, Nat.reduceLT, Int.reduceLT, Int.reduceLE, Int.reduceEq, CO.tmps, Opd.tmps, optT, Nat.reducePow, Nat.reduceDiv, Nat.reduceMod, opR_sla, slA_all, Option.map_none, T_bCmp, bytesOf_id, id_all, id_len, id_take, over_at, HOk_own hh, mask_ownC hz, mask_ownQ hz, mask_ownQ0 hz]
  exact Bt.dropI _ hh rfl
 ·cases e
instance : Inhabited Dg := ⟨zeroD⟩
theorem sortI_swo : SWO (ltOf cmpG) := ⟨fun x => by
  unfold ltOf
  rw [decide_eq_false_iff_not]
  exact lessG_ord.irr x, fun x y z h1 h2 => by
  unfold ltOf at *
  rw [decide_eq_true_eq] at *
  exact lessG_ord.tr h1 h2, fun x y z h1 h2 => by
  unfold ltOf at *
  rw [decide_eq_false_iff_not] at *
  intro h3
  rcases lessG_tri x y with q | q | q
  ·exact h1 q
  ·subst q; exact h2 h3
  ·exact h2 (lessG_ord.tr q h3)⟩
theorem sha_cmps : Cmps Tryz.prog 67 idR cmpG := fun x y h => sha_spec _ _ _ _ (by simp only [T_sha, getI_f, Option.bind_some])
theorem id_one1 (x : Dg) : ∀ v ∈ idR.enc x, v.oneCell' = true := fun v hv => by
 obtain ⟨a, ha, rfl⟩ := List.mem_map.1 (show v ∈ (idR.f x).map AV.val from hv)
 obtain ⟨b, _, rfl⟩ := List.mem_map.1 (show a ∈ x.l.map u8A from ha)
 rfl
open Classical in
noncomputable def T_SortI : List AV → List AB → Option (AV × List AB)
 | [s, .f (.func 67) [] []], h => (getS idR h s).bind fun l => match idOf s with
   | [id] => if l.length ≤ 1000000 ∧ s = rsl idR id l ∧ h[id]? = some (resB idR true l) then some (.tu [], h.set id (resB idR true (sortP cmpG l))) else none
   | _ => none
 | _, _ => none
theorem SortI_spec : Spec Tryz.prog 66 T_SortI := by
 intro args h v h' e
 unfold T_SortI at e
 split at e
 ·rename_i s
  obtain ⟨l, hs, e⟩ := getS_bind e
  split at e
  ·rename_i id hid
   split at e
   ·rename_i hc
    cases e
    obtain ⟨h1, rfl, h3⟩ := hc
    exact sort_fnP (r := idR) sortLays66 Tryz.isAgg40 Tryz.sizeOf40 sortI_swo sha_cmps id_fl id_one1 l h3 h1
   ·cases e
  ·cases e
 ·cases e
theorem cpI_short {l : List Dg} (h : l.length < 2) : cpI l = l := by
 unfold cpI
 match l, h with
 | [], _ => rfl
 | [a], _ => rfl
open Classical in
noncomputable def T_cmpI2 : List AV → List AB → Option (AV × List AB)
 | [s], h => (getS idR h s).bind fun l => match idOf s with
   | [id] => if s = rsl idR id l ∧ h[id]? = some (resB idR true l) ∧ l.length ≤ 1000000 then some (rsl idR id (cpI l), h.set id (resB idR true (cpI l))) else none
   | _ => none
 | _, _ => none
theorem cmpI2_spec : Spec Tryz.prog 68 T_cmpI2 := by
 intro args h v h' e
 unfold T_cmpI2 at e
 split at e
 ·rename_i s
  obtain ⟨l, hs, e⟩ := getS_bind e
  split at e
  ·rename_i id hid
   split at e
   ·rename_i hc
    cases e
    obtain ⟨h1, h2, h3⟩ := hc
    by_cases h0 : l.length < 2
    ·rw [cpI_short h0, set_asis h2, ← h1]
     refine FnAt.c (FnAt.run (by kernel_rfl) (T := ⟨[], []⟩) ⟨trivial, trivial⟩ Tryz.func68 sw68 fun ho hh => ?_)
     simp only [okL_cons, Bool.and_eq_true] at ho
     have f1 := hs.fx ho.1 (sz := 32) rfl
     have g0 : ((l.length : Int) < 2) = True := eq_true (by omega)
     unfold w68
     simp only [rep_0, rep_s, walkW, walkX, if_true, if_false, reduceIte, Nat.reduceAdd, Nat.reduceSub, Nat.reduceLeDiff, Nat.reduceEqDiff, Nat.reduceMul, Nat.reduceLT, Int.reduceLT, Int.reduceLE, Int.reduceEq, f1, g0]
     exact ⟨Bt.eq rfl (List.append_nil h), fun q => q.elim⟩
    ·refine cmpI_spec _ _ _ _ ?_
     simp only [T_cmpI, hs.get, Option.bind_some, hid]
     rw [if_pos ⟨h1, h2, by omega, h3⟩]
   ·cases e
  ·cases e
 ·cases e
noncomputable def dgsL (hs : List Hd) : List Dg := cpI (sortP cmpG (hs.map (·.2)))
noncomputable def T_IDs : List AV → List AB → Option (AV × List AB)
 | [.ag [l, s, t]], h => (getS heldR h l).bind fun hs => (getS intR h s).bind fun v => (getS dotR h t).bind fun ds => if hs.length ≤ 100000 then
   if checkG hs v ds = 0 then some (rsl idR h.length (dgsL hs), h ++ [resB idR true (dgsL hs)]) else some (.ns, h)
   else none
 | _, _ => none
theorem IDs_spec : Spec Tryz.prog 22 T_IDs := by
 intro args h v h' e
 unfold T_IDs at e
 split at e
 ·rename_i l s t
  obtain ⟨hs, hl, e⟩ := getS_bind e
  obtain ⟨xs, hv, e⟩ := getS_bind e
  obtain ⟨ds, hd, e⟩ := getS_bind e
  split at e
  ·rename_i hL
   refine FnAt.c (FnAt.run (by kernel_rfl) (T := ⟨[⟨27, T_pgCheck, fun _ => []⟩, ⟨66, T_SortI, fun _ => []⟩, ⟨68, T_cmpI2, fun _ => []⟩], []⟩) ⟨⟨pgCheck_spec, SortI_spec, cmpI2_spec, trivial⟩, trivial⟩ Tryz.func22 sw22 fun ho hh => ?_)
   simp only [okL_cons, ok_ag, Bool.and_eq_true] at ho
   have f1 := hl.fx ho.1.1 (sz := 34) rfl
   have f2 := hv.fx ho.1.2.1 (sz := 1) rfl
   have f3 := hd.fx ho.1.2.2.1 (sz := 2) rfl
   have hL' : (hs.length ≤ 1000000) = True := eq_true (by omega)
   unfold w22
   by_cases c : checkG hs xs ds = 0
   case neg =>
    rw [if_neg c] at e
    cases e
    have c' := eq_false c
    simp only [rep_0, rep_s, walkW, walkQ, walkX, if_true, if_false, ↓reduceIte, Nat.reduceAdd, Nat.reduceSub, Nat.reduceLeDiff, Nat.reduceEqDiff, Nat.reduceMul, Nat.reduceLT, Int.reduceLT, Int.reduceLE, Int.reduceEq, CO.tmps, Opd.tmps, optT, Nat.reducePow, Nat.reduceDiv, Nat.reduceMod, f1, f2, f3, T_pgCheck, c', hL', ne_eq, not_false_eq_true, not_true_eq_false, decide_true, decide_false]
    exact Bt.drop _ hh rfl (by simp only [okL_cons, okL_nil, ok_ns, Bool.and_true])
   rw [if_pos c] at e
   cases e
   simp only [rep_0, rep_s, walkW, walkQ, walkX, if_true, if_false, ↓reduceIte, Nat.reduceAdd, Nat.reduceSub, Nat.reduceLeDiff, Nat.reduceEqDiff, Nat.reduceMul, Nat.reduceLT, Int.reduceLT, Int.reduceLE, Int.reduceEq, CO.tmps, Opd.tmps, optT, Nat.reducePow, Nat.reduceDiv, Nat.reduceMod, f1, f2, f3, T_pgCheck, c, hL', ne_eq, not_false_eq_true, not_true_eq_false, decide_true, decide_false]
   have up : ∀ (t : AV), t.ok (fun i => decide (i < h.length)) = true → ∀ c, t.ok (fun i => decide (i < h.length + c)) = true := fun t ht c => AV.ok_mono (fun i q => by simp only [decide_eq_true_eq] at q ⊢; omega) t ht
   have rn : ∀ (t : AV), t.ok (fun i => decide (i < h.length)) = true → ∀ sel, Wk (t.ren (selN h.length sel)) t := fun t ht sel => Wk.ren (fun i hi => selN_old hi) ht
   have fo := fun c => And.intro (up l ho.1.1 c) (And.intro (up s ho.1.2.1 c) (up t ho.1.2.2.1 c))
   have fr := fun sel => And.intro (rn l ho.1.1 sel) (And.intro (rn s ho.1.2.1 sel) (rn t ho.1.2.2.1 sel))
   have hS : ∃ Sm : Nat → AV, (∀ i, i < hs.length → Sm i = apS idR (h.length + 1) ((hs.take i).map (·.2))) ∧ Sm hs.length = rsl idR (h.length + 1) (hs.map (·.2)) := ⟨fun i => if i < hs.length then apS idR (h.length + 1) ((hs.take i).map (·.2)) else rsl idR (h.length + 1) (hs.map (·.2)), fun i hi => if_pos hi, if_neg (Nat.lt_irrefl _)⟩
   obtain ⟨Sm, s1, s2⟩ := hS
   refine W_loopS (S := Nat) (fun i => hs.length - i) (fun i => tp 3 ++ [Sm i] ++ tp 6 ++ [l, .i .i64 hs.length, .i .i64 i] ++ tp 13) (fun i => h ++ [.blk false true [l, s, t], resB idR true ((hs.take i).map (·.2))]) (fun i => i ≤ hs.length) 0 (Nat.zero_le _) ?_ fun i hi => ?_
   ·show Bt _ _ _ _ _ (h ++ ([.blk false true [l, s, t]] ++ List.replicate 1 .dead))
    rw [← List.append_assoc]
    refine Bt.trans (Bt.wk ?_) (Bt.pad _ _ 1)
    have z : Wk (Sm 0) .ns := by
     by_cases q : 0 < hs.length
     ·rw [s1 0 q]; exact Wk.refl _
     ·have : hs = [] := List.eq_nil_of_length_eq_zero (by omega)
      subst this
      rw [show (0 : Nat) = ([] : List Hd).length from rfl, s2]
      exact Wk.nil _ _
    simp only [walkW, walkX, if_true, if_false, reduceIte, Nat.reduceAdd, Nat.reduceSub, Nat.reduceLeDiff, Nat.reduceEqDiff, Nat.reduceMul, Nat.reduceLT, Int.reduceLT, Int.reduceLE, Int.reduceEq, z]
   ·by_cases gi : i < hs.length
    ·have gi' := eq_true gi
     have e1 : IntKind.i64.wrap ((i : Int) + 1) = ((i + 1 : Nat) : Int) := wrap_in (by unfold In64; omega)
     have hst : (hs.take (i + 1)).map (·.2) = (hs.take i).map (·.2) ++ [(hs.getD i heldR.d).2] := by
      rw [List.take_succ_eq_append_getElem gi, List.map_append, List.getD_eq_getElem?_getD, List.getElem?_eq_getElem gi]
      rfl
     have lo : ((hs.take i).map (·.2)).length = i := by rw [List.length_map, List.length_take]; omega
     have sN : Sm (i + 1) = rsl idR (h.length + 1) ((hs.take (i + 1)).map (·.2)) := by
      by_cases q : i + 1 < hs.length
      ·rw [s1 _ q, apS_rsl _ (by rw [List.length_map, List.length_take]; omega)]
      ·have : i + 1 = hs.length := by omega
       rw [this, s2, List.take_length]
     rw [hst] at sN
     rw [s1 i gi]
     generalize hx : hs.getD i heldR.d = x at *
     generalize ho : (hs.take i).map (·.2) = o at *
     have f5 : ∀ (a1 a2 : AB) (y : List AB), ldV (h ++ (a1 :: a2 :: .blk true true (heldR.f x) :: y)) (some 32) (.p (h.length + 2) 2) = some (.ag (idR.f x.2)) := fun a1 a2 y => by
      rw [lda_own]
      simp only [ownC_s, ownC_0, Option.bind_some, held_len]
      rw [if_pos (by decide), held_id]
     by_cases hB : o = []
     ·have z3 : (1 * 32 ≤ 140737488355328 ∧ 1 ≤ maxLen) = True := eq_true ⟨by decide, by unfold maxLen; omega⟩
      simp only [hB, apS_nil, walkW, walkQ, walkX, if_true, if_false, ↓reduceIte, Nat.reduceAdd, Nat.reduceSub, Nat.reduceLeDiff, Nat.reduceEqDiff, Nat.reduceMul, Nat.reduceLT, Int.reduceLT, Int.reduceLE, Int.reduceEq, CO.tmps, Opd.tmps, optT, Nat.reducePow, Nat.reduceDiv, Nat.reduceMod, f1, f2, f3, f5, gi', hx, held_all1, held_len, held_take, id_all, id_len, id_take, over_at, List.length_cons, List.length_nil, e1, z3]
      refine ⟨i + 1, gi, by dsimp only; omega, ?_⟩
      simp only [sN, hst, hB, List.nil_append, rsl_uno, resB_one1]
      exact Bt.sel [0, 4] hh (by decide) (by simp only [walkS, FrSel, BlkSel, AV.ren, renL, AV.ok, okL, Option.some.injEq, exists_eq_left', List.length_cons, List.length_nil, Nat.reduceAdd, Nat.reduceLT, reduceCtorEq, implies_true, exists_eq', fo, fr]) (by simp only [walkS, FrSel, BlkSel, AV.ren, renL, AV.ok, okL, Option.some.injEq, exists_eq_left', List.length_cons, List.length_nil, Nat.reduceAdd, Nat.reduceLT, reduceCtorEq, implies_true, exists_eq', fo, fr, idR_sz])
     ·have hlB : o.length ≠ 0 := fun q => hB (List.eq_nil_of_length_eq_zero q)
      have gr : ∀ id, apS idR id o = rsl idR id o := fun id => apS_rsl _ hlB
      have fa := fun L k ys hb => appW_rslP (h := h) (p := h.length) rfl (r := idR) (sz := 32) rfl L k o 32 1 ys hlB hb (by decide) (by omega) (by unfold maxLen; omega)
      simp only [gr, walkW, walkQ, walkX, if_true, if_false, ↓reduceIte, Nat.reduceAdd, Nat.reduceSub, Nat.reduceLeDiff, Nat.reduceEqDiff, Nat.reduceMul, Nat.reduceLT, Int.reduceLT, Int.reduceLE, Int.reduceEq, CO.tmps, Opd.tmps, optT, Nat.reducePow, Nat.reduceDiv, Nat.reduceMod, f1, f2, f3, f5, gi', hx, held_all1, held_len, held_take, id_all, id_len, id_take, over_at, List.length_cons, List.length_nil, e1, fa]
      refine ⟨i + 1, gi, by dsimp only; omega, ?_⟩
      simp only [sN, hst, rsl_snoc, resB_snoc]
      exact Bt.sel [0, 4] hh (by decide) (by simp only [walkS, FrSel, BlkSel, AV.ren, renL, AV.ok, okL, Option.some.injEq, exists_eq_left', List.length_cons, List.length_nil, Nat.reduceAdd, Nat.reduceLT, reduceCtorEq, implies_true, exists_eq', fo, fr]) (by simp only [walkS, FrSel, BlkSel, AV.ren, renL, AV.ok, okL, Option.some.injEq, exists_eq_left', List.length_cons, List.length_nil, Nat.reduceAdd, Nat.reduceLT, reduceCtorEq, implies_true, exists_eq', fo, fr, idR_sz])
    ·obtain rfl : i = hs.length := by omega
     have gi' := eq_false gi
     have hlm : ((hs.map (·.2)).length ≤ 1000000) = True := eq_true (by rw [List.length_map]; omega)
     have hls : ((sortP cmpG (hs.map (·.2))).length ≤ 1000000) = True := eq_true (by rw [sortP_len sortI_swo, List.length_map]; omega)
     have hsr : ∀ id, rsl idR id (hs.map (·.2)) = rsl idR id (sortP cmpG (hs.map (·.2))) := fun id => by unfold rsl; rw [sortP_len sortI_swo]
     rw [s2, List.take_length]
     simp only [walkW, walkQ, walkX, if_true, if_false, ↓reduceIte, Nat.reduceAdd, Nat.reduceSub, Nat.reduceLeDiff, Nat.reduceEqDiff, Nat.reduceMul, Nat.reduceLT, Int.reduceLT, Int.reduceLE, Int.reduceEq, CO.tmps, Opd.tmps, optT, Nat.reducePow, Nat.reduceDiv, Nat.reduceMod, f1, f2, f3, gi', T_SortI, T_cmpI2, hlm, maxLen_ok, idOf_rsl, own_at']
     have hD : cpI (sortP cmpG (hs.map (·.2))) = dgsL hs := rfl
     simp only [hsr, walkW, walkX, if_true, if_false, reduceIte, Nat.reduceAdd, Nat.reduceSub, Nat.reduceLeDiff, Nat.reduceEqDiff, Nat.reduceMul, Nat.reduceLT, Int.reduceLT, Int.reduceLE, Int.reduceEq, T_cmpI2, hls, hD, maxLen_ok, idOf_rsl, own_at']
     exact Bt.sel [1] hh (by decide) (by simp only [walkS, FrSel, BlkSel, AV.ren, renL, AV.ok, okL, Option.some.injEq, exists_eq_left', List.length_cons, List.length_nil, Nat.reduceAdd, Nat.reduceLT, reduceCtorEq, implies_true, exists_eq']) (by simp only [walkS, FrSel, BlkSel, AV.ren, renL, AV.ok, okL, Option.some.injEq, exists_eq_left', List.length_cons, List.length_nil, Nat.reduceAdd, Nat.reduceLT, reduceCtorEq, implies_true, exists_eq'])
  ·cases e
 ·cases e
noncomputable def T_Torn : List AV → List AB → Option (AV × List AB)
 | [.ag [l, s, t]], h => (getS heldR h l).bind fun hs => (getS intR h s).bind fun v => (getS dotR h t).bind fun ds => if hs.length ≤ 100000 then some (.b (decide (checkG hs v ds = 0 ∧ 1 < (dgsL hs).length)), h) else none
 | _, _ => none
theorem Torn_spec : Spec Tryz.prog 25 T_Torn := by
 intro args h v h' e
 unfold T_Torn at e
 split at e
 ·rename_i l s t
  obtain ⟨hs, hl, e⟩ := getS_bind e
  obtain ⟨xs, hv, e⟩ := getS_bind e
  obtain ⟨ds, hd, e⟩ := getS_bind e
  split at e
  ·rename_i hL
   cases e
   refine FnAt.c (FnAt.run (by kernel_rfl) (T := ⟨[⟨22, T_IDs, fun _ => []⟩], []⟩) ⟨⟨IDs_spec, trivial⟩, trivial⟩ Tryz.func25 sw25 fun ho hh => ?_)
   simp only [okL_cons, ok_ag, Bool.and_eq_true] at ho
   have f1 := hl.fx ho.1.1 (sz := 34) rfl
   have f2 := hv.fx ho.1.2.1 (sz := 1) rfl
   have f3 := hd.fx ho.1.2.2.1 (sz := 2) rfl
   have hL' := eq_true hL
   unfold w25
   by_cases c : checkG hs xs ds = 0
   ·simp only [rep_0, rep_s, walkW, walkX, if_true, if_false, reduceIte, Nat.reduceAdd, Nat.reduceSub, Nat.reduceLeDiff, Nat.reduceEqDiff, Nat.reduceMul, Nat.reduceLT, Int.reduceLT, Int.reduceLE, Int.reduceEq, f1, f2, f3, T_IDs, c, hL']
    exact Bt.dropB _ hh (decide_eq_decide.2 (by constructor <;> intro q <;> first | exact ⟨trivial, by omega⟩ | omega))
   ·have c' := eq_false c
    simp only [rep_0, rep_s, walkW, walkX, if_true, if_false, reduceIte, Nat.reduceAdd, Nat.reduceSub, Nat.reduceLeDiff, Nat.reduceEqDiff, Nat.reduceMul, Nat.reduceLT, Int.reduceLT, Int.reduceLE, Int.reduceEq, f1, f2, f3, T_IDs, c', hL']
    exact Bt.dropB _ hh (by simp)
  ·cases e
 ·cases e
end Go.Proofs.YtcncpbcbedfakaaGreat
end
