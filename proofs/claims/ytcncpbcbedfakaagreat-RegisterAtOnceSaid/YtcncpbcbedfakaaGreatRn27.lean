/- Part 27 of what the laws' proofs rest on. No condition. -/
import Derived.Test.YtcncpbcbedfakaaGreatRn26
set_option linter.all false
section
namespace Go.Proofs.YtcncpbcbedfakaaGreat
set_option maxRecDepth 100000
set_option maxHeartbeats 8000000
set_option linter.unusedSimpArgs false
theorem ofH (a b : Int) (i : Dg) : (AV.i .i64 a :: AV.i .i64 b :: idR.f i) = heldR.f ((a, b), i) := (heldR_f ((a, b), i)).symm
theorem litI1 {h : List AB} (L : List AB) (k : Nat) (x : Dg) (q : ownC L k = some (idR.f x)) : getS idR (h ++ L) (.sl (h.length + k) 0 1 1 none) = some [x] :=
 (Rd_ownT (r := idR) (n := 1) (l := [x]) (by rw [q]; simp [Row.cells]) (by unfold maxLen; simp) (by simp)).get
theorem RegisterAtOnce_at {h : List AB} (hz : h.map AB.freeze = h) {l1 s1 t1 : AV} {la : List Hd} {va : List Int} {da : Dots} (hl1 : Rd heldR h l1 la) (hs1 : Rd intR h s1 va) (ht1 : Rd dotR h t1 da) (k1 : t1.capOk = true) (p : Int) (hp : -9223372036854775808 ≤ p ∧ p ≤ 9223372036854775807) (q : Int) (hq : -9223372036854775808 ≤ q ∧ q ≤ 9223372036854775807) (s : Int) (hs : -9223372036854775808 ≤ s ∧ s ≤ 9223372036854775807) (x y z : Dg) :
  FnAt Tryz.prog 8 [.ag [l1, s1, t1], .i .i64 p, .i .i64 q, .i .i64 s, .ag (idR.f x), .ag (idR.f y), .ag (idR.f z)] h (.b true) h := by
 refine FnAt.run (by kernel_rfl) (T := ⟨[⟨5, T_known, fun _ => []⟩, ⟨9, T_LongReg, fun _ => []⟩, ⟨27, T_pgCheck, fun _ => []⟩, ⟨40, T_Pick, fun _ => []⟩, ⟨41, T_rNext, fun _ => []⟩, ⟨18, T_pWrite, fun _ => []⟩, ⟨12, T_pJoin, fun _ => []⟩, ⟨14, T_SameReg, fun _ => []⟩, ⟨42, T_SameHelds, fun _ => []⟩, ⟨25, T_Torn, fun _ => []⟩, ⟨22, T_IDs, fun _ => []⟩, ⟨23, T_SameIDs, fun _ => []⟩], []⟩) ⟨⟨RegisterKnown_spec, LongReg_spec, pgCheck_spec, Pick_spec, Next_spec, pWrite_spec, pJoin_spec, SameReg_spec, SameHelds_spec, Torn_spec, IDs_spec, SameIDs_spec, trivial⟩, trivial⟩ Tryz.func8 sw8 fun ho hh => ?_
 simp only [okL_cons, ok_ag, Bool.and_eq_true] at ho
 have f1 := hl1.fx ho.1.1 (sz := 34) rfl
 have f2 := hs1.fx ho.1.2.1 (sz := 1) rfl
 have f3 := ht1.fx ho.1.2.2.1 (sz := 2) rfl
 obtain ⟨P, hP⟩ : ∃ P, P = 1 + p % 5 := ⟨_, rfl⟩
 obtain ⟨Q, hQ⟩ : ∃ Q, Q = 6 + q % 5 := ⟨_, rfl⟩
 obtain ⟨S, hS⟩ : ∃ S, S = 11 + s % 6 := ⟨_, rfl⟩
 have rP : 1 ≤ P ∧ P ≤ 5 := by omega
 have rQ : 6 ≤ Q ∧ Q ≤ 10 := by omega
 have rS : 11 ≤ S ∧ S ≤ 16 := by omega
 have ewP : IntKind.i64.wrap (1 + p % 5) = P := by rw [← hP]; exact wrap_in (by unfold In64; omega)
 have ewQ : IntKind.i64.wrap (6 + q % 5) = Q := by rw [← hQ]; exact wrap_in (by unfold In64; omega)
 have ewS : IntKind.i64.wrap (11 + s % 6) = S := by rw [← hS]; exact wrap_in (by unfold In64; omega)
 have bp1 : (-9223372036854775808 ≤ p ∧ p ≤ 9223372036854775807) = True := eq_true hp
 have bp2 : (-9223372036854775808 ≤ q ∧ q ≤ 9223372036854775807) = True := eq_true hq
 have bp3 : (-9223372036854775808 ≤ s ∧ s ≤ 9223372036854775807) = True := eq_true hs
 have z5 : ((5 : Int) ≤ 0) = False := eq_false (by decide)
 have z6 : ((6 : Int) ≤ 0) = False := eq_false (by decide)
 unfold w8
 by_cases La : 20 < la.length ∨ 20 < va.length ∨ 30 < da.length
 case pos =>
  have g := eq_true La
  simp (maxSteps := 4000000) only [rep_0, rep_s, walkW, walkQ, walkX, if_true, if_false, ↓reduceIte, Nat.reduceAdd, Nat.reduceSub, Nat.reduceLeDiff, Nat.reduceEqDiff, Nat.reduceMul, Nat.reduceLT, Int.reduceLT, Int.reduceLE, Int.reduceEq, CO.tmps, Opd.tmps, optT, Nat.reducePow, Nat.reduceDiv, Nat.reduceMod, f1, f2, f3, T_LongReg, T_known, T_pgCheck, T_Pick, T_rNext, T_pWrite, T_pJoin, T_SameReg, T_SameHelds, T_Torn, T_IDs, T_SameIDs, getI_f, id_all, id_len, id_take, id_ok, over_at, bp1, bp2, bp3, ne_eq, not_false_eq_true, not_true_eq_false, decide_true, decide_false, g]
  exact Bt.dropB _ hh rfl
 have ga := eq_false La
 have nla : (la.length ≤ 1000000) = True := eq_true (by omega)
 by_cases ca : checkG la va da = 0
 case neg =>
  have g := eq_false ca
  simp (maxSteps := 4000000) only [rep_0, rep_s, walkW, walkQ, walkX, if_true, if_false, ↓reduceIte, Nat.reduceAdd, Nat.reduceSub, Nat.reduceLeDiff, Nat.reduceEqDiff, Nat.reduceMul, Nat.reduceLT, Int.reduceLT, Int.reduceLE, Int.reduceEq, CO.tmps, Opd.tmps, optT, Nat.reducePow, Nat.reduceDiv, Nat.reduceMod, f1, f2, f3, T_LongReg, T_known, T_pgCheck, T_Pick, T_rNext, T_pWrite, T_pJoin, T_SameReg, T_SameHelds, T_Torn, T_IDs, T_SameIDs, getI_f, id_all, id_len, id_take, id_ok, over_at, bp1, bp2, bp3, ne_eq, not_false_eq_true, not_true_eq_false, decide_true, decide_false, ga, nla, g]
  exact Bt.dropB _ hh rfl
 have ra := checkG_rg.1 ca
 have cka := (checkG_0 ca).1
 rcases next_or ra.nf cka (r := P) ⟨by omega, by omega⟩ with eP | ⟨kP, eP, dP, nP⟩
 case inl =>
  simp (maxSteps := 4000000) only [rep_0, rep_s, walkW, walkQ, walkX, if_true, if_false, ↓reduceIte, Nat.reduceAdd, Nat.reduceSub, Nat.reduceLeDiff, Nat.reduceEqDiff, Nat.reduceMul, Nat.reduceLT, Int.reduceLT, Int.reduceLE, Int.reduceEq, CO.tmps, Opd.tmps, optT, Nat.reducePow, Nat.reduceDiv, Nat.reduceMod, f1, f2, f3, T_LongReg, T_known, T_pgCheck, T_Pick, T_rNext, T_pWrite, T_pJoin, T_SameReg, T_SameHelds, T_Torn, T_IDs, T_SameIDs, getI_f, id_all, id_len, id_take, id_ok, over_at, bp1, bp2, bp3, ne_eq, not_false_eq_true, not_true_eq_false, decide_true, decide_false, ga, nla, ca, z5, z6, ewP, ewQ, ewS, eP]
  exact Bt.dropB _ hh rfl
 rcases next_or ra.nf cka (r := Q) ⟨by omega, by omega⟩ with eQ | ⟨kQ, eQ, dQ, nQ⟩
 case inl =>
  simp (maxSteps := 4000000) only [rep_0, rep_s, walkW, walkQ, walkX, if_true, if_false, ↓reduceIte, Nat.reduceAdd, Nat.reduceSub, Nat.reduceLeDiff, Nat.reduceEqDiff, Nat.reduceMul, Nat.reduceLT, Int.reduceLT, Int.reduceLE, Int.reduceEq, CO.tmps, Opd.tmps, optT, Nat.reducePow, Nat.reduceDiv, Nat.reduceMod, f1, f2, f3, T_LongReg, T_known, T_pgCheck, T_Pick, T_rNext, T_pWrite, T_pJoin, T_SameReg, T_SameHelds, T_Torn, T_IDs, T_SameIDs, getI_f, id_all, id_len, id_take, id_ok, over_at, bp1, bp2, bp3, ne_eq, not_false_eq_true, not_true_eq_false, decide_true, decide_false, ga, nla, ca, z5, z6, ewP, ewQ, ewS, eP, eQ]
  exact Bt.dropB _ hh rfl
 rcases next_or ra.nf cka (r := S) ⟨by omega, by omega⟩ with eS | ⟨kS, eS, dS, nS⟩
 case inl =>
  simp (maxSteps := 4000000) only [rep_0, rep_s, walkW, walkQ, walkX, if_true, if_false, ↓reduceIte, Nat.reduceAdd, Nat.reduceSub, Nat.reduceLeDiff, Nat.reduceEqDiff, Nat.reduceMul, Nat.reduceLT, Int.reduceLT, Int.reduceLE, Int.reduceEq, CO.tmps, Opd.tmps, optT, Nat.reducePow, Nat.reduceDiv, Nat.reduceMod, f1, f2, f3, T_LongReg, T_known, T_pgCheck, T_Pick, T_rNext, T_pWrite, T_pJoin, T_SameReg, T_SameHelds, T_Torn, T_IDs, T_SameIDs, getI_f, id_all, id_len, id_take, id_ok, over_at, bp1, bp2, bp3, ne_eq, not_false_eq_true, not_true_eq_false, decide_true, decide_false, ga, nla, ca, z5, z6, ewP, ewQ, ewS, eP, eQ, eS]
  exact Bt.dropB _ hh rfl
 obtain ⟨wx, lx, hj, gx⟩ := alone ra (by omega) (x := ((P, kP), x)) dP nP
 obtain ⟨wy, ly, _, gy⟩ := alone ra (by omega) (x := ((Q, kQ), y)) dQ nQ
 have mx := mkO_len ra.nf dP
 have my := mkO_len ra.nf dQ
 have nA := mk_mem ra.nf dP (S, kS)
 have nB := mk_mem ra.nf dQ (S, kS)
 have tw : ∀ A B, mkO va da (P, kP) = A → mkO va da (Q, kQ) = B → _ := fun A B hA hB => two ra.nf (x := ((P, kP), x)) (y := ((Q, kQ), y)) dP dQ nP nQ (.inl (show P < Q by omega)) hA hB (by rw [← hA]; exact gx) (by rw [← hB]; exact gy)
 have tw := tw _ _ rfl rfl
 simp only at wx lx gx wy ly gy
 generalize hA : mkO va da (P, kP) = A at *
 generalize hB : mkO va da (Q, kQ) = B at *
 obtain ⟨g1, g2, j1, j2, jc⟩ := tw
 have jl := join_len gx.nf gy.nf
 have jm := join_mem gx.nf gy.nf (S, kS)
 have gm : RG [((P, kP), x), ((Q, kQ), y)] (joinO A.1 B.1 A.2 B.2).1 (joinO A.1 B.1 A.2 B.2).2 := by rw [← j1]; exact jnL_rg gx gy (by omega)
 generalize hM : joinO A.1 B.1 A.2 B.2 = M at *
 have nM : ¬ inC M.1 M.2 (S, kS) := fun w => (jm.1 w).elim (fun w => (nA.1 w).elim nS fun w => by rw [Prod.mk.injEq] at w; omega) (fun w => (nB.1 w).elim nS fun w => by rw [Prod.mk.injEq] at w; omega)
 obtain ⟨wz, lz, hjz, gz⟩ := alone gm (by omega) (x := ((S, kS), z)) dS nM
 have mz := mkO_len gm.nf dS
 simp only at wz lz gz
 generalize hC : mkO M.1 M.2 (S, kS) = C at *
 have vA := gx.nf.rg.1
 have vB := gy.nf.rg.1
 have vM := gm.nf.rg.1
 have vC := gz.nf.rg.1
 have cA := checkG_rg.2 gx
 have cB := checkG_rg.2 gy
 have cM := checkG_rg.2 gm
 have cC := checkG_rg.2 gz
 have ia := fun (id : Nat) (l : List Hd) (m : Int) => rsl_iad (r := heldR) (sz := 34) rfl id l .i64 m
 have ld := fun (L : List AB) (k : Nat) (l : List Hd) (n : Nat) e hn => rsl_lda (r := heldR) (h := h) (sz := 34) rfl L k l n e hn
 have ok := fun (q : Nat → Bool) (id n j : Nat) (l : List Hd) hq => rsl_okEl (r := heldR) q id 34 n j l hq
 have u0 : (0 ≤ maxLen) = True := eq_true (by unfold maxLen; omega)
 have u1 : (1 ≤ maxLen) = True := eq_true (by unfold maxLen; omega)
 have u2 : (2 ≤ maxLen) = True := eq_true (by unfold maxLen; omega)
 have m1 : (A.1.length ≤ 1000000) = True := eq_true (by omega)
 have m2 : (A.2.length ≤ 1000000) = True := eq_true (by omega)
 have m3 : (B.1.length ≤ 1000000) = True := eq_true (by omega)
 have m4 : (B.2.length ≤ 1000000) = True := eq_true (by omega)
 have m5 : (M.1.length ≤ 1000000) = True := eq_true (by omega)
 have m6 : (M.2.length ≤ 1000000) = True := eq_true (by omega)
 have m7 : (C.1.length ≤ 1000000) = True := eq_true (by omega)
 have m8 : (C.2.length ≤ 1000000) = True := eq_true (by omega)
 have mj : (M.2.length ≤ 4096) = True := eq_true (by omega)
 have lh : (la.length ≤ 100000) = True := eq_true (by omega)
 have g1' := eq_true g1
 have g2' := eq_true g2
 have lt1 := fun (L : List AB) k q => lit1 (h := h) L k ((S, kS), z) q
 have lt2 := fun (L : List AB) k q => lit2 (h := h) L k ((P, kP), x) ((Q, kQ), y) q
 have lt3 := fun (L : List AB) k q => litI1 (h := h) L k z q
 have e0 := dgsL_two ((P, kP), x) ((Q, kQ), y)
 have e1 := dgsL_one ((S, kS), z)
 simp only at e0 e1
 by_cases hxy : x = y
 ·have hd := eq_false (fun w => e0.1 w hxy)
  have hxy' := eq_true hxy
  simp (maxSteps := 4000000) only [rep_0, rep_s, walkW, walkQ, walkX, if_true, if_false, ↓reduceIte, Nat.reduceAdd, Nat.reduceSub, Nat.reduceLeDiff, Nat.reduceEqDiff, Nat.reduceMul, Nat.reduceLT, Int.reduceLT, Int.reduceLE, Int.reduceEq, CO.tmps, Opd.tmps, optT, Nat.reducePow, Nat.reduceDiv, Nat.reduceMod, f1, f2, f3, T_LongReg, T_known, T_pgCheck, T_Pick, T_rNext, T_pWrite, T_pJoin, T_SameReg, T_SameHelds, T_Torn, T_IDs, T_SameIDs, getI_f, id_all, id_len, id_take, id_ok, over_at, bp1, bp2, bp3, ne_eq, not_false_eq_true, not_true_eq_false, decide_true, decide_false, ga, nla, ca, z5, z6, ewP, ewQ, ewS, eP, eQ, eS, ia, ld, ok, Int.toNat_zero, List.getD_cons_zero, wx, lx, hj, wy, ly, g1', g2', j1, j2, jc, hA, hB, hM, wz, lz, hjz, hC, cA, cB, cM, cC, u0, u1, u2, m1, m2, m3, m4, m5, m6, m7, m8, mj, lh, k1, maxLen_ok, lt1, lt2, lt3, e1, ofH, eqc_held, eqc_id, held_all1, held_len, held_take, held_ok, over_two, over_len, List.all_append, List.length_cons, List.length_nil, Nat.zero_add, rsl_capOk, rsl_get, beq_self_eq_true, and_self, eq_self, HOk_own hh, mask_ownC hz, mask_ownQ hz, mask_ownQ0 hz, hd, hxy']
  exact Bt.dropB _ hh rfl
 ·have hd := eq_true (e0.2 hxy)
  have hxy' := eq_false hxy
  simp (maxSteps := 4000000) only [rep_0, rep_s, walkW, walkQ, walkX, if_true, if_false, ↓reduceIte, Nat.reduceAdd, Nat.reduceSub, Nat.reduceLeDiff, Nat.reduceEqDiff, Nat.reduceMul, Nat.reduceLT, Int.reduceLT, Int.reduceLE, Int.reduceEq, CO.tmps, Opd.tmps, optT, Nat.reducePow, Nat.reduceDiv, Nat.reduceMod, f1, f2, f3, T_LongReg, T_known, T_pgCheck, T_Pick, T_rNext, T_pWrite, T_pJoin, T_SameReg, T_SameHelds, T_Torn, T_IDs, T_SameIDs, getI_f, id_all, id_len, id_take, id_ok, over_at, bp1, bp2, bp3, ne_eq, not_false_eq_true, not_true_eq_false, decide_true, decide_false, ga, nla, ca, z5, z6, ewP, ewQ, ewS, eP, eQ, eS, ia, ld, ok, Int.toNat_zero, List.getD_cons_zero, wx, lx, hj, wy, ly, g1', g2', j1, j2, jc, hA, hB, hM, wz, lz, hjz, hC, cA, cB, cM, cC, u0, u1, u2, m1, m2, m3, m4, m5, m6, m7, m8, mj, lh, k1, maxLen_ok, lt1, lt2, lt3, e1, ofH, eqc_held, eqc_id, held_all1, held_len, held_take, held_ok, over_two, over_len, List.all_append, List.length_cons, List.length_nil, Nat.zero_add, rsl_capOk, rsl_get, beq_self_eq_true, and_self, eq_self, HOk_own hh, mask_ownC hz, mask_ownQ hz, mask_ownQ0 hz, hd, hxy']
  exact Bt.dropB _ hh rfl
end Go.Proofs.YtcncpbcbedfakaaGreat
end
