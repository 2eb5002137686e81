/- Part 24 of what the laws' proofs rest on. No condition. -/
import Derived.Test.YtnnkfhlmkaobfaaCm23
set_option linter.all false
section
namespace Go.Proofs.Ytnnkfhlmkaobfaa
set_option maxRecDepth 100000
set_option maxHeartbeats 4000000
set_option linter.unusedSimpArgs false
def T_merged : List AV → List AB → Option (AV × List AB)
  | [a, b], h => if a.isSl = true ∧ b.isSl = true then some (.f (.func 61) [] [.p (h.length + 0) 0, .p (h.length + 1) 0], h ++ [.blk false true [a], .blk false true [b]]) else none
  | _, _ => none
theorem merged_spec : Spec Try.prog 37 T_merged := by
  intro args h v h' e
  unfold T_merged at e
  split at e
  · rename_i a b
    split at e
    · rename_i hs
      cases e
      refine FnAt.c (FnAt.run (by kernel_rfl) (T := ⟨[], []⟩) ⟨trivial, trivial⟩ Try.func37 sw37 fun ho hh => ?_)
      unfold w37
      simp only [rep_0, rep_s, walkW, ld_own, lda_own, st_own, sta_own, len_app, if_true, if_false, reduceIte, Nat.reduceAdd, Nat.reduceSub, Nat.reduceLeDiff, Nat.reduceEqDiff, Nat.reduceMul, Nat.reduceLT, Int.reduceLT, Int.reduceLE, Int.reduceEq, rsl_get, srcV_own, sl_one hs.1, sl_one hs.2, sl_cells hs.1, sl_cells hs.2]
      exact Bt.eq rfl rfl
    · cases e
  · cases e
/-- A method writes the box that it is called at. -/
def ws1 : List AV → List Nat
  | .p id _ :: _ => [id]
  | _ => []
theorem ws1_p (id o : Nat) (l : List AV) : ws1 (.p id o :: l) = [id] := _root_.id rfl
/-- Join's answer. -/
def joinO (v v' : List Int) (ds ds' : Dots) : List Int × Dots := fmO (joinL v v' 16) (ds ++ ds')
noncomputable def T_cJoin : List AV → List AB → Option (AV × List AB)
  | [.ag [s, t], .ag [s', t']], h => (getS intR h s).bind fun v => (getS dotR h t).bind fun ds => (getS intR h s').bind fun v' => (getS dotR h t').bind fun ds' =>
      if t.capOk = true ∧ t'.capOk = true then
        if checkR v ds ≠ 0 then some (.tu [.ag [.ns, .ns], .i .i64 (checkR v ds)], h)
        else if checkR v' ds' ≠ 0 then some (.tu [.ag [.ns, .ns], .i .i64 (checkR v' ds')], h)
        else if (joinO v v' ds ds').2.length ≤ 4096 then some (.tu [.ag [rsl intR h.length (joinO v v' ds ds').1, rsl dotR (h.length + 1) (joinO v v' ds ds').2], .i .i64 0], h ++ [resB intR true (joinO v v' ds ds').1, resB dotR true (joinO v v' ds ds').2])
        else some (.tu [.ag [.ns, .ns], .i .i64 10], h)
      else none
  | _, _ => none
theorem cJoin_spec : Spec Try.prog 11 T_cJoin := by
  intro args h v h' e
  unfold T_cJoin at e
  split at e
  · rename_i s t s' t'
    obtain ⟨vs, hs, e⟩ := getS_bind e
    obtain ⟨ds, ht, e⟩ := getS_bind e
    obtain ⟨vs', hs', e⟩ := getS_bind e
    obtain ⟨ds', ht', e⟩ := getS_bind e
    split at e
    · rename_i hcap
      by_cases hq : checkR vs ds = 0 ∧ checkR vs' ds' = 0
      · obtain ⟨c1, c2⟩ := hq
        obtain ⟨a1, a2, a3⟩ := check_fm c1
        obtain ⟨b1, b2, b3⟩ := check_fm c2
        obtain ⟨j1, j2⟩ := join_bld c1 c2
        rw [if_neg (not_not_intro c1), if_neg (not_not_intro c2)] at e
        have cb : (if checkR vs ds = 0 then checkR vs' ds' else checkR vs ds) = 0 := by rw [if_pos c1]; exact c2
        have main : ∀ h : List AB, h.map AB.freeze = h → Rd intR h s vs → Rd dotR h t ds → Rd intR h s' vs' → Rd dotR h t' ds' → ∀ x : AV × List AB, (if (joinO vs vs' ds ds').2.length ≤ 4096 then x = (.tu [.ag [rsl intR h.length (joinO vs vs' ds ds').1, rsl dotR (h.length + 1) (joinO vs vs' ds ds').2], .i .i64 0], h ++ [resB intR true (joinO vs vs' ds ds').1, resB dotR true (joinO vs vs' ds ds').2]) else x = (.tu [.ag [.ns, .ns], .i .i64 10], h)) → FnAt Try.prog 11 [.ag [s, t], .ag [s', t']] h x.1 x.2 := by
          intro h hz hs ht hs' ht' x hx
          refine FnAt.run (by kernel_rfl) (T := ⟨[⟨36, T_cboth checkR, fun _ => []⟩, ⟨37, T_merged, fun _ => []⟩, ⟨38, T_first, ws1⟩, ⟨39, T_dots, ws1⟩, ⟨40, T_trimmed, ws1⟩, ⟨41, T_done, ws1⟩], []⟩) ⟨⟨cboth_spec checkR cCheck_spec, merged_spec, first_spec, dots_spec, trimmed_spec, done_spec, trivial⟩, trivial⟩ Try.func11 sw11 fun ho hh => ?_
          simp only [okL_cons, ok_ag, Bool.and_eq_true] at ho
          have f1 := hs.fx ho.1.1 (sz := 1) rfl
          have f2 := ht.fx ho.1.2.1 (sz := 2) rfl
          have f3 := hs'.fx ho.2.1.1 (sz := 1) rfl
          have f4 := ht'.fx ho.2.1.2.1 (sz := 2) rfl
          unfold w11
          simp only [rep_0, rep_s, walkW, ld_own, lda_own, st_own, sta_own, len_app, if_true, if_false, reduceIte, Nat.reduceAdd, Nat.reduceSub, Nat.reduceLeDiff, Nat.reduceEqDiff, Nat.reduceMul, Nat.reduceLT, Int.reduceLT, Int.reduceLE, Int.reduceEq, rsl_get, srcV_own, f1, f2, f3, f4, T_cboth, T_merged, cb, ht.isSl, ht'.isSl, false_implies, decide_false]
          refine W_rf rfl (by simp only [walkW, ld_own, lda_own, st_own, sta_own, len_app, if_true, if_false, reduceIte, Nat.reduceAdd, Nat.reduceSub, Nat.reduceLeDiff, Nat.reduceEqDiff, Nat.reduceMul, Nat.reduceLT, Int.reduceLT, Int.reduceLE, Int.reduceEq, rsl_get, srcV_own]) rfl (by simp only [walkW, ld_own, lda_own, st_own, sta_own, len_app, if_true, if_false, reduceIte, Nat.reduceAdd, Nat.reduceSub, Nat.reduceLeDiff, Nat.reduceEqDiff, Nat.reduceMul, Nat.reduceLT, Int.reduceLT, Int.reduceLE, Int.reduceEq, rsl_get, srcV_own]; rfl) (merged_fold h hz hh hs hs' ⟨ht, hcap.1, ho.1.2.1⟩ ⟨ht', hcap.2, ho.2.1.2.1⟩ ho.1.1 ho.2.1.1 (by omega)) (by rw [own_at]; rfl) (by decide) ?_
          have hM := (mrgD_perm _ ds ds' rfl)
          have lM : (mrgD (ds.length + ds'.length) ds ds').length = ds.length + ds'.length := by rw [hM.length_eq, List.length_append]
          obtain ⟨n1, n2, n3⟩ := ranged_nil a1
          have lW : (vjoin (vjoin [] vs) vs').length ≤ 16 := by rw [vjoin_len]; have := b1.1; omega
          have nW : ∀ n ∈ vjoin (vjoin [] vs) vs', n ≤ 1048576 := fun n hn => by
            simp only [vjoin, jn, List.mem_map, List.mem_range] at hn
            obtain ⟨i, _, rfl⟩ := hn
            have q1 := vAt_le vs' (fun n hn => (b1.2.1 n hn).2) ((i + 1 : Nat) : Int)
            have q2 := vAt_le (vjoin [] vs) n1 ((i + 1 : Nat) : Int)
            simp only [vjoin, jn] at q2
            omega
          have l1 := a1.1
          have l2 := b1.1
          have g0 : (([] : List Int).length ≤ 1000000) = True := eq_true (Nat.zero_le _)
          have g1 : (vs.length ≤ 1000000) = True := eq_true (by omega)
          have g2 : (vs'.length ≤ 1000000) = True := eq_true (by omega)
          have g3 : ((vjoin [] vs).length ≤ 1000000) = True := eq_true (by omega)
          have g4 : ((vjoin [] vs).length ≤ maxLen) = True := eq_true (by unfold maxLen; omega)
          have g5 : ((vjoin (vjoin [] vs) vs').length ≤ maxLen) = True := eq_true (by unfold maxLen; omega)
          have g7 : ((mrgD (ds.length + ds'.length) ds ds').length ≤ maxLen) = True := eq_true (by rw [lM]; unfold maxLen; omega)
          have gc : ((vjoin (vjoin [] vs) vs').length ≤ 100000 ∧ (mrgD (ds.length + ds'.length) ds ds').length ≤ 100000 ∧ (∀ n ∈ vjoin (vjoin [] vs) vs', n ≤ 1048576) ∧ ∀ d ∈ mrgD (ds.length + ds'.length) ds ds', dottedP d) = True :=
            eq_true ⟨by omega, by rw [lM]; omega, nW, fun d hd => (List.mem_append.1 (hM.mem_iff.1 hd)).elim (a1.2.2 d) (b1.2.2 d)⟩
          have hA := absR_len (mrgD (ds.length + ds'.length) ds ds') (vjoin (vjoin [] vs) vs', [])
          have hfm : joinO vs vs' ds ds' = bldO (vjoin (vjoin [] vs) vs') (ds ++ ds') := j1.symm
          unfold bldO at hfm
          rw [← j2] at hfm
          generalize mrgD (ds.length + ds'.length) ds ds' = M at *
          generalize hW0 : vjoin (vjoin [] vs) vs' = W0 at *
          generalize hR : absR (W0, []) M = R at *
          have hfm1 : (joinO vs vs' ds ds').1 = R.1.take (topI R.1 R.1.length) := by rw [hfm]; exact trimV_top _ _ (Nat.le_refl _)
          have hfm2 : (joinO vs vs' ds ds').2 = R.2 := by rw [hfm]
          have htr := trimV_top R.1 R.1.length (Nat.le_refl _)
          have hti := topI_le R.1 R.1.length
          have hlen : (trimV R.1 R.1.length).length = topI R.1 R.1.length := by
            rw [htr, List.length_take]
            omega
          simp only [List.length_nil] at hA
          have gA : (R.1.length ≤ maxLen) = True := eq_true (by unfold maxLen; omega)
          have gB : (R.2.length ≤ maxLen) = True := eq_true (by rw [lM] at hA; unfold maxLen; omega)
          rw [hfm1, hfm2] at hx
          by_cases hq : R.1 = W0
          · have gq := eq_true hq
            by_cases h6 : R.2.length ≤ 4096
            · have g6 : ((4096 : Int) < (R.2.length : Int)) = False := eq_false (by omega)
              rw [if_pos h6] at hx
              subst hx
              simp only [walkW, walkD, ld_own, lda_own, st_own, sta_own, len_app, if_true, if_false, reduceIte, Nat.reduceAdd, Nat.reduceSub, Nat.reduceLeDiff, Nat.reduceEqDiff, Nat.reduceMul, Nat.reduceLT, Int.reduceLT, Int.reduceLE, Int.reduceEq, rsl_get, srcV_own, merge_own, drop_own, getD_own, CO.tmps, Opd.tmps, optT, Nat.reducePow, Nat.reduceDiv, Nat.reduceMod, f1, f2, f3, f4, T_first, T_dots, T_trimmed, T_done, g0, g1, g2, g3, g4, g5, g7, gc, hW0, hR, gq, gA, gB, g6, HOk_own hh, mask_own hz, boxOf_own, boxL_0, boxL_s, bx2_own, own_at', idOf_rsl, rsl_isSl, AV.isNs, rsl_capOk, nsSl, cutS_rsl, ws1_p, apS_getP, cutS_one, cutS_cells, cutS_known, cutS_okr]
              rw [hq] at hlen hti ⊢
              rw [hlen]
              refine leaf_cut (a := 10) (b := 11) hh hti ?_ (fun _ => ?_) (by decide) ?_ ?_ <;> rfl
            · have g6 : ((4096 : Int) < (R.2.length : Int)) = True := eq_true (by omega)
              rw [if_neg h6] at hx
              subst hx
              simp only [walkW, walkD, ld_own, lda_own, st_own, sta_own, len_app, if_true, if_false, reduceIte, Nat.reduceAdd, Nat.reduceSub, Nat.reduceLeDiff, Nat.reduceEqDiff, Nat.reduceMul, Nat.reduceLT, Int.reduceLT, Int.reduceLE, Int.reduceEq, rsl_get, srcV_own, merge_own, drop_own, getD_own, CO.tmps, Opd.tmps, optT, Nat.reducePow, Nat.reduceDiv, Nat.reduceMod, f1, f2, f3, f4, T_first, T_dots, T_trimmed, T_done, g0, g1, g2, g3, g4, g5, g7, gc, hW0, hR, gq, gA, gB, g6, HOk_own hh, mask_own hz, boxOf_own, boxL_0, boxL_s, bx2_own, own_at', idOf_rsl, rsl_isSl, AV.isNs, rsl_capOk, nsSl, cutS_rsl, ws1_p, apS_getP, cutS_one, cutS_cells, cutS_known, cutS_okr]
              exact Bt.drop _ hh rfl (by simp [AV.ok, okL])
          · have gq := eq_false hq
            by_cases h6 : R.2.length ≤ 4096
            · have g6 : ((4096 : Int) < (R.2.length : Int)) = False := eq_false (by omega)
              rw [if_pos h6] at hx
              subst hx
              simp only [walkW, walkD, ld_own, lda_own, st_own, sta_own, len_app, if_true, if_false, reduceIte, Nat.reduceAdd, Nat.reduceSub, Nat.reduceLeDiff, Nat.reduceEqDiff, Nat.reduceMul, Nat.reduceLT, Int.reduceLT, Int.reduceLE, Int.reduceEq, rsl_get, srcV_own, merge_own, drop_own, getD_own, CO.tmps, Opd.tmps, optT, Nat.reducePow, Nat.reduceDiv, Nat.reduceMod, f1, f2, f3, f4, T_first, T_dots, T_trimmed, T_done, g0, g1, g2, g3, g4, g5, g7, gc, hW0, hR, gq, gA, gB, g6, HOk_own hh, mask_own hz, boxOf_own, boxL_0, boxL_s, bx2_own, own_at', idOf_rsl, rsl_isSl, AV.isNs, rsl_capOk, nsSl, cutS_rsl, ws1_p, apS_getP, cutS_one, cutS_cells, cutS_known, cutS_okr]
              rw [hlen]
              refine leaf_cut (a := 11) (b := 12) hh hti ?_ (fun _ => ?_) (by decide) ?_ ?_ <;> rfl
            · have g6 : ((4096 : Int) < (R.2.length : Int)) = True := eq_true (by omega)
              rw [if_neg h6] at hx
              subst hx
              simp only [walkW, walkD, ld_own, lda_own, st_own, sta_own, len_app, if_true, if_false, reduceIte, Nat.reduceAdd, Nat.reduceSub, Nat.reduceLeDiff, Nat.reduceEqDiff, Nat.reduceMul, Nat.reduceLT, Int.reduceLT, Int.reduceLE, Int.reduceEq, rsl_get, srcV_own, merge_own, drop_own, getD_own, CO.tmps, Opd.tmps, optT, Nat.reducePow, Nat.reduceDiv, Nat.reduceMod, f1, f2, f3, f4, T_first, T_dots, T_trimmed, T_done, g0, g1, g2, g3, g4, g5, g7, gc, hW0, hR, gq, gA, gB, g6, HOk_own hh, mask_own hz, boxOf_own, boxL_0, boxL_s, bx2_own, own_at', idOf_rsl, rsl_isSl, AV.isNs, rsl_capOk, nsSl, cutS_rsl, ws1_p, apS_getP, cutS_one, cutS_cells, cutS_known, cutS_okr]
              exact Bt.drop _ hh rfl (by simp [AV.ok, okL])
        by_cases h6 : (joinO vs vs' ds ds').2.length ≤ 4096
        · rw [if_pos h6] at e
          cases e
          refine FnAt.c (FnAt.frz fun hz => ?_)
          rw [show h.length = (h.map AB.freeze).length from (List.length_map _).symm]
          exact main _ hz hs.frz ht.frz hs'.frz ht'.frz (_, _) (by rw [if_pos h6])
        · rw [if_neg h6] at e
          cases e
          refine FnAt.c (FnAt.frz0 fun hz => ?_)
          exact main _ hz hs.frz ht.frz hs'.frz ht'.frz (_, _) (by rw [if_neg h6])
      · have hn : (if checkR vs ds = 0 then checkR vs' ds' else checkR vs ds) ≠ 0 := by
          split
          · rename_i c1
            exact fun c2 => hq ⟨c1, c2⟩
          · assumption
        have he : v = .tu [.ag [.ns, .ns], .i .i64 (if checkR vs ds = 0 then checkR vs' ds' else checkR vs ds)] ∧ h' = h := by
          by_cases c1 : checkR vs ds = 0
          · have c2 : checkR vs' ds' ≠ 0 := fun c2 => hq ⟨c1, c2⟩
            rw [if_neg (not_not_intro c1), if_pos c2] at e
            cases e
            rw [if_pos c1]
            exact ⟨rfl, rfl⟩
          · rw [if_pos c1] at e
            cases e
            rw [if_neg c1]
            exact ⟨rfl, rfl⟩
        obtain ⟨rfl, rfl⟩ := he
        clear e
        refine FnAt.c (FnAt.run (by kernel_rfl) (T := ⟨[⟨36, T_cboth checkR, fun _ => []⟩], []⟩) ⟨⟨cboth_spec checkR cCheck_spec, trivial⟩, trivial⟩ Try.func11 sw11 fun ho hh => ?_)
        simp only [okL_cons, ok_ag, Bool.and_eq_true] at ho
        have f1 := hs.fx ho.1.1 (sz := 1) rfl
        have f2 := ht.fx ho.1.2.1 (sz := 2) rfl
        have f3 := hs'.fx ho.2.1.1 (sz := 1) rfl
        have f4 := ht'.fx ho.2.1.2.1 (sz := 2) rfl
        have cb := eq_false hn
        unfold w11
        simp only [rep_0, rep_s, walkW, ld_own, lda_own, st_own, sta_own, len_app, if_true, if_false, reduceIte, Nat.reduceAdd, Nat.reduceSub, Nat.reduceLeDiff, Nat.reduceEqDiff, Nat.reduceMul, Nat.reduceLT, Int.reduceLT, Int.reduceLE, Int.reduceEq, rsl_get, srcV_own, f1, f2, f3, f4, T_cboth, cb, false_implies]
        exact Bt.drop _ hh rfl (by simp [AV.ok, okL])
    · cases e
  · cases e
end Go.Proofs.Ytnnkfhlmkaobfaa
end
section
namespace Go.Proofs.Ytnnkfhlmkaobfaa
set_option maxRecDepth 100000
set_option maxHeartbeats 4000000
set_option linter.unusedSimpArgs false
noncomputable def T_absent : List AV → List AB → Option (AV × List AB)
  | [.ag [.i .i64 a, .i .i64 b], .p i 0], h => match rdBlk h i with
    | some [s, t] => (getS intR h s).bind fun v => (getS dotR h t).bind fun ds => if ds.length ≤ 1000000 then some (.b (decide (¬ chasP v ds (a, b))), h) else none
    | _ => none
  | _, _ => none
theorem absent_spec : Spec Try.prog 47 T_absent := by
  intro args h v h' e
  unfold T_absent at e
  split at e
  · rename_i a b i
    split at e
    · rename_i s t hb
      obtain ⟨vs, hs, e⟩ := getS_bind e
      obtain ⟨ds, ht, e⟩ := getS_bind e
      split at e
      · rename_i hl
        cases e
        refine FnAt.c (FnAt.run (by kernel_rfl) (T := ⟨[⟨45, T_chas, fun _ => []⟩], []⟩) ⟨⟨chas_spec, trivial⟩, trivial⟩ Try.func47 sw47 fun ho hh => ?_)
        have fb : ∀ x, ldV (h ++ x) (some 2) (.p i 0) = some (.ag [s, t]) := fun x => by
          have hi := rdBlk_lt hb
          have h2 : rdBlk (h ++ x) i = some [s, t] := by
            unfold rdBlk at hb ⊢
            rw [List.getElem?_append_left hi]
            exact hb
          simp only [ldV, h2, Option.bind_some]
          rfl
        unfold w47
        have k1 : ∀ x, getS intR (h ++ x) s = some vs := fun x => (hs.app x).get
        have k2 : ∀ x, getS dotR (h ++ x) t = some ds := fun x => (ht.app x).get
        simp only [rep_0, rep_s, walkW, ld_own, lda_own, st_own, sta_own, len_app, if_true, if_false, reduceIte, Nat.reduceAdd, Nat.reduceSub, Nat.reduceLeDiff, Nat.reduceEqDiff, Nat.reduceMul, Nat.reduceLT, Int.reduceLT, Int.reduceLE, Int.reduceEq, rsl_get, srcV_own, fb, k1, k2, hl, T_chas]
        exact Bt.dropB _ hh (by simp)
      · cases e
    · cases e
  · cases e
noncomputable def T_idxA : List AV → List AB → Option (AV × List AB)
  | [s, .f (.func 47) [] [.p i 0]], h => match rdBlk h i with
    | some [sb, tb] => (getS intR h sb).bind fun v => (getS dotR h tb).bind fun ds => (getS dotR h s).bind fun l => if ds.length ≤ 1000000 then some (.i .i64 (idx (fun d : Int × Int => ¬ chasP v ds d) l), h) else none
    | _ => none
  | _, _ => none
theorem idxA_spec : Spec Try.prog 67 T_idxA := by
  intro args h v h' e
  unfold T_idxA at e
  split at e
  · rename_i s i
    split at e
    · rename_i sb tb hb
      obtain ⟨vs, hs, e⟩ := getS_bind e
      obtain ⟨ds, ht, e⟩ := getS_bind e
      obtain ⟨l, hx, e⟩ := getS_bind e
      split at e
      · rename_i hl
        cases e
        refine FnAt.c (FnAt.run (by kernel_rfl) (T := ⟨[⟨47, T_absent, fun _ => []⟩], []⟩) ⟨⟨absent_spec, trivial⟩, trivial⟩ Try.func67 sw67 fun ho hh => ?_)
        simp only [okL_cons, Bool.and_eq_true] at ho
        have f1 := hx.fx ho.1 (sz := 2) rfl
        have k0 : ∀ x, rdBlk (h ++ x) i = some [sb, tb] := (rdBlk_fx hb).1
        have k1 : ∀ x, getS intR (h ++ x) sb = some vs := fun x => (hs.app x).get
        have k2 : ∀ x, getS dotR (h ++ x) tb = some ds := fun x => (ht.app x).get
        unfold w67
        simp only [rep_0, rep_s, walkW, ld_own, lda_own, st_own, sta_own, len_app, if_true, if_false, reduceIte, Nat.reduceAdd, Nat.reduceSub, Nat.reduceLeDiff, Nat.reduceEqDiff, Nat.reduceMul, Nat.reduceLT, Int.reduceLT, Int.reduceLE, Int.reduceEq, rsl_get, srcV_own, f1]
        refine W_loopF (S := Nat) (fun j => l.length - j) (fun j => [s, .f (.func 47) [] [.p i 0]] ++ tp 5 ++ [.i .i64 l.length, .i .i64 j] ++ tp 10) (fun j => j ≤ l.length ∧ idx (fun d : Int × Int => ¬ chasP vs ds d) l = idxFrom (fun d : Int × Int => ¬ chasP vs ds d) (l.drop j) j) 0 ⟨Nat.zero_le _, rfl⟩ (by simp only [walkW, ld_own, lda_own, st_own, sta_own, len_app, if_true, if_false, reduceIte, Nat.reduceAdd, Nat.reduceSub, Nat.reduceLeDiff, Nat.reduceEqDiff, Nat.reduceMul, Nat.reduceLT, Int.reduceLT, Int.reduceLE, Int.reduceEq, rsl_get, srcV_own]) fun j hj => ?_
        simp only [walkW, ld_own, lda_own, st_own, sta_own, len_app, if_true, if_false, reduceIte, Nat.reduceAdd, Nat.reduceSub, Nat.reduceLeDiff, Nat.reduceEqDiff, Nat.reduceMul, Nat.reduceLT, Int.reduceLT, Int.reduceLE, Int.reduceEq, rsl_get, srcV_own, f1]
        refine ⟨fun h2 => ?_, fun h2 => ?_⟩
        · have e1 : IntKind.i64.wrap ((j : Int) + 1) = ((j + 1 : Nat) : Int) := wrap_in (by have := hx.2; unfold maxLen at this; unfold In64; omega)
          have e2 := idx_drop (fun d : Int × Int => ¬ chasP vs ds d) dotR.d j h2
          simp only [walkW, ld_own, lda_own, st_own, sta_own, len_app, if_true, if_false, reduceIte, Nat.reduceAdd, Nat.reduceSub, Nat.reduceLeDiff, Nat.reduceEqDiff, Nat.reduceMul, Nat.reduceLT, Int.reduceLT, Int.reduceLE, Int.reduceEq, rsl_get, srcV_own, f1, h2, dotR_f, e1, T_absent, k0, k1, k2, hl, pr_eta]
          refine ⟨fun h3 => Bt.eq (by rw [hj.2, e2, if_pos h3]) (List.append_nil h), fun h3 => ⟨j + 1, ⟨h2, ?_⟩, by omega, Wk.refl _⟩⟩
          rw [hj.2, e2, if_neg h3]
        · exact Bt.eq (by rw [hj.2, List.drop_eq_nil_of_le (by omega)]; rfl) (List.append_nil h)
      · cases e
    · cases e
  · cases e
noncomputable def T_CFabs : List AV → List AB → Option (AV × List AB)
  | [s, .f (.func 47) [] [.p i 0]], h => match rdBlk h i with
    | some [sb, tb] => (getS intR h sb).bind fun v => (getS dotR h tb).bind fun ds => (getS dotR h s).bind fun l => if ds.length ≤ 1000000 then some (.b (decide (∃ d ∈ l, ¬ chasP v ds d)), h) else none
    | _ => none
  | _, _ => none
theorem CFabs_spec : Spec Try.prog 46 T_CFabs := by
  intro args h v h' e
  unfold T_CFabs at e
  split at e
  · rename_i s i
    split at e
    · rename_i sb tb hb
      obtain ⟨vs, hs, e⟩ := getS_bind e
      obtain ⟨ds, ht, e⟩ := getS_bind e
      obtain ⟨l, hx, e⟩ := getS_bind e
      split at e
      · rename_i hl
        cases e
        refine FnAt.c (FnAt.run (by kernel_rfl) (T := ⟨[⟨67, T_idxA, fun _ => []⟩], []⟩) ⟨⟨idxA_spec, trivial⟩, trivial⟩ Try.func46 sw46 fun ho hh => ?_)
        simp only [okL_cons, Bool.and_eq_true] at ho
        have f1 := hx.fx ho.1 (sz := 2) rfl
        have k0 : ∀ x, rdBlk (h ++ x) i = some [sb, tb] := (rdBlk_fx hb).1
        have k1 : ∀ x, getS intR (h ++ x) sb = some vs := fun x => (hs.app x).get
        have k2 : ∀ x, getS dotR (h ++ x) tb = some ds := fun x => (ht.app x).get
        unfold w46
        simp only [rep_0, rep_s, walkW, ld_own, lda_own, st_own, sta_own, len_app, if_true, if_false, reduceIte, Nat.reduceAdd, Nat.reduceSub, Nat.reduceLeDiff, Nat.reduceEqDiff, Nat.reduceMul, Nat.reduceLT, Int.reduceLT, Int.reduceLE, Int.reduceEq, rsl_get, srcV_own, f1, T_idxA, k0, k1, k2, hl]
        exact Bt.eq (by simp only [AV.b.injEq, decide_eq_decide]; exact idx_has (fun d : Int × Int => ¬ chasP vs ds d) l) (List.append_nil h)
      · cases e
    · cases e
  · cases e
end Go.Proofs.Ytnnkfhlmkaobfaa
end
section
namespace Go.Proofs.Ytnnkfhlmkaobfaa
set_option maxRecDepth 100000
set_option maxHeartbeats 4000000
set_option linter.unusedSimpArgs false
def leqRowC (v v' : List Int) (ds' : Dots) (r : Nat) : Prop := ∀ n, vAt v' ((r + 1 : Nat) : Int) < n → n ≤ v.getD r 0 → chasP v' ds' (((r + 1 : Nat) : Int), n)
def leqC (v : List Int) (ds : Dots) (v' : List Int) (ds' : Dots) : Prop := (∀ r, r < v.length → leqRowC v v' ds' r) ∧ ∀ d ∈ ds, chasP v' ds' d
noncomputable instance (v : List Int) (ds : Dots) (v' : List Int) (ds' : Dots) : Decidable (leqC v ds v' ds') := Classical.propDecidable _
noncomputable def T_cLeq (chk : List Int → Dots → Int) : List AV → List AB → Option (AV × List AB)
  | [.ag [s, t], .ag [s', t']], h => (getS intR h s).bind fun v => (getS dotR h t).bind fun ds => (getS intR h s').bind fun v' => (getS dotR h t').bind fun ds' =>
      some (.tu [.b (decide (chk v ds = 0 ∧ chk v' ds' = 0 ∧ leqC v ds v' ds')), .i .i64 (if chk v ds = 0 then chk v' ds' else chk v ds)], h)
  | _, _ => none
theorem cLeq_spec (chk : List Int → Dots → Int) (h0 : ∀ v ds, chk v ds = 0 → rangedP v ds ∧ ds.length ≤ 4096) (hC : Spec Try.prog 23 (T_chk chk)) : Spec Try.prog 13 (T_cLeq chk) := by
  intro args h v h' e
  unfold T_cLeq at e
  split at e
  · rename_i s t s' t'
    obtain ⟨vs, hs, e⟩ := getS_bind e
    obtain ⟨ds, ht, e⟩ := getS_bind e
    obtain ⟨vs', hs', e⟩ := getS_bind e
    obtain ⟨ds', ht', e⟩ := getS_bind e
    cases e
    refine FnAt.c (FnAt.run (by kernel_rfl) (T := ⟨[⟨36, T_cboth chk, fun _ => []⟩, ⟨44, T_At, fun _ => []⟩, ⟨45, T_chas, fun _ => []⟩, ⟨46, T_CFabs, fun _ => []⟩], []⟩) ⟨⟨cboth_spec chk hC, at_spec, chas_spec, CFabs_spec, trivial⟩, trivial⟩ Try.func13 sw13 fun ho hh => ?_)
    simp only [okL_cons, ok_ag, Bool.and_eq_true] at ho
    have f1 := hs.fx ho.1.1 (sz := 1) rfl
    have f2 := ht.fx ho.1.2.1 (sz := 2) rfl
    have f3 := hs'.fx ho.2.1.1 (sz := 1) rfl
    have f4 := ht'.fx ho.2.1.2.1 (sz := 2) rfl
    by_cases hq : chk vs ds = 0 ∧ chk vs' ds' = 0
    · obtain ⟨c1, c2⟩ := hq
      have cb : (if chk vs ds = 0 then chk vs' ds' else chk vs ds) = 0 := by rw [if_pos c1]; exact c2
      obtain ⟨a1, a2⟩ := h0 _ _ c1
      obtain ⟨b1, b2⟩ := h0 _ _ c2
      have hl : (ds'.length ≤ 1000000) = True := eq_true (by omega)
      have yes : leqC vs ds vs' ds' → decide (chk vs ds = 0 ∧ chk vs' ds' = 0 ∧ leqC vs ds vs' ds') = true := fun q => decide_eq_true ⟨c1, c2, q⟩
      have nay : ¬ leqC vs ds vs' ds' → decide (chk vs ds = 0 ∧ chk vs' ds' = 0 ∧ leqC vs ds vs' ds') = false := fun q => decide_eq_false fun z => q z.2.2
      unfold w13
      simp only [rep_0, rep_s, walkW, ld_own, lda_own, st_own, sta_own, len_app, if_true, if_false, reduceIte, Nat.reduceAdd, Nat.reduceSub, Nat.reduceLeDiff, Nat.reduceEqDiff, Nat.reduceMul, Nat.reduceLT, Int.reduceLT, Int.reduceLE, Int.reduceEq, rsl_get, srcV_own, f1, f2, f3, f4, T_cboth, T_At, T_chas, cb]
      refine ⟨fun q => q.elim, ?_⟩
      refine W_loopF (S := Nat) (fun k => vs.length - k) (fun k => tp 2 ++ [.p (h.length + 0) 0, .p (h.length + 1) 0] ++ tp 13 ++ [s, .i .i64 vs.length, .i .i64 k] ++ tp 28) (fun k => k ≤ vs.length ∧ ∀ r : Nat, r < k → leqRowC vs vs' ds' r) 0 ⟨Nat.zero_le _, fun r hr => absurd hr (Nat.not_lt_zero _)⟩ (by simp only [walkW, ld_own, lda_own, st_own, sta_own, len_app, if_true, if_false, reduceIte, Nat.reduceAdd, Nat.reduceSub, Nat.reduceLeDiff, Nat.reduceEqDiff, Nat.reduceMul, Nat.reduceLT, Int.reduceLT, Int.reduceLE, Int.reduceEq, rsl_get, srcV_own]) fun k hk => ?_
      have l16 := a1.1
      have e1 : IntKind.i64.wrap ((k : Int) + 1) = ((k + 1 : Nat) : Int) := wrap_in (by have := hk.1; unfold In64; omega)
      have bA := vAt_le vs' (fun n hn => (b1.2.1 n hn).2) ((k + 1 : Nat) : Int)
      have bB := vAt_ge0 vs' ((k + 1 : Nat) : Int)
      by_cases g1 : k < vs.length
      · have bC : vs.getD k 0 ≤ 1048576 := by
          rw [List.getD_eq_getElem?_getD, List.getElem?_eq_getElem g1]
          exact (a1.2.1 _ (List.getElem_mem g1)).2
        have e2 : IntKind.i64.wrap (vAt vs' ((k + 1 : Nat) : Int) + 1) = vAt vs' ((k + 1 : Nat) : Int) + 1 := wrap_in (by unfold In64; omega)
        have e9 : intR.d = (0 : Int) := rfl
        simp only [walkW, ld_own, lda_own, st_own, sta_own, len_app, if_true, if_false, reduceIte, Nat.reduceAdd, Nat.reduceSub, Nat.reduceLeDiff, Nat.reduceEqDiff, Nat.reduceMul, Nat.reduceLT, Int.reduceLT, Int.reduceLE, Int.reduceEq, rsl_get, srcV_own, f1, f2, f3, f4, T_At, g1, e1, e2, e9, intR_f]
        refine ⟨?_, fun q => q.elim⟩
        refine W_loopF (S := Int) (fun n => (1048577 - n).toNat) (fun n => tp 2 ++ [.p (h.length + 0) 0, .p (h.length + 1) 0] ++ tp 3 ++ [.i .i64 k, .i .i64 (vs.getD k 0), .i .i64 n] ++ tp 7 ++ [s, .i .i64 vs.length, .i .i64 k] ++ tp 28) (fun n => vAt vs' ((k + 1 : Nat) : Int) < n ∧ n ≤ 1048577 ∧ ∀ m, vAt vs' ((k + 1 : Nat) : Int) < m → m < n → chasP vs' ds' (((k + 1 : Nat) : Int), m)) (vAt vs' ((k + 1 : Nat) : Int) + 1) ⟨by omega, by omega, fun m h1 h2 => absurd h2 (by omega)⟩ (by simp only [walkW, ld_own, lda_own, st_own, sta_own, len_app, if_true, if_false, reduceIte, Nat.reduceAdd, Nat.reduceSub, Nat.reduceLeDiff, Nat.reduceEqDiff, Nat.reduceMul, Nat.reduceLT, Int.reduceLT, Int.reduceLE, Int.reduceEq, rsl_get, srcV_own]) fun n hn => ?_
        obtain ⟨n1, n2, n3⟩ := hn
        have e3 : IntKind.i64.wrap (n + 1) = n + 1 := wrap_in (by unfold In64; omega)
        simp only [walkW, ld_own, lda_own, st_own, sta_own, len_app, if_true, if_false, reduceIte, Nat.reduceAdd, Nat.reduceSub, Nat.reduceLeDiff, Nat.reduceEqDiff, Nat.reduceMul, Nat.reduceLT, Int.reduceLT, Int.reduceLE, Int.reduceEq, rsl_get, srcV_own, f1, f2, f3, f4, T_At, T_chas, hl, e1, e3]
        refine ⟨fun g2 => ⟨fun g3 => Bt.drop _ hh (by rw [nay fun q => g3 (q.1 k g1 n n1 g2)]) rfl, fun g3 => ⟨n + 1, ⟨by omega, by omega, fun m h1 h2 => ?_⟩, by omega, Wk.refl _⟩⟩, fun g2 => ⟨k + 1, ⟨g1, fun r hr => ?_⟩, by omega, Wk.refl _⟩⟩
        · by_cases hm : m = n
          · rw [hm]
            exact Decidable.not_not.1 g3
          · exact n3 m h1 (by omega)
        · by_cases hr2 : r = k
          · subst hr2
            exact fun m h1 h2 => n3 m h1 (by omega)
          · exact hk.2 r (by omega)
      · simp only [walkW, ld_own, lda_own, st_own, sta_own, len_app, if_true, if_false, reduceIte, Nat.reduceAdd, Nat.reduceSub, Nat.reduceLeDiff, Nat.reduceEqDiff, Nat.reduceMul, Nat.reduceLT, Int.reduceLT, Int.reduceLE, Int.reduceEq, rsl_get, srcV_own, f1, f2, f3, f4, T_At, g1, T_CFabs]
        refine ⟨fun z => z, by omega, Bt.drop _ hh ?_ rfl⟩
        have hrow : ∀ r, r < vs.length → leqRowC vs vs' ds' r := fun r hr => hk.2 r (by have := hk.1; omega)
        have : (decide ¬∃ d, d ∈ ds ∧ ¬chasP vs' ds' d) = decide (chk vs ds = 0 ∧ chk vs' ds' = 0 ∧ leqC vs ds vs' ds') := decide_eq_decide.2 ⟨fun z => ⟨c1, c2, hrow, fun d hd => Decidable.byContradiction fun q => z ⟨d, hd, q⟩⟩, fun z ⟨d, hd, q⟩ => q (z.2.2.2 d hd)⟩
        rw [this]
    · have cb : (if chk vs ds = 0 then chk vs' ds' else chk vs ds) ≠ 0 := by
        split
        · rename_i c1
          exact fun c2 => hq ⟨c1, c2⟩
        · assumption
      have no := decide_eq_false (p := chk vs ds = 0 ∧ chk vs' ds' = 0 ∧ leqC vs ds vs' ds') fun z => hq ⟨z.1, z.2.1⟩
      unfold w13
      simp only [rep_0, rep_s, walkW, ld_own, lda_own, st_own, sta_own, len_app, if_true, if_false, reduceIte, Nat.reduceAdd, Nat.reduceSub, Nat.reduceLeDiff, Nat.reduceEqDiff, Nat.reduceMul, Nat.reduceLT, Int.reduceLT, Int.reduceLE, Int.reduceEq, rsl_get, srcV_own, f1, f2, f3, f4, T_cboth]
      exact ⟨fun _ => Bt.drop _ hh (by rw [no]) rfl, fun z => absurd cb z⟩
  · cases e
end Go.Proofs.Ytnnkfhlmkaobfaa
end
section
namespace Go.Proofs.Ytnnkfhlmkaobfaa
set_option maxRecDepth 100000
set_option maxHeartbeats 4000000
set_option linter.unusedSimpArgs false
/-- What the one has of row r above the other's vector, the other has az well. -/
def leqRow (v v' : List Int) (ds' : Dots) (r : Int) : Prop := ∀ n, rAt v' r < n → n ≤ rAt v r → rhasP v' ds' (r, n)
def leqP (v : List Int) (ds : Dots) (v' : List Int) (ds' : Dots) : Prop := (∀ r : Nat, r < 16 → leqRow v v' ds' ((r + 1 : Nat) : Int)) ∧ ∀ d ∈ ds, rhasP v' ds' d
noncomputable instance (v : List Int) (ds : Dots) (v' : List Int) (ds' : Dots) : Decidable (leqP v ds v' ds') := Classical.propDecidable _
noncomputable def T_rLeq : List AV → List AB → Option (AV × List AB)
  | [.ag [s, t], .ag [s', t']], h => (getS intR h s).bind fun v => (getS dotR h t).bind fun ds => (getS intR h s').bind fun v' => (getS dotR h t').bind fun ds' =>
      some (.tu [.b (decide (checkR v ds = 0 ∧ checkR v' ds' = 0 ∧ leqP v ds v' ds')), .i .i64 (if checkR v ds = 0 then checkR v' ds' else checkR v ds)], h)
  | _, _ => none
theorem rLeq_spec : Spec Try.prog 14 T_rLeq := by
  intro args h v h' e
  unfold T_rLeq at e
  split at e
  · rename_i s t s' t'
    obtain ⟨vs, hs, e⟩ := getS_bind e
    obtain ⟨ds, ht, e⟩ := getS_bind e
    obtain ⟨vs', hs', e⟩ := getS_bind e
    obtain ⟨ds', ht', e⟩ := getS_bind e
    cases e
    refine FnAt.c (FnAt.frz0 fun hz => ?_)
    replace hs := hs.frz
    replace ht := ht.frz
    replace hs' := hs'.frz
    replace ht' := ht'.frz
    generalize h.map AB.freeze = h at *
    refine FnAt.run (by kernel_rfl) (T := ⟨[⟨42, T_both, fun _ => []⟩, ⟨43, T_rfirst, fun _ => []⟩, ⟨48, T_rhas, fun _ => []⟩], []⟩) ⟨⟨rboth_spec, rfirst_spec, rhas_spec, trivial⟩, trivial⟩ Try.func14 sw14 fun ho hh => ?_
    simp only [okL_cons, ok_ag, Bool.and_eq_true] at ho
    have f1 := hs.fx ho.1.1 (sz := 1) rfl
    have f2 := ht.fx ho.1.2.1 (sz := 2) rfl
    have f3 := hs'.fx ho.2.1.1 (sz := 1) rfl
    have f4 := ht'.fx ho.2.1.2.1 (sz := 2) rfl
    have m2 := ht.2
    unfold maxLen at m2
    have no : ∀ c, (if checkR vs ds = 0 then checkR vs' ds' else checkR vs ds) = c → ∀ b : Bool, decide (checkR vs ds = 0 ∧ checkR vs' ds' = 0 ∧ leqP vs ds vs' ds') = b → AV.tu [.b b, .i .i64 c] = .tu [.b (decide (checkR vs ds = 0 ∧ checkR vs' ds' = 0 ∧ leqP vs ds vs' ds')), .i .i64 (if checkR vs ds = 0 then checkR vs' ds' else checkR vs ds)] := fun c hc b hb => by rw [hc, hb]
    by_cases hq : checkR vs ds = 0 ∧ checkR vs' ds' = 0
    · obtain ⟨c1, c2⟩ := hq
      have cb : (if checkR vs ds = 0 then checkR vs' ds' else checkR vs ds) = 0 := by rw [if_pos c1]; exact c2
      obtain ⟨a1, a2, -⟩ := checkR_0 c1
      obtain ⟨b1, b2, -⟩ := checkR_0 c2
      have bd := fun r => rAt_bd vs a1.2.1 r
      have bd' := fun r => rAt_bd vs' b1.2.1 r
      replace no := no 0 cb
      have yes : leqP vs ds vs' ds' → decide (checkR vs ds = 0 ∧ checkR vs' ds' = 0 ∧ leqP vs ds vs' ds') = true := fun q => decide_eq_true ⟨c1, c2, q⟩
      have nay : ¬ leqP vs ds vs' ds' → decide (checkR vs ds = 0 ∧ checkR vs' ds' = 0 ∧ leqP vs ds vs' ds') = false := fun q => decide_eq_false fun z => q z.2.2
      unfold w14
      simp only [rep_0, rep_s, walkW, ld_own, lda_own, st_own, sta_own, len_app, if_true, if_false, reduceIte, Nat.reduceAdd, Nat.reduceSub, Nat.reduceLeDiff, Nat.reduceEqDiff, Nat.reduceMul, Nat.reduceLT, Int.reduceLT, Int.reduceLE, Int.reduceEq, rsl_get, srcV_own, f1, f2, f3, f4, T_both, T_rfirst, T_rhas, cb]
      refine ⟨fun q => q.elim, ?_⟩
      refine W_loopF (S := Nat) (fun k => 16 - k) (fun k => tp 2 ++ [.p (h.length + 0) 0, .p (h.length + 1) 0] ++ tp 3 ++ [.i .i64 ((k + 1 : Nat) : Int)] ++ tp 44) (fun k => k ≤ 16 ∧ ∀ r : Nat, r < k → leqRow vs vs' ds' ((r + 1 : Nat) : Int)) 0 ⟨Nat.zero_le _, fun r hr => absurd hr (Nat.not_lt_zero _)⟩ (by simp only [walkW, ld_own, lda_own, st_own, sta_own, len_app, if_true, if_false, reduceIte, Nat.reduceAdd, Nat.reduceSub, Nat.reduceLeDiff, Nat.reduceEqDiff, Nat.reduceMul, Nat.reduceLT, Int.reduceLT, Int.reduceLE, Int.reduceEq, rsl_get, srcV_own]) fun k hk => ?_
      have e1 : IntKind.i64.wrap (((k + 1 : Nat) : Int) + 1) = ((k + 1 + 1 : Nat) : Int) := wrap_in (by unfold In64; omega)
      by_cases g1 : k < 16
      · have g1' : (((k + 1 : Nat) : Int) ≤ 16) = True := eq_true (by omega)
        have e2 : IntKind.i64.wrap (rAt vs' ((k + 1 : Nat) : Int) + 1) = rAt vs' ((k + 1 : Nat) : Int) + 1 := wrap_in (by have := bd' ((k + 1 : Nat) : Int); unfold In64; omega)
        simp only [walkW, ld_own, lda_own, st_own, sta_own, len_app, if_true, if_false, reduceIte, Nat.reduceAdd, Nat.reduceSub, Nat.reduceLeDiff, Nat.reduceEqDiff, Nat.reduceMul, Nat.reduceLT, Int.reduceLT, Int.reduceLE, Int.reduceEq, rsl_get, srcV_own, f1, f2, f3, f4, T_rfirst, g1', e2]
        refine ⟨?_, fun q => q.elim⟩
        refine W_loopF (S := Int) (fun n => (1048577 - n).toNat) (fun n => tp 2 ++ [.p (h.length + 0) 0, .p (h.length + 1) 0] ++ tp 3 ++ [.i .i64 ((k + 1 : Nat) : Int), .i .i64 n] ++ tp 43) (fun n => rAt vs' ((k + 1 : Nat) : Int) < n ∧ n ≤ 1048577 ∧ ∀ m, rAt vs' ((k + 1 : Nat) : Int) < m → m < n → rhasP vs' ds' (((k + 1 : Nat) : Int), m)) (rAt vs' ((k + 1 : Nat) : Int) + 1) ⟨by omega, by have := bd' ((k + 1 : Nat) : Int); omega, fun m h1 h2 => absurd h2 (by omega)⟩ (by simp only [walkW, ld_own, lda_own, st_own, sta_own, len_app, if_true, if_false, reduceIte, Nat.reduceAdd, Nat.reduceSub, Nat.reduceLeDiff, Nat.reduceEqDiff, Nat.reduceMul, Nat.reduceLT, Int.reduceLT, Int.reduceLE, Int.reduceEq, rsl_get, srcV_own]) fun n hn => ?_
        have hv := bd ((k + 1 : Nat) : Int)
        obtain ⟨n1, n2, n3⟩ := hn
        have e3 : IntKind.i64.wrap (n + 1) = n + 1 := wrap_in (by have := bd' ((k + 1 : Nat) : Int); unfold In64; omega)
        simp only [walkW, ld_own, lda_own, st_own, sta_own, len_app, if_true, if_false, reduceIte, Nat.reduceAdd, Nat.reduceSub, Nat.reduceLeDiff, Nat.reduceEqDiff, Nat.reduceMul, Nat.reduceLT, Int.reduceLT, Int.reduceLE, Int.reduceEq, rsl_get, srcV_own, f1, f2, f3, f4, T_rfirst, T_rhas, e1, e3]
        refine ⟨fun g2 => ⟨fun g3 => Bt.drop _ hh (by rw [nay fun q => g3 (q.1 k g1 n n1 g2)]) rfl, fun g3 => ⟨n + 1, ⟨by omega, by omega, fun m h1 h2 => ?_⟩, by omega, Wk.refl _⟩⟩, fun g2 => ⟨k + 1, ⟨g1, fun r hr => ?_⟩, by omega, Wk.refl _⟩⟩
        · by_cases hm : m = n
          · rw [hm]
            exact Decidable.not_not.1 g3
          · exact n3 m h1 (by omega)
        · by_cases hr2 : r = k
          · subst hr2
            exact fun m h1 h2 => n3 m h1 (by omega)
          · exact hk.2 r (by omega)
      · have g1' : (((k + 1 : Nat) : Int) ≤ 16) = False := eq_false (by omega)
        simp only [walkW, ld_own, lda_own, st_own, sta_own, len_app, if_true, if_false, reduceIte, Nat.reduceAdd, Nat.reduceSub, Nat.reduceLeDiff, Nat.reduceEqDiff, Nat.reduceMul, Nat.reduceLT, Int.reduceLT, Int.reduceLE, Int.reduceEq, rsl_get, srcV_own, f1, f2, f3, f4, T_rfirst, g1']
        refine ⟨fun q => q.elim, ?_⟩
        obtain rfl : k = 16 := by omega
        refine W_loopF (S := Nat) (fun j => ds.length - j) (fun j => tp 2 ++ [.p (h.length + 0) 0, .p (h.length + 1) 0] ++ tp 5 ++ [.i .i64 j] ++ tp 42) (fun j => j ≤ ds.length ∧ ∀ d ∈ ds.take j, rhasP vs' ds' d) 0 ⟨Nat.zero_le _, fun d hd => by simp at hd⟩ (by simp only [walkW, ld_own, lda_own, st_own, sta_own, len_app, if_true, if_false, reduceIte, Nat.reduceAdd, Nat.reduceSub, Nat.reduceLeDiff, Nat.reduceEqDiff, Nat.reduceMul, Nat.reduceLT, Int.reduceLT, Int.reduceLE, Int.reduceEq, rsl_get, srcV_own]) fun j hj => ?_
        simp only [walkW, ld_own, lda_own, st_own, sta_own, len_app, if_true, if_false, reduceIte, Nat.reduceAdd, Nat.reduceSub, Nat.reduceLeDiff, Nat.reduceEqDiff, Nat.reduceMul, Nat.reduceLT, Int.reduceLT, Int.reduceLE, Int.reduceEq, rsl_get, srcV_own, f1, f2, f3, f4]
        refine ⟨fun g5 => ?_, fun g5 => ?_⟩
        · have e1 : IntKind.i64.wrap ((j : Int) + 1) = ((j + 1 : Nat) : Int) := wrap_in (by unfold In64; omega)
          simp only [walkW, walkD, ld_own, lda_own, st_own, sta_own, len_app, if_true, if_false, reduceIte, Nat.reduceAdd, Nat.reduceSub, Nat.reduceLeDiff, Nat.reduceEqDiff, Nat.reduceMul, Nat.reduceLT, Int.reduceLT, Int.reduceLE, Int.reduceEq, rsl_get, srcV_own, merge_own, drop_own, getD_own, CO.tmps, Opd.tmps, optT, Nat.reducePow, Nat.reduceDiv, Nat.reduceMod, f1, f2, f3, f4, g5, dotR_f, T_rhas, e1, mask_own hz, HOk_own hh]
          have hmem : ds.getD j dotR.d ∈ ds := by
            rw [List.getD_eq_getElem?_getD, List.getElem?_eq_getElem g5]
            exact List.getElem_mem g5
          refine ⟨fun g3 => Bt.drop _ hh (by rw [nay fun q => g3 (q.2 _ hmem)]) rfl, fun g3 => ⟨j + 1, ⟨g5, (all_take (rhasP vs' ds') ds j g5 dotR.d).2 ⟨hj.2, Decidable.not_not.1 g3⟩⟩, by omega, Wk.refl _⟩⟩
        · have hall := hj.2
          rw [List.take_of_length_le (by omega)] at hall
          exact Bt.drop _ hh (by rw [yes ⟨hk.2, hall⟩]) rfl
    · have cb : (if checkR vs ds = 0 then checkR vs' ds' else checkR vs ds) ≠ 0 := by
        split
        · rename_i c1
          exact fun c2 => hq ⟨c1, c2⟩
        · assumption
      replace no := no _ rfl false (decide_eq_false fun z => hq ⟨z.1, z.2.1⟩)
      unfold w14
      simp only [rep_0, rep_s, walkW, ld_own, lda_own, st_own, sta_own, len_app, if_true, if_false, reduceIte, Nat.reduceAdd, Nat.reduceSub, Nat.reduceLeDiff, Nat.reduceEqDiff, Nat.reduceMul, Nat.reduceLT, Int.reduceLT, Int.reduceLE, Int.reduceEq, rsl_get, srcV_own, f1, f2, f3, f4, T_both]
      exact ⟨fun _ => Bt.drop _ hh no rfl, fun z => absurd cb z⟩
  · cases e
end Go.Proofs.Ytnnkfhlmkaobfaa
end
section
namespace Go.Proofs.Ytnnkfhlmkaobfaa
theorem bsI_inv (l : Dots) (d : Int × Int) (hr : Rise l) : ∀ lo hi, lo ≤ hi → hi ≤ l.length → (∀ k, k < lo → lessD (l.getD k dotR.d) d) → (∀ k, hi ≤ k → k < l.length → ¬ lessD (l.getD k dotR.d) d) →
    bsI l d lo hi ≤ hi ∧ (∀ k, k < bsI l d lo hi → lessD (l.getD k dotR.d) d) ∧ ∀ k, bsI l d lo hi ≤ k → k < l.length → ¬ lessD (l.getD k dotR.d) d := by
  have mono : ∀ i j, i < j → j < l.length → lessD (l.getD i dotR.d) (l.getD j dotR.d) := fun i j hij hj => by
    have := List.pairwise_iff_getElem.1 hr i j (by omega) hj hij
    rwa [List.getD_eq_getElem?_getD, List.getD_eq_getElem?_getD, List.getElem?_eq_getElem (by omega : i < l.length), List.getElem?_eq_getElem hj]
  intro lo hi
  fun_induction bsI l d lo hi with
  | case1 lo hi h1 h2 ih =>
    intro g1 g2 g3 g4
    refine ih (by omega) g2 (fun k hk => ?_) g4
    have hm := (cmpD_lt _ _).1 h2
    by_cases hk2 : k = (lo + hi) / 2
    · subst hk2; exact hm
    · exact lessD_trans (mono k _ (by omega) (by omega)) hm
  | case2 lo hi h1 h2 ih =>
    intro g1 g2 g3 g4
    have hm : ¬ lessD (l.getD ((lo + hi) / 2) dotR.d) d := fun q => h2 ((cmpD_lt _ _).2 q)
    obtain ⟨i1, i2, i3⟩ := ih (by omega) (by omega) g3 fun k hk hk2 => by
      by_cases hk3 : k = (lo + hi) / 2
      · subst hk3; exact hm
      · exact fun q => hm (lessD_trans (mono _ k (by omega) hk2) q)
    exact ⟨by omega, i2, i3⟩
  | case3 lo hi h1 =>
    intro g1 g2 g3 g4
    have : lo = hi := by omega
    subst this
    exact ⟨Nat.le_refl _, g3, g4⟩
theorem bs_mem {l : Dots} (hr : Rise l) (d : Int × Int) : (bsI l d 0 l.length < l.length ∧ cmpD (l.getD (bsI l d 0 l.length) dotR.d) d = 0) ↔ d ∈ l := by
  obtain ⟨h1, h2, h3⟩ := bsI_inv l d hr 0 l.length (Nat.zero_le _) (Nat.le_refl _) (fun k hk => absurd hk (Nat.not_lt_zero _)) (fun k hk hk2 => absurd hk2 (by omega))
  constructor
  · rintro ⟨q1, q2⟩
    have := (cmpD_eq _ _).1 q2
    rw [← this, List.getD_eq_getElem?_getD, List.getElem?_eq_getElem q1]
    exact List.getElem_mem q1
  · intro hd
    obtain ⟨k, hk, rfl⟩ := List.getElem_of_mem hd
    have ek : l.getD k dotR.d = l[k] := by rw [List.getD_eq_getElem?_getD, List.getElem?_eq_getElem hk]; rfl
    have hik : bsI l l[k] 0 l.length ≤ k := by
      rcases Nat.lt_or_ge k (bsI l l[k] 0 l.length) with q | q
      · have := h2 k q
        rw [ek] at this
        exact absurd this (lessD_irrefl _)
      · exact q
    have hlt : bsI l l[k] 0 l.length < l.length := by omega
    refine ⟨hlt, (cmpD_eq _ _).2 ?_⟩
    have h4 := h3 _ (Nat.le_refl _) hlt
    by_cases he : bsI l l[k] 0 l.length = k
    · rw [he, ek]
    · have := List.pairwise_iff_getElem.1 hr _ k hlt hk (by omega)
      rw [List.getD_eq_getElem?_getD, List.getElem?_eq_getElem hlt] at h4
      exact absurd this h4
theorem rAt_vAt {v : List Int} (p : ∀ n ∈ v, 0 ≤ n) (r : Int) : rAt v r = vAt v r := by
  unfold rAt vAt
  by_cases h1 : r < 1
  · rw [if_pos (.inl h1), if_pos h1]
  · by_cases h2 : (v.length : Int) < r
    · rw [if_pos (.inr h2), if_neg h1, if_pos h2]
    · rw [if_neg (by omega), if_neg h1, if_neg h2]
      have hk : (r - 1).toNat < v.length := by omega
      rw [List.getD_eq_getElem?_getD, List.getElem?_eq_getElem hk]
      have := p _ (List.getElem_mem hk)
      simp only [Option.getD_some]
      omega
theorem has_iff {v : List Int} {ds : Dots} (p : ∀ n ∈ v, 0 ≤ n) (hr : Rise ds) (d : Int × Int) : chasP v ds d ↔ rhasP v ds d := by
  unfold chasP rhasP vHasP
  rw [bs_mem hr, rAt_vAt p]
  constructor
  · rintro (q | q)
    · exact .inr q
    · exact .inl ⟨q.2.1, q.2.2⟩
  · rintro (q | q)
    · refine .inr ⟨?_, q.1, q.2⟩
      rcases Int.lt_or_le d.1 1 with z | z
      · rw [vAt_out v _ (.inl z)] at q
        omega
      · exact z
    · exact .inl q
theorem has_chk {v : List Int} {ds : Dots} (c : checkR v ds = 0) (d : Int × Int) : chasP v ds d ↔ rhasP v ds d :=
  has_iff (fun n hn => ((check_fm c).1.2.1 n hn).1) (check_rise c) d
theorem leq_chk {v v' : List Int} {ds ds' : Dots} (c : checkR v ds = 0) (c' : checkR v' ds' = 0) : leqC v ds v' ds' ↔ leqP v ds v' ds' := by
  have pv : ∀ n ∈ v, 0 ≤ n := fun n hn => ((check_fm c).1.2.1 n hn).1
  have pv' : ∀ n ∈ v', 0 ≤ n := fun n hn => ((check_fm c').1.2.1 n hn).1
  have l16 := (check_fm c).1.1
  unfold leqC leqP
  refine and_congr ⟨fun q r hr n h1 h2 => ?_, fun q r hr n h1 h2 => ?_⟩ ⟨fun q d hd => (has_chk c' d).1 (q d hd), fun q d hd => (has_chk c' d).2 (q d hd)⟩
  · rw [rAt_vAt pv'] at h1
    rw [rAt_vAt pv] at h2
    by_cases hl : r < v.length
    · refine (has_chk c' _).1 (q r hl n h1 ?_)
      rw [vAt_in v r hl] at h2
      have hm : v.getD r 0 ∈ v := by rw [List.getD_eq_getElem?_getD, List.getElem?_eq_getElem hl]; exact List.getElem_mem hl
      have := pv _ hm
      omega
    · rw [vAt_out v _ (by omega)] at h2
      have := vAt_ge v' ((r + 1 : Nat) : Int)
      omega
  · refine (has_chk c' _).2 (q r (by omega) n (by rw [rAt_vAt pv']; exact h1) ?_)
    rw [rAt_vAt pv, vAt_in v r hr]
    omega
end Go.Proofs.Ytnnkfhlmkaobfaa
end
section
namespace Go.Proofs.Ytnnkfhlmkaobfaa
theorem chk0 (v : List Int) (ds : Dots) (c : checkR v ds = 0) : rangedP v ds ∧ ds.length ≤ 4096 := ⟨(check_fm c).1, (check_fm c).2.1⟩
theorem count_chk (v : List Int) (ds : Dots) : countC checkR v ds = countR v ds := by
  unfold countC countR
  by_cases c : checkR v ds = 0
  · rw [if_pos c, if_pos c]
    obtain ⟨h1, h2, _⟩ := check_fm c
    have key : ∀ i, i ≤ v.length → wS v i = sumI v i ∧ 0 ≤ sumI v i ∧ sumI v i ≤ 1048576 * (i : Int) := by
      intro i
      induction i with
      | zero => intro _; exact ⟨rfl, Int.le_refl _, by simp [sumI]⟩
      | succ i ih =>
        intro hi
        obtain ⟨e1, e2, e3⟩ := ih (by omega)
        have hm : v.getD i 0 ∈ v := by rw [List.getD_eq_getElem?_getD, List.getElem?_eq_getElem (by omega : i < v.length)]; exact List.getElem_mem _
        have hb := h1.2.1 _ hm
        have l16 := h1.1
        unfold wS sumI
        rw [e1, vAt_in v i (by omega)]
        unfold wI
        have e4 : max (v.getD i 0) 0 = v.getD i 0 := by omega
        rw [e4]
        have : ((i + 1 : Nat) : Int) = (i : Int) + 1 := by omega
        refine ⟨by omega, by omega, by omega⟩
    rw [(key v.length (Nat.le_refl _)).1]
    omega
  · rw [if_neg c, if_neg c]
theorem max_chk {v : List Int} (p : ∀ n ∈ v, 0 ≤ n) (ds : Dots) (r : Int) : ∀ i, maxC v ds r i = maxR v ds r i
  | 0 => (rAt_vAt p r).symm
  | i + 1 => by
    unfold maxC maxR
    rw [max_chk p ds r i]
theorem next_chk (v : List Int) (ds : Dots) (r : Int) : nextC checkR v ds r = nextR v ds r := by
  unfold nextC nextR
  by_cases c : checkR v ds = 0
  · rw [if_neg (not_not_intro c), if_neg (not_not_intro c)]
    obtain ⟨h1, _, _⟩ := check_fm c
    rw [max_chk (fun n hn => (h1.2.1 n hn).1)]
    have := maxR_bd v ds h1 r ds.length (Nat.le_refl _)
    by_cases hr : r < 1 ∨ 16 < r
    · rw [if_pos hr, if_pos hr]
    · rw [if_neg hr, if_neg hr]
      by_cases hm : maxR v ds r ds.length = 1048576
      · rw [if_pos (by omega), if_pos hm]
      · rw [if_neg (by omega), if_neg hm]
  · rw [if_pos c, if_pos c]
theorem Has_spec : Spec Try.prog 25 T_rHas := by
  intro args h v h' e
  unfold T_rHas at e
  split at e
  · rename_i s t a b
    refine cHas_spec checkR chk0 cCheck_spec _ h v h' ?_
    simp only [T_cHas]
    rw [← e]
    congr 1
    funext v
    congr 1
    funext ds
    rw [decide_eq_decide.2 (and_congr_right fun c => has_chk c (a, b))]
  · cases e
theorem Count_spec : Spec Try.prog 27 T_rCount := by
  intro args h v h' e
  unfold T_rCount at e
  split at e
  · refine cCount_spec checkR chk0 cCheck_spec _ h v h' ?_
    simp only [T_cCount, count_chk]
    exact e
  · cases e
theorem Next_spec : Spec Try.prog 21 T_rNext := by
  intro args h v h' e
  unfold T_rNext at e
  split at e
  · refine cNext_spec checkR cCheck_spec _ h v h' ?_
    simp only [T_cNext, next_chk]
    exact e
  · cases e
theorem Leq_spec : Spec Try.prog 13 T_rLeq := by
  intro args h v h' e
  unfold T_rLeq at e
  split at e
  · refine cLeq_spec checkR chk0 cCheck_spec _ h v h' ?_
    simp only [T_cLeq]
    rw [← e]
    congr 1
    funext v
    congr 1
    funext ds
    congr 1
    funext v'
    congr 1
    funext ds'
    have q : (checkR v ds = 0 ∧ checkR v' ds' = 0 ∧ leqC v ds v' ds') ↔ (checkR v ds = 0 ∧ checkR v' ds' = 0 ∧ leqP v ds v' ds') := ⟨fun ⟨c, c', q⟩ => ⟨c, c', (leq_chk c c').1 q⟩, fun ⟨c, c', q⟩ => ⟨c, c', (leq_chk c c').2 q⟩⟩
    rw [decide_eq_decide.2 q]
  · cases e
end Go.Proofs.Ytnnkfhlmkaobfaa
end
section
namespace Go.Proofs.Ytnnkfhlmkaobfaa
set_option maxRecDepth 100000
set_option maxHeartbeats 4000000
set_option linter.unusedSimpArgs false
def chkD : Nat → Option (List AV) → Bool
  | 0, some [] => true
  | n + 1, some (.i .i64 _ :: .i .i64 _ :: l) => chkD n (some l)
  | _, _ => false
def valD : Option (List AV) → Dots
  | some (.i _ a :: .i _ b :: l) => (a, b) :: valD (some l)
  | _ => []
theorem chkD_0 : chkD 0 (some []) = true := by simp [chkD]
theorem chkD_s (n : Nat) (a b : Int) (l : List AV) : chkD (n + 1) (some (.i .i64 a :: .i .i64 b :: l)) = chkD n (some l) := by simp [chkD]
theorem valD_0 : valD (some []) = [] := by simp [valD]
theorem valD_s (k k' : IntKind) (a b : Int) (l : List AV) : valD (some (.i k a :: .i k' b :: l)) = (a, b) :: valD (some l) := by simp [valD]
theorem chkD_ok : ∀ (n : Nat) (l : List AV), chkD n (some l) = true → l = dotR.cells (valD (some l)) ∧ (valD (some l)).length = n := by
  intro n
  induction n with
  | zero =>
    intro l e
    cases l with
    | nil => exact ⟨by simp [valD, rcells_nil], by simp [valD]⟩
    | cons a l => simp [chkD] at e
  | succ n ih =>
    intro l e
    unfold chkD at e
    split at e
    · rename_i h1 h2
      cases h1
    · rename_i m a b l' h1 h2
      cases h1
      cases h2
      obtain ⟨i1, i2⟩ := ih l' e
      rw [valD_s]
      refine ⟨?_, by simp [i2]⟩
      simp only [Row.cells, List.flatMap_cons, dotR_f, List.cons_append, List.nil_append]
      congr 2
    · cases e
theorem getS_litD {h : List AB} (L : List AB) (k n c : Nat) (kk : Option Nat) (e : chkD n (ownC L k) = true) (hn : n ≤ 1000) : getS dotR (h ++ L) (.sl (h.length + k) 0 n c kk) = some (valD (ownC L k)) := by
  cases hc : ownC L k with
  | none => rw [hc] at e; cases n <;> simp [chkD] at e
  | some l =>
    rw [hc] at e
    obtain ⟨h1, h2⟩ := chkD_ok n l e
    have := Rd_own (h := h) (r := dotR) (L := L) (k := k) (c := c) (kk := kk) (l := valD (some l)) (by rw [hc, ← h1]) (by rw [h2]; unfold maxLen; omega)
    rw [h2] at this
    exact this.get
def T_of : List AV → List AB → Option (AV × List AB)
  | [s, t], h => if s.isSl = true ∧ t.isSl = true then some (.ag [s, t], h) else none
  | _, _ => none
theorem of_spec : Spec Try.prog 31 T_of := by
  intro args h v h' e
  unfold T_of at e
  split at e
  · rename_i s t
    split at e
    · rename_i hs
      cases e
      refine FnAt.c (FnAt.run (by kernel_rfl) (T := ⟨[], []⟩) ⟨trivial, trivial⟩ Try.func31 sw31 fun ho hh => ?_)
      simp only [okL_cons, ok_ag, Bool.and_eq_true] at ho
      unfold w31
      simp only [rep_0, rep_s, walkW, ld_own, lda_own, st_own, sta_own, len_app, if_true, if_false, reduceIte, Nat.reduceAdd, Nat.reduceSub, Nat.reduceLeDiff, Nat.reduceEqDiff, Nat.reduceMul, Nat.reduceLT, Int.reduceLT, Int.reduceLE, Int.reduceEq, rsl_get, srcV_own, sl_one hs.1, sl_one hs.2, sl_cells hs.1, sl_cells hs.2, sl_known hs.1, sl_known hs.2]
      exact Bt.drop _ hh rfl (by simp [AV.ok, okL, ho.1, ho.2.1])
    · cases e
  · cases e
def T_dot : List AV → List AB → Option (AV × List AB)
  | [.i .i64 a, .i .i64 b], h => some (.ag [.i .i64 a, .i .i64 b], h)
  | _, _ => none
theorem dot_spec : Spec Try.prog 32 T_dot := by
  intro args h v h' e
  unfold T_dot at e
  split at e
  · rename_i a b
    cases e
    refine FnAt.c (FnAt.run (by kernel_rfl) (T := ⟨[], []⟩) ⟨trivial, trivial⟩ Try.func32 sw32 fun ho hh => ?_)
    unfold w32
    simp only [rep_0, rep_s, walkW, ld_own, lda_own, st_own, sta_own, len_app, if_true, if_false, reduceIte, Nat.reduceAdd, Nat.reduceSub, Nat.reduceLeDiff, Nat.reduceEqDiff, Nat.reduceMul, Nat.reduceLT, Int.reduceLT, Int.reduceLE, Int.reduceEq, rsl_get, srcV_own]
    exact Bt.drop _ hh rfl (by simp [AV.ok, okL])
  · cases e
/-- Do numbers and dots make that cloud? -/
def makesP (w : List Int) (wd : Dots) (v : List Int) (ds : Dots) : Prop := rangedP v ds ∧ (fmO v ds).2.length ≤ 4096 ∧ fmO v ds = (w, wd)
noncomputable instance (w : List Int) (wd : Dots) (v : List Int) (ds : Dots) : Decidable (makesP w wd v ds) := Classical.propDecidable _
noncomputable def T_makes : List AV → List AB → Option (AV × List AB)
  | [.ag [s, t], s', t'], h => (getS intR h s).bind fun w => (getS dotR h t).bind fun wd => (getS intR h s').bind fun v => (getS dotR h t').bind fun ds =>
      if ds.length ≤ 100000 then some (.b (decide (makesP w wd v ds)), h) else none
  | _, _ => none
theorem fmO_len (v : List Int) (ds : Dots) : (fmO v ds).1.length ≤ 16 := by
  have := topI_le (fmR v (layR ds)).1 16
  simp only [fmO, List.length_take]
  omega
theorem makes_spec : Spec Try.prog 33 T_makes := by
  intro args h v h' e
  unfold T_makes at e
  split at e
  · rename_i s t s' t'
    obtain ⟨w, hs, e⟩ := getS_bind e
    obtain ⟨wd, ht, e⟩ := getS_bind e
    obtain ⟨vs, hs', e⟩ := getS_bind e
    obtain ⟨ds, ht', e⟩ := getS_bind e
    split at e
    · rename_i hl
      cases e
      refine FnAt.c (FnAt.run (by kernel_rfl) (T := ⟨[⟨19, T_cMake, fun _ => []⟩, ⟨15, T_SameCloud, fun _ => []⟩], []⟩) ⟨⟨Make_spec, SameCloud_spec, trivial⟩, trivial⟩ Try.func33 sw33 fun ho hh => ?_)
      simp only [okL_cons, ok_ag, Bool.and_eq_true] at ho
      have f1 := hs.fx ho.1.1 (sz := 1) rfl
      have f2 := ht.fx ho.1.2.1 (sz := 2) rfl
      have f3 := hs'.fx ho.2.1 (sz := 1) rfl
      have f4 := ht'.fx ho.2.2.1 (sz := 2) rfl
      unfold w33
      by_cases hr : rangedP vs ds
      · have gr := eq_true hr
        by_cases h6 : (fmO vs ds).2.length ≤ 4096
        · have g6 := eq_true h6
          have g7 : ((fmO vs ds).1.length ≤ maxLen) = True := eq_true (by have := fmO_len vs ds; unfold maxLen; omega)
          have g8 : ((fmO vs ds).2.length ≤ maxLen) = True := eq_true (by unfold maxLen; omega)
          simp only [rep_0, rep_s, walkW, ld_own, lda_own, st_own, sta_own, len_app, if_true, if_false, reduceIte, Nat.reduceAdd, Nat.reduceSub, Nat.reduceLeDiff, Nat.reduceEqDiff, Nat.reduceMul, Nat.reduceLT, Int.reduceLT, Int.reduceLE, Int.reduceEq, rsl_get, srcV_own, f1, f2, f3, f4, T_cMake, T_SameCloud, hl, gr, g6, g7, g8, false_implies]
          refine Bt.dropB _ hh (decide_eq_decide.2 ?_)
          unfold makesP
          rw [Prod.ext_iff]
          exact ⟨fun q => ⟨hr, h6, q⟩, fun q => q.2.2⟩
        · have g6 := eq_false h6
          simp only [rep_0, rep_s, walkW, ld_own, lda_own, st_own, sta_own, len_app, if_true, if_false, reduceIte, Nat.reduceAdd, Nat.reduceSub, Nat.reduceLeDiff, Nat.reduceEqDiff, Nat.reduceMul, Nat.reduceLT, Int.reduceLT, Int.reduceLE, Int.reduceEq, rsl_get, srcV_own, f1, f2, f3, f4, T_cMake, T_SameCloud, hl, gr, g6, false_implies]
          exact Bt.dropB _ hh (decide_eq_false fun q => h6 q.2.1).symm
      · have gr := eq_false hr
        simp only [rep_0, rep_s, walkW, ld_own, lda_own, st_own, sta_own, len_app, if_true, if_false, reduceIte, Nat.reduceAdd, Nat.reduceSub, Nat.reduceLeDiff, Nat.reduceEqDiff, Nat.reduceMul, Nat.reduceLT, Int.reduceLT, Int.reduceLE, Int.reduceEq, rsl_get, srcV_own, f1, f2, f3, f4, T_cMake, T_SameCloud, hl, gr, false_implies]
        exact Bt.dropB _ hh (decide_eq_false fun q => hr q.1).symm
    · cases e
  · cases e
theorem awake_spec (h : List AB) : FnC Try.prog 9 [] h (.b true) h := by
  refine FnAt.c (FnAt.frz0 fun hz => ?_)
  generalize h.map AB.freeze = h at *
  refine FnAt.run (by kernel_rfl) (T := ⟨[⟨32, T_dot, fun _ => []⟩, ⟨31, T_of, fun _ => []⟩, ⟨33, T_makes, fun _ => []⟩, ⟨11, T_cJoin, fun _ => []⟩, ⟨25, T_rHas, fun _ => []⟩, ⟨15, T_SameCloud, fun _ => []⟩], []⟩) ⟨⟨dot_spec, of_spec, makes_spec, cJoin_spec, Has_spec, SameCloud_spec, trivial⟩, trivial⟩ Try.func9 sw9 fun ho hh => ?_
  have q1 : checkR [2] [(1, 4)] = 0 := by decide
  have q2 : checkR [0, 1] [(1, 3)] = 0 := by decide
  have q3 : joinO [2] [0, 1] [(1, 4)] [(1, 3)] = ([4, 1], []) := by decide
  have q5 : (checkR [2] [(1, 4)] = 0 ∧ rhasP [2] [(1, 4)] (1, 2)) = True := eq_true ⟨q1, by decide⟩
  have q6 : joinO [2] [0, 1] [(1, 4)] [(1, 3)] = ([4, 1], ([] : Dots)) := q3
  have q4 : makesP [2] [(1, 4), (2, 2)] [1, 0] [(1, 2), (1, 4), (2, 2), (1, 4)] = True := eq_true (by unfold makesP; decide)
  unfold w9
  simp only [rep_0, rep_s, walkW, walkQ, ld_own, lda_own, st_own, sta_own, len_app, if_true, if_false, ↓reduceIte, Nat.reduceAdd, Nat.reduceSub, Nat.reduceLeDiff, Nat.reduceEqDiff, Nat.reduceMul, Nat.reduceLT, Int.reduceLT, Int.reduceLE, Int.reduceEq, rsl_get, srcV_own, merge_own, drop_own, getD_own, CO.tmps, Opd.tmps, optT, Nat.reducePow, Nat.reduceDiv, Nat.reduceMod, T_dot, T_of, T_makes, T_cJoin, T_rHas, T_SameCloud, getS_litD, chkD_0, chkD_s, valD_0, valD_s, HOk_own hh, mask_ownC hz, mask_ownQ hz, mask_ownQ0 hz, slSl, nsSl, AV.capOk, q1, q2, q3, q4, q5, ne_eq, List.length_cons, List.length_nil, Nat.zero_le]
  exact Bt.dropB _ hh (decide_eq_true (by decide))
end Go.Proofs.Ytnnkfhlmkaobfaa
end
