/- Part 17 of what the laws' proofs rest on. No condition. -/
import Derived.Test.YtnnkfhlmkaobfaaCm16
set_option linter.all false
section
namespace Go.Proofs.Ytnnkfhlmkaobfaa
set_option maxRecDepth 100000
set_option linter.unusedSimpArgs false
/-- vector.Join's, vector.Meet's choice. -/
def T_max : List AV → List AB → Option (AV × List AB)
  | [.i .i64 a, .i .i64 b], h => some (.i .i64 (max a b), h)
  | _, _ => none
theorem max_spec : Spec Try.prog 82 T_max := by
  intro args h v h' e
  unfold T_max at e
  split at e
  · cases e
    refine FnAt.c (FnAt.run (by kernel_rfl) (T := ⟨[], []⟩) ⟨trivial, trivial⟩ Try.func82 sw82 fun ho hh => ?_)
    unfold w82
    simp only [rep_0, rep_s, walkW, ld_own, lda_own, st_own, sta_own, len_app, if_true, if_false, reduceIte, Nat.reduceAdd, Nat.reduceSub, Nat.reduceLeDiff, Nat.reduceEqDiff, Nat.reduceMul, Nat.reduceLT, Int.reduceLT, Int.reduceLE, Int.reduceEq, rsl_get, srcV_own]
    exact Bt.eq rfl (List.append_nil h)
  · cases e
def T_picked1 : List AV → List AB → Option (AV × List AB)
  | [acc, .i .i64 a, .i .i64 b, .p i 0], h => match rdBlk h i with
    | some [.f (.func 82) [] []] => appV (h ++ [.blk true true [.i .i64 (max a b)]]) true 1 8 acc (.sl (h.length + 0) 0 1 1 none)
    | _ => none
  | _, _ => none
theorem picked1_spec : Spec Try.prog 98 T_picked1 := by
  intro args h v h' e
  unfold T_picked1 at e
  split at e
  · rename_i acc a b i
    split at e
    · rename_i hb
      refine FnAt.c (FnAt.run (by kernel_rfl) (T := ⟨[⟨82, T_max, fun _ => []⟩], []⟩) ⟨⟨max_spec, trivial⟩, trivial⟩ Try.func98 sw98 fun ho hh => ?_)
      have f1 := rdBlk_fx hb
      simp only [walkW, ld_own, lda_own, st_own, sta_own, len_app, if_true, if_false, reduceIte, Nat.reduceAdd, Nat.reduceSub, Nat.reduceLeDiff, Nat.reduceEqDiff, Nat.reduceMul, Nat.reduceLT, Int.reduceLT, Int.reduceLE, Int.reduceEq, rsl_get, srcV_own] at e
      unfold w98
      simp only [rep_0, rep_s, walkW, ld_own, lda_own, st_own, sta_own, len_app, if_true, if_false, reduceIte, Nat.reduceAdd, Nat.reduceSub, Nat.reduceLeDiff, Nat.reduceEqDiff, Nat.reduceMul, Nat.reduceLT, Int.reduceLT, Int.reduceLE, Int.reduceEq, rsl_get, srcV_own, T_max, f1, e]
      exact Bt.eq rfl rfl
    · cases e
  · cases e
/-- fold's loop: its code, its frame. -/
def fA : CC := (CC.seq (CC.reg 2 [{ dst := some 7, guard := none, op := CO.mv (Opd.t 10) }]) (CC.reg 3 [{ dst := some 8, guard := none, op := CO.mv (Opd.t 11) }]))
def fB : CC := (CC.block 1 (CC.reg 4 [{ dst := some 12, guard := none, op := CO.ld none (Opd.t 5) }, { dst := some 13, guard := none, op := CO.ld none (Opd.t 4) }, { dst := some 14, guard := none, op := CO.mv (Opd.t 7) }, { dst := some 15, guard := none, op := CO.mv (Opd.t 8) }, { dst := some 16, guard := none, op := CO.call (Opd.t 12) [Opd.t 13, Opd.t 14, Opd.t 15] }, { dst := none, guard := none, op := CO.st none (Opd.t 4) (Opd.t 16) }]))
def foldFr (p i1 i2 i0 : Nat) : List AV := [.f (.func 96) [] [.p i1 0, .p i2 0], .ns, .f (.func 98) [] [.p i0 0], .tu [], .p (p + 0) 0, .p (p + 1) 0, .ns, .tu [], .tu [], .f (.func 96) [] [.p i1 0, .p i2 0], .tu [], .tu [], .tu [], .tu [], .tu [], .tu [], .tu [], .tu []]
def foldL (p i1 i2 i0 : Nat) (m : Bool) (acc : AV) (B : AB) : List AB := [.blk false true [acc], .blk false m [.f (.func 98) [] [.p i0 0]], .lp .ready .n (foldFr p i1 i2 i0) [10, 11] fA fB, B]
theorem fold_round (h : List AB) (i1 i2 i0 : Nat) (m : Bool) (l : List Int) (a b : Int) (hb : rdBlk h i0 = some [.f (.func 82) [] []]) (hl : l.length ≤ 1000000) :
    RdAt' Try.prog (h.length + 2) [.i .i64 a, .i .i64 b] (h ++ foldL h.length i1 i2 i0 m (apS intR (h.length + 3) l) (resB intR true l)) (.b true)
      (h ++ (foldL h.length i1 i2 i0 m (.sl (h.length + 5) 0 (l.length + 1) (l.length + 1) (some 1)) .dead ++ [.blk true true [.i .i64 (max a b)], .blk true true (intR.cells l ++ [.i .i64 (max a b)])])) := by
  have f1 := rdBlk_fx hb
  have e1 := fun L hL => appW_ap (h := h) (r := intR) (sz := 1) rfl L 3 l 8 1 [.i .i64 (max a b)] hL (by decide) (by omega) (by unfold maxLen; omega)
  refine RdAt'.run (by kernel_rfl) (T := ⟨[⟨98, T_picked1, fun _ => []⟩], []⟩) ⟨⟨picked1_spec, trivial⟩, trivial⟩ (by rw [own_at]; rfl) rfl ?_
  simp only [foldFr, setPs, fA, foldL, walkW, ld_own, lda_own, st_own, sta_own, len_app, if_true, if_false, reduceIte, Nat.reduceAdd, Nat.reduceSub, Nat.reduceLeDiff, Nat.reduceEqDiff, Nat.reduceMul, Nat.reduceLT, Int.reduceLT, Int.reduceLE, Int.reduceEq, rsl_get, srcV_own]
  refine ⟨_, _, _, _, _, by rw [own_at]; rfl, ?_⟩
  simp only [fB, walkW, ld_own, lda_own, st_own, sta_own, len_app, if_true, if_false, reduceIte, Nat.reduceAdd, Nat.reduceSub, Nat.reduceLeDiff, Nat.reduceEqDiff, Nat.reduceMul, Nat.reduceLT, Int.reduceLT, Int.reduceLE, Int.reduceEq, rsl_get, srcV_own, T_picked1, f1, e1]
  exact ⟨_, _, _, _, _, _, by rw [own_at]; rfl, rfl, by unfold rdEnd; dsimp only; rw [set_own]; rfl⟩
/-- vector.Join, its first numbers. -/
def jn (xs ys : List Int) (i : Nat) : List Int := (List.range i).map fun k : Nat => max (vAt xs ((k + 1 : Nat) : Int)) (vAt ys ((k + 1 : Nat) : Int))
theorem jn_len (xs ys : List Int) (i : Nat) : (jn xs ys i).length = i := by simp [jn]
theorem jn_succ (xs ys : List Int) (i : Nat) : jn xs ys (i + 1) = jn xs ys i ++ [max (vAt xs ((i + 1 : Nat) : Int)) (vAt ys ((i + 1 : Nat) : Int))] := by
  simp [jn, List.range_succ]
/-- What a round makes. -/
def roundR (h : List AB) (i1 i2 i0 : Nat) (a b : Int) (m : Bool) (l : List Int) : List AB := h ++ (foldL h.length i1 i2 i0 m (.sl (h.length + 5) 0 (l.length + 1) (l.length + 1) (some 1)) .dead ++ [.blk true true [.i .i64 (max a b)], .blk true true (intR.cells l ++ [.i .i64 (max a b)])])
def roundQ (h : List AB) (i1 i2 i0 : Nat) (a b : Int) (hh r : List AB) : Prop := ∃ m l, l.length ≤ 1000000 ∧ hh = h ++ foldL h.length i1 i2 i0 m (apS intR (h.length + 3) l) (resB intR true l) ∧ r = roundR h i1 i2 i0 a b m l
open Classical in
noncomputable def roundT (h : List AB) (i1 i2 i0 : Nat) : List AV → List AB → Option (AV × List AB)
  | [.i .i64 a, .i .i64 b], hh => if c : ∃ r, roundQ h i1 i2 i0 a b hh r then some (.b true, c.choose) else none
  | _, _ => none
theorem roundT_eq (h : List AB) (i1 i2 i0 : Nat) (a b : Int) (m : Bool) (l : List Int) (hl : l.length ≤ 1000000) : roundT h i1 i2 i0 [.i .i64 a, .i .i64 b] (h ++ foldL h.length i1 i2 i0 m (apS intR (h.length + 3) l) (resB intR true l)) = some (.b true, roundR h i1 i2 i0 a b m l) := by
  have hc : ∃ r, roundQ h i1 i2 i0 a b (h ++ foldL h.length i1 i2 i0 m (apS intR (h.length + 3) l) (resB intR true l)) r := ⟨_, m, l, hl, rfl, rfl⟩
  obtain ⟨m', l', _, e, e5⟩ := hc.choose_spec
  replace e := List.append_cancel_left e
  simp only [foldL, List.cons.injEq, AB.blk.injEq, and_true, true_and] at e
  obtain ⟨e1, e2, e3⟩ := e
  have e4 := apS_inj e1 e3
  subst e2 e4
  simp only [roundT]
  rw [dif_pos hc, e5]
theorem round_spec (h : List AB) (i1 i2 i0 : Nat) (hb : rdBlk h i0 = some [.f (.func 82) [] []]) : SpecR Try.prog (h.length + 2) (roundT h i1 i2 i0) := by
  intro args hh v h' e
  unfold roundT at e
  split at e
  · rename_i a b
    split at e
    · rename_i hc
      cases e
      obtain ⟨m, l, h1, h2, h3⟩ := hc.choose_spec
      rw [h3, h2]
      exact fold_round h i1 i2 i0 m l a b hb h1
    · cases e
  · cases e
theorem sides_fold (h : List AB) (hz : h.map AB.freeze = h) (hh : HOk h) (i1 i2 i0 : Nat) (sv sw : AV) (xs ys : List Int) (hb : rdBlk h i0 = some [.f (.func 82) [] []]) (h1 : bxS h i1 = some sv) (h2 : bxS h i2 = some sw) (hx : Rd intR h sv xs) (hy : Rd intR h sw ys) (hl : xs.length ≤ 1000000 ∧ ys.length ≤ 1000000) :
    FnAt Try.prog 96 [.y (h.length + 2), .p i1 0, .p i2 0] (h ++ [.blk false true [.ns], .blk false true [.f (.func 98) [] [.p i0 0]], .lp .ready .n (foldFr h.length i1 i2 i0) [10, 11] fA fB]) (.tu [])
      (h ++ foldL h.length i1 i2 i0 true (apS intR (h.length + 3) (jn xs ys (max xs.length ys.length))) (resB intR true (jn xs ys (max xs.length ys.length)))) := by
  refine FnAt.run (by kernel_rfl) (T := ⟨[⟨44, T_At, fun _ => []⟩], [⟨h.length + 2, roundT h i1 i2 i0, fun _ => [h.length + 0, h.length + 2, h.length + 3]⟩]⟩) ⟨⟨at_spec, trivial⟩, ⟨round_spec h i1 i2 i0 hb, trivial⟩⟩ Try.func96 sw96 fun _ _ => ?_
  have f1 := rdBlk_fx (bxS_rd h1)
  have f2 := rdBlk_fx (bxS_rd h2)
  have f0 := rdBlk_fx hb
  have f3 := hx.fx (bxS_ok h1 hh) (sz := 1) rfl
  have f4 := hy.fx (bxS_ok h2 hh) (sz := 1) rfl
  unfold w96
  simp only [rep_0, rep_s, walkW, ld_own, lda_own, st_own, sta_own, len_app, if_true, if_false, reduceIte, Nat.reduceAdd, Nat.reduceSub, Nat.reduceLeDiff, Nat.reduceEqDiff, Nat.reduceMul, Nat.reduceLT, Int.reduceLT, Int.reduceLE, Int.reduceEq, rsl_get, srcV_own, f1, f2, f3, f4]
  refine W_loopS (S := Nat) (fun i => max xs.length ys.length - i) (fun i => [.y (h.length + 2), .p i1 0, .p i2 0] ++ tp 6 ++ [.i .i64 (max (xs.length : Int) ys.length), .i .i64 i] ++ tp 14) (fun i => h ++ foldL h.length i1 i2 i0 true (apS intR (h.length + 3) (jn xs ys i)) (resB intR true (jn xs ys i))) (fun i => i ≤ max xs.length ys.length) 0 (Nat.zero_le _) ?_ fun i hi => ?_
  · have e : h ++ foldL h.length i1 i2 i0 true (apS intR (h.length + 3) (jn xs ys 0)) (resB intR true (jn xs ys 0)) = h ++ [.blk false true [.ns], .blk false true [.f (.func 98) [] [.p i0 0]], .lp .ready .n (foldFr h.length i1 i2 i0) [10, 11] fA fB] ++ List.replicate 1 .dead := by
      rw [List.append_assoc]
      rfl
    rw [e]
    refine Bt.trans (Bt.wk ?_) (Bt.pad _ _ 1)
    simp only [walkW, ld_own, lda_own, st_own, sta_own, len_app, if_true, if_false, reduceIte, Nat.reduceAdd, Nat.reduceSub, Nat.reduceLeDiff, Nat.reduceEqDiff, Nat.reduceMul, Nat.reduceLT, Int.reduceLT, Int.reduceLE, Int.reduceEq, rsl_get, srcV_own]
  · simp only [foldL, foldFr, walkW, ld_own, lda_own, st_own, sta_own, len_app, if_true, if_false, reduceIte, Nat.reduceAdd, Nat.reduceSub, Nat.reduceLeDiff, Nat.reduceEqDiff, Nat.reduceMul, Nat.reduceLT, Int.reduceLT, Int.reduceLE, Int.reduceEq, rsl_get, srcV_own, f1, f2, f3, f4]
    refine ⟨fun g1 => ?_, fun g1 => ?_⟩
    · have e1 : IntKind.i64.wrap ((i : Int) + 1) = ((i + 1 : Nat) : Int) := wrap_in (by unfold In64; omega)
      have e2 := fun a b m => roundT_eq h i1 i2 i0 a b m (jn xs ys i) (by rw [jn_len]; omega)
      simp only [foldL, foldFr, roundR, lapp_cons, lapp_nil] at e2
      simp only [walkW, walkD, ld_own, lda_own, st_own, sta_own, len_app, if_true, if_false, reduceIte, Nat.reduceAdd, Nat.reduceSub, Nat.reduceLeDiff, Nat.reduceEqDiff, Nat.reduceMul, Nat.reduceLT, Int.reduceLT, Int.reduceLE, Int.reduceEq, rsl_get, srcV_own, merge_own, drop_own, getD_own, CO.tmps, Opd.tmps, optT, Nat.reducePow, Nat.reduceDiv, Nat.reduceMod, f0, f1, f2, f3, f4, T_At, e1, e2, HOk_own hh, mask_own hz]
      refine ⟨i + 1, by omega, by dsimp only; omega, ?_⟩
      have s1 : ∀ sel, selN h.length sel i1 = i1 := fun sel => selN_old (rdBlk_lt (bxS_rd h1))
      have s2 : ∀ sel, selN h.length sel i2 = i2 := fun sel => selN_old (rdBlk_lt (bxS_rd h2))
      have s0 : ∀ sel, selN h.length sel i0 = i0 := fun sel => selN_old (rdBlk_lt hb)
      have q1 : decide (i1 < h.length + 4) = true := decide_eq_true (by have := rdBlk_lt (bxS_rd h1); omega)
      have q2 : decide (i2 < h.length + 4) = true := decide_eq_true (by have := rdBlk_lt (bxS_rd h2); omega)
      have q0 : decide (i0 < h.length + 4) = true := decide_eq_true (by have := rdBlk_lt hb; omega)
      refine Bt.selL 3 [0, 1, 2, 5] hh (by decide) (by decide) (by decide) (by decide) ?_ ?_
      · simp only [jn_succ, apS_snoc, resB_snoc, jn_len]
        simp only [walkS, FrSel, BlkSel, AV.ren, renL, AV.ok, okL, Option.some.injEq, exists_eq_left', List.length_cons, List.length_nil, Nat.reduceAdd, Nat.reduceLT, reduceCtorEq, implies_true, exists_eq', s0, s1, s2, q0, q1, q2]
      · simp only [walkS, FrSel, BlkSel, AV.ren, renL, AV.ok, okL, Option.some.injEq, exists_eq_left', List.length_cons, List.length_nil, Nat.reduceAdd, Nat.reduceLT, reduceCtorEq, implies_true, exists_eq', s0, s1, s2, q0, q1, q2]
    · have : i = max xs.length ys.length := by omega
      subst this
      exact Bt.refl _ _ _
/-- vector.Join -/
def vjoin (xs ys : List Int) : List Int := jn xs ys (max xs.length ys.length)
noncomputable def T_foldL : List AV → List AB → Option (AV × List AB)
  | [.f (.func 96) [] [.p i1 0, .p i2 0], .ns, .f (.func 98) [] [.p i0 0]], h => match rdBlk h i0 with
    | some [.f (.func 82) [] []] => (bxS h i1).bind fun sv => (bxS h i2).bind fun sw => (getS intR h sv).bind fun xs => (getS intR h sw).bind fun ys =>
        if xs.length ≤ 1000000 ∧ ys.length ≤ 1000000 then some (rsl intR h.length (vjoin xs ys), h ++ [resB intR true (vjoin xs ys)]) else none
    | _ => none
  | _, _ => none
theorem foldL_spec : Spec Try.prog 97 T_foldL := by
  intro args h v h' e
  unfold T_foldL at e
  split at e
  · rename_i i1 i2 i0
    split at e
    · rename_i hb
      obtain ⟨sv, h1, e⟩ := Option.bind_eq_some_iff.1 e
      obtain ⟨sw, h2, e⟩ := Option.bind_eq_some_iff.1 e
      obtain ⟨xs, hx, e⟩ := getS_bind e
      obtain ⟨ys, hy, e⟩ := getS_bind e
      split at e
      · rename_i hl
        cases e
        refine FnAt.c (FnAt.frz fun hz => ?_)
        rw [show h.length = (h.map AB.freeze).length from (List.length_map _).symm]
        replace hx := hx.frz
        replace hy := hy.frz
        rw [← rdBlk_frz] at hb
        rw [← bxS_frz] at h1 h2
        generalize h.map AB.freeze = h at *
        refine FnAt.run (by kernel_rfl) (T := ⟨[], []⟩) ⟨trivial, trivial⟩ Try.func97 sw97 fun ho hh => ?_
        unfold w97
        simp only [rep_0, rep_s, walkW, ld_own, lda_own, st_own, sta_own, len_app, if_true, if_false, reduceIte, Nat.reduceAdd, Nat.reduceSub, Nat.reduceLeDiff, Nat.reduceEqDiff, Nat.reduceMul, Nat.reduceLT, Int.reduceLT, Int.reduceLE, Int.reduceEq, rsl_get, srcV_own]
        refine W_rf rfl (by simp only [walkW, ld_own, lda_own, st_own, sta_own, len_app, if_true, if_false, reduceIte, Nat.reduceAdd, Nat.reduceSub, Nat.reduceLeDiff, Nat.reduceEqDiff, Nat.reduceMul, Nat.reduceLT, Int.reduceLT, Int.reduceLE, Int.reduceEq, rsl_get, srcV_own]) rfl (by simp only [walkW, ld_own, lda_own, st_own, sta_own, len_app, if_true, if_false, reduceIte, Nat.reduceAdd, Nat.reduceSub, Nat.reduceLeDiff, Nat.reduceEqDiff, Nat.reduceMul, Nat.reduceLT, Int.reduceLT, Int.reduceLE, Int.reduceEq, rsl_get, srcV_own]; rfl) (sides_fold h hz hh i1 i2 i0 sv sw xs ys hb h1 h2 hx hy hl) (by rw [own_at]; rfl) (by decide) ?_
        simp only [foldL, foldFr, walkW, ld_own, lda_own, st_own, sta_own, len_app, if_true, if_false, reduceIte, Nat.reduceAdd, Nat.reduceSub, Nat.reduceLeDiff, Nat.reduceEqDiff, Nat.reduceMul, Nat.reduceLT, Int.reduceLT, Int.reduceLE, Int.reduceEq, rsl_get, srcV_own]
        exact Bt.oneA 3 hh rfl
      · cases e
    · cases e
  · cases e
def T_sides : List AV → List AB → Option (AV × List AB)
  | [a, b], h => if a.isSl = true ∧ b.isSl = true then some (.f (.func 96) [] [.p (h.length + 0) 0, .p (h.length + 1) 0], h ++ [.blk false true [a], .blk false true [b]]) else none
  | _, _ => none
theorem sides_spec : Spec Try.prog 79 T_sides := by
  intro args h v h' e
  unfold T_sides at e
  split at e
  · rename_i a b
    split at e
    · rename_i hs
      cases e
      refine FnAt.c (FnAt.run (by kernel_rfl) (T := ⟨[], []⟩) ⟨trivial, trivial⟩ Try.func79 sw79 fun ho hh => ?_)
      unfold w79
      simp only [rep_0, rep_s, walkW, ld_own, lda_own, st_own, sta_own, len_app, if_true, if_false, reduceIte, Nat.reduceAdd, Nat.reduceSub, Nat.reduceLeDiff, Nat.reduceEqDiff, Nat.reduceMul, Nat.reduceLT, Int.reduceLT, Int.reduceLE, Int.reduceEq, rsl_get, srcV_own, sl_one hs.1, sl_one hs.2, sl_cells hs.1, sl_cells hs.2]
      exact Bt.eq rfl rfl
    · cases e
  · cases e
noncomputable def T_Join : List AV → List AB → Option (AV × List AB)
  | [a, b], h => (getS intR h a).bind fun xs => (getS intR h b).bind fun ys => if xs.length ≤ 1000000 ∧ ys.length ≤ 1000000 then some (rsl intR h.length (vjoin xs ys), h ++ [resB intR true (vjoin xs ys)]) else none
  | _, _ => none
noncomputable def T_pickedJ : List AV → List AB → Option (AV × List AB)
  | [a, b, .f (.func 82) [] []], h => T_Join [a, b] h
  | _, _ => none
theorem pickedJ_spec : Spec Try.prog 81 T_pickedJ := by
  intro args h v h' e
  unfold T_pickedJ at e
  split at e
  · rename_i a b
    unfold T_Join at e
    obtain ⟨xs, hx, e⟩ := getS_bind e
    obtain ⟨ys, hy, e⟩ := getS_bind e
    split at e
    · rename_i hl
      cases e
      refine FnAt.c (FnAt.run (by kernel_rfl) (T := ⟨[⟨79, T_sides, fun _ => []⟩, ⟨97, T_foldL, fun _ => []⟩], []⟩) ⟨⟨sides_spec, foldL_spec, trivial⟩, trivial⟩ Try.func81 sw81 fun ho hh => ?_)
      simp only [okL_cons, Bool.and_eq_true] at ho
      have f1 := hx.fx ho.1 (sz := 1) rfl
      have f2 := hy.fx ho.2.1 (sz := 1) rfl
      unfold w81
      simp only [rep_0, rep_s, walkW, ld_own, lda_own, st_own, sta_own, len_app, if_true, if_false, reduceIte, Nat.reduceAdd, Nat.reduceSub, Nat.reduceLeDiff, Nat.reduceEqDiff, Nat.reduceMul, Nat.reduceLT, Int.reduceLT, Int.reduceLE, Int.reduceEq, rsl_get, srcV_own, T_sides, T_foldL, f1, f2, hx.isSl, hy.isSl, hl]
      exact Bt.oneR 3 hh rfl
    · cases e
  · cases e
theorem Join_spec : Spec Try.prog 63 T_Join := by
  intro args h v h' e
  unfold T_Join at e
  split at e
  · rename_i a b
    obtain ⟨xs, hx, e⟩ := getS_bind e
    obtain ⟨ys, hy, e⟩ := getS_bind e
    split at e
    · rename_i hl
      cases e
      refine FnAt.c (FnAt.run (by kernel_rfl) (T := ⟨[⟨81, T_pickedJ, fun _ => []⟩], []⟩) ⟨⟨pickedJ_spec, trivial⟩, trivial⟩ Try.func63 sw63 fun ho hh => ?_)
      simp only [okL_cons, Bool.and_eq_true] at ho
      have f1 := hx.fx ho.1 (sz := 1) rfl
      have f2 := hy.fx ho.2.1 (sz := 1) rfl
      unfold w63
      simp only [rep_0, rep_s, walkW, ld_own, lda_own, st_own, sta_own, len_app, if_true, if_false, reduceIte, Nat.reduceAdd, Nat.reduceSub, Nat.reduceLeDiff, Nat.reduceEqDiff, Nat.reduceMul, Nat.reduceLT, Int.reduceLT, Int.reduceLE, Int.reduceEq, rsl_get, srcV_own, T_pickedJ, T_Join, f1, f2, hl]
      exact Bt.oneR 0 hh rfl
    · cases e
  · cases e
end Go.Proofs.Ytnnkfhlmkaobfaa
end
section
namespace Go.Proofs.Ytnnkfhlmkaobfaa
set_option maxRecDepth 100000
set_option linter.unusedSimpArgs false
/-- vector.Has -/
def vHasP (xs : List Int) (d : Int × Int) : Prop := 1 ≤ d.1 ∧ 1 ≤ d.2 ∧ d.2 ≤ vAt xs d.1
instance (xs : List Int) (d : Int × Int) : Decidable (vHasP xs d) := by unfold vHasP; infer_instance
noncomputable def T_vHas : List AV → List AB → Option (AV × List AB)
  | [s, .ag [.i .i64 a, .i .i64 b]], h => (getS intR h s).bind fun xs => some (.b (decide (vHasP xs (a, b))), h)
  | _, _ => none
theorem vHas_spec : Spec Try.prog 66 T_vHas := by
  intro args h v h' e
  unfold T_vHas at e
  split at e
  · rename_i s a b
    obtain ⟨xs, hx, e⟩ := getS_bind e
    cases e
    refine FnAt.c (FnAt.frz0 fun hz => ?_)
    replace hx := hx.frz
    generalize h.map AB.freeze = h at *
    refine FnAt.run (by kernel_rfl) (T := ⟨[⟨44, T_At, fun _ => []⟩], []⟩) ⟨⟨at_spec, trivial⟩, trivial⟩ Try.func66 sw66 fun ho hh => ?_
    simp only [okL_cons, Bool.and_eq_true] at ho
    have f1 := hx.fx ho.1 (sz := 1) rfl
    unfold w66
    simp only [rep_0, rep_s, walkW, walkD, ld_own, lda_own, st_own, sta_own, len_app, if_true, if_false, reduceIte, Nat.reduceAdd, Nat.reduceSub, Nat.reduceLeDiff, Nat.reduceEqDiff, Nat.reduceMul, Nat.reduceLT, Int.reduceLT, Int.reduceLE, Int.reduceEq, rsl_get, srcV_own, merge_own, drop_own, getD_own, CO.tmps, Opd.tmps, optT, Nat.reducePow, Nat.reduceDiv, Nat.reduceMod, T_At, f1, HOk_own hh, mask_own hz]
    refine ⟨fun h1 => ⟨fun h2 => ?_, fun h2 => ?_⟩, fun h1 => ?_⟩ <;> exact Bt.dropB _ hh (by simp [vHasP, *])
  · cases e
/-- vector.With -/
def vwith (xs : List Int) (d : Int × Int) : List Int :=
  if d.1 < 1 ∨ 16 < d.1 ∨ d.2 < 1 ∨ d.2 ≤ vAt xs d.1 then vjoin xs [] else vjoin xs ((List.replicate d.1.toNat 0).set (d.1 - 1).toNat d.2)
noncomputable def T_With : List AV → List AB → Option (AV × List AB)
  | [s, .ag [.i .i64 a, .i .i64 b]], h => (getS intR h s).bind fun xs => if xs.length ≤ 1000000 then some (rsl intR h.length (vwith xs (a, b)), h ++ [resB intR true (vwith xs (a, b))]) else none
  | _, _ => none
theorem With_spec : Spec Try.prog 64 T_With := by
  intro args h v h' e
  unfold T_With at e
  split at e
  · rename_i s a b
    obtain ⟨xs, hx, e⟩ := getS_bind e
    split at e
    · rename_i hl
      cases e
      refine FnAt.c (FnAt.frz fun hz => ?_)
      rw [show h.length = (h.map AB.freeze).length from (List.length_map _).symm]
      replace hx := hx.frz
      generalize h.map AB.freeze = h at *
      refine FnAt.run (by kernel_rfl) (T := ⟨[⟨44, T_At, fun _ => []⟩, ⟨63, T_Join, fun _ => []⟩], []⟩) ⟨⟨at_spec, Join_spec, trivial⟩, trivial⟩ Try.func64 sw64 fun ho hh => ?_
      simp only [okL_cons, Bool.and_eq_true] at ho
      have f1 := hx.fx ho.1 (sz := 1) rfl
      unfold w64
      simp only [rep_0, rep_s, walkW, walkD, ld_own, lda_own, st_own, sta_own, len_app, if_true, if_false, reduceIte, Nat.reduceAdd, Nat.reduceSub, Nat.reduceLeDiff, Nat.reduceEqDiff, Nat.reduceMul, Nat.reduceLT, Int.reduceLT, Int.reduceLE, Int.reduceEq, rsl_get, srcV_own, merge_own, drop_own, getD_own, CO.tmps, Opd.tmps, optT, Nat.reducePow, Nat.reduceDiv, Nat.reduceMod, T_At, T_Join, f1, hl, HOk_own hh, mask_own hz]
      have g : ∀ (_ : a < 1 ∨ 16 < a ∨ b < 1 ∨ b ≤ vAt xs a), ([] : List Int).length ≤ 1000000 ∧ Bt Try.prog h.length [rsl intR (h.length + 1) (vjoin xs [])] (h ++ [AB.blk true true [AV.i IntKind.i64 a, AV.i IntKind.i64 b], resB intR true (vjoin xs [])]) [rsl intR h.length (vwith xs (a, b))] (h ++ [resB intR true (vwith xs (a, b))]) := fun q => by
        have : vwith xs (a, b) = vjoin xs [] := by unfold vwith; rw [if_pos q]
        rw [this]
        exact ⟨by decide, Bt.oneR 1 hh rfl⟩
      refine ⟨fun q => g (.inl q), fun q1 => ⟨fun q => g (.inr (.inl q)), fun q2 => ⟨fun q => g (.inr (.inr (.inl q))), fun q3 => ⟨fun q => g (.inr (.inr (.inr q))), fun q4 => ?_⟩⟩⟩⟩
      have c1 : (List.replicate a.toNat [AV.i .i64 0]).flatten = intR.cells (List.replicate a.toNat 0) := cells_rep intR a.toNat 0
      have c2 : (0 ≤ a ∧ a ≤ a ∧ 8 * a ≤ 2 ^ 47 ∧ a ≤ (maxLen : Int)) = True := eq_true ⟨by omega, by omega, by omega, by unfold maxLen; omega⟩
      have c3 : IntKind.i64.wrap (a - 1) = a - 1 := wrap_in (by unfold In64; omega)
      have c4 : (0 ≤ a - 1 ∧ a - 1 < (a.toNat : Int)) = True := eq_true (by omega)
      have c5 : over (intR.cells (List.replicate a.toNat 0)) (0 + (a - 1).toNat * 1) [AV.i .i64 b] = intR.cells ((List.replicate a.toNat 0).set (a - 1).toNat b) := by
        rw [Nat.zero_add, Nat.mul_one]
        exact over_int _ _ _ (by rw [List.length_replicate]; omega)
      have c6 : (0 + ((a - 1).toNat * 1 + 1) ≤ (intR.cells (List.replicate a.toNat 0)).length) = True := eq_true (by rw [Row.cells_len, List.length_replicate, intR_sz]; omega)
      have c7 : ((List.replicate a.toNat (0 : Int)).set (a - 1).toNat b).length = a.toNat := by simp
      have c8 : ∀ L : List AB, ownC L 1 = some (intR.cells ((List.replicate a.toNat (0 : Int)).set (a - 1).toNat b)) → getS intR (h ++ L) (.sl (h.length + 1) 0 a.toNat a.toNat none) = some ((List.replicate a.toNat (0 : Int)).set (a - 1).toNat b) := fun L hL => by
        have := Rd_own (h := h) (c := a.toNat) (kk := none) hL (by rw [c7]; unfold maxLen; omega)
        rw [c7] at this
        exact this.get
      have c9 : (a.toNat ≤ 1000000) = True := eq_true (by omega)
      simp only [walkW, ld_own, lda_own, st_own, sta_own, len_app, if_true, if_false, reduceIte, Nat.reduceAdd, Nat.reduceSub, Nat.reduceLeDiff, Nat.reduceEqDiff, Nat.reduceMul, Nat.reduceLT, Int.reduceLT, Int.reduceLE, Int.reduceEq, rsl_get, srcV_own, c1, c2, c3, c4, c5, c6, c7, c8, c9, T_Join, f1, hl]
      have : vwith xs (a, b) = vjoin xs ((List.replicate a.toNat 0).set (a - 1).toNat b) := by unfold vwith; rw [if_neg (by simp only; omega)]
      rw [this]
      exact Bt.oneR 2 hh rfl
    · cases e
  · cases e
end Go.Proofs.Ytnnkfhlmkaobfaa
end
section
namespace Go.Proofs.Ytnnkfhlmkaobfaa
theorem jn_get (xs ys : List Int) (n i : Nat) (hi : i < n) : (jn xs ys n).getD i 0 = max (vAt xs ((i + 1 : Nat) : Int)) (vAt ys ((i + 1 : Nat) : Int)) := by
  simp [jn, List.getD_eq_getElem?_getD, List.getElem?_range hi]
theorem vAt_ge (xs : List Int) (r : Int) : 0 ≤ vAt xs r := by unfold vAt; split <;> (try split) <;> omega
theorem vAt_out (xs : List Int) (r : Int) (h : r < 1 ∨ (xs.length : Int) < r) : vAt xs r = 0 := by
  unfold vAt
  by_cases h1 : r < 1
  · rw [if_pos h1]
  · rw [if_neg h1, if_pos (by omega)]
theorem vAt_in (xs : List Int) (i : Nat) (h : i < xs.length) : vAt xs ((i + 1 : Nat) : Int) = max (xs.getD i 0) 0 := by
  unfold vAt
  rw [if_neg (by omega), if_neg (by omega)]
  rw [show (((i + 1 : Nat) : Int) - 1).toNat = i by omega]
theorem vjoin_len (xs ys : List Int) : (vjoin xs ys).length = max xs.length ys.length := jn_len _ _ _
theorem vAt_vjoin (xs ys : List Int) (r : Int) : vAt (vjoin xs ys) r = max (vAt xs r) (vAt ys r) := by
  by_cases h : r < 1 ∨ (((max xs.length ys.length : Nat) : Int) < r)
  · rw [vAt_out _ _ (by rw [vjoin_len]; exact h), vAt_out xs r (by omega), vAt_out ys r (by omega)]
    rfl
  · obtain ⟨i, rfl⟩ : ∃ i : Nat, r = ((i + 1 : Nat) : Int) := ⟨(r - 1).toNat, by omega⟩
    rw [vAt_in _ i (by rw [vjoin_len]; omega)]
    unfold vjoin
    rw [jn_get _ _ _ _ (by omega)]
    have := vAt_ge xs ((i + 1 : Nat) : Int)
    omega
theorem vwith_len (xs : List Int) (d : Int × Int) : (vwith xs d).length ≤ max xs.length 16 := by
  unfold vwith
  split
  · rw [vjoin_len]; simp; omega
  · rename_i h
    rw [vjoin_len]
    simp only [List.length_set, List.length_replicate]
    omega
theorem vAt_nil (r : Int) : vAt [] r = 0 := vAt_out [] r (by simp; omega)
/-- A dot that is the next one, or beyond. -/
theorem vAt_vwith (xs : List Int) {d : Int × Int} (hd : dottedP d) (hn : vAt xs d.1 < d.2) (r : Int) : vAt (vwith xs d) r = if r = d.1 then d.2 else vAt xs r := by
  obtain ⟨a, b⟩ := d
  obtain ⟨h1, h2, h3, h4⟩ := hd
  simp only at h1 h2 h3 h4 hn ⊢
  unfold vwith
  rw [if_neg (by simp only; omega), vAt_vjoin]
  obtain ⟨i, rfl⟩ : ∃ i : Nat, a = ((i + 1 : Nat) : Int) := ⟨(a - 1).toNat, by omega⟩
  have e1 : ((i + 1 : Nat) : Int).toNat = i + 1 := by omega
  have e2 : (((i + 1 : Nat) : Int) - 1).toNat = i := by omega
  rw [e1, e2]
  by_cases h : r = ((i + 1 : Nat) : Int)
  · subst h
    have e3 : vAt ((List.replicate (i + 1) (0 : Int)).set i b) ((i + 1 : Nat) : Int) = b := by
      rw [vAt_in _ i (by simp), List.getD_eq_getElem?_getD, List.getElem?_set_self (by simp), Option.getD_some]
      omega
    rw [if_pos rfl, e3]
    omega
  · rw [if_neg h]
    have : vAt ((List.replicate (i + 1) (0 : Int)).set i b) r = 0 := by
      by_cases ho : r < 1 ∨ (((i + 1 : Nat) : Int) < r)
      · exact vAt_out _ _ (by simpa using ho)
      · obtain ⟨k, rfl⟩ : ∃ k : Nat, r = ((k + 1 : Nat) : Int) := ⟨(r - 1).toNat, by omega⟩
        rw [vAt_in _ k (by simp; omega)]
        simp only [List.getD_eq_getElem?_getD]
        rw [List.getElem?_set_ne (by omega), List.getElem?_replicate]
        split <;> simp
    rw [this]
    have := vAt_ge xs r
    omega
abbrev AbS := List Int × Dots
/-- A dot taken up: left out, laid to the vector, or behind the dots. -/
def absD (s : AbS) (d : Int × Int) : AbS :=
  if d.2 ≤ vAt s.1 d.1 then s else if d.2 = vAt s.1 d.1 + 1 then (vwith s.1 d, s.2) else if s.2.length = 0 ∨ s.2.getD (s.2.length - 1) dotR.d ≠ d then (s.1, s.2 ++ [d]) else s
def absR (s : AbS) (l : Dots) : AbS := l.foldl absD s
theorem absR_take (s : AbS) {l : Dots} {i : Nat} (hi : i < l.length) : absR s (l.take (i + 1)) = absD (absR s (l.take i)) (l.getD i dotR.d) := by
  unfold absR
  rw [List.take_succ_eq_append_getElem hi, List.foldl_append, List.getD_eq_getElem?_getD, List.getElem?_eq_getElem hi]
  rfl
theorem absD_len (s : AbS) (d : Int × Int) : (absD s d).1.length ≤ max s.1.length 16 ∧ (absD s d).2.length ≤ s.2.length + 1 := by
  unfold absD
  split
  · omega
  · split
    · exact ⟨vwith_len s.1 d, by simp⟩
    · split
      · exact ⟨by simp only; omega, by simp⟩
      · omega
theorem absD_ge (s : AbS) {d : Int × Int} (hd : dottedP d) (r : Int) : vAt s.1 r ≤ vAt (absD s d).1 r := by
  unfold absD
  split
  · omega
  · split
    · rename_i h1 h2
      rw [vAt_vwith s.1 hd (by omega)]
      split
      · rename_i h3; subst h3; omega
      · omega
    · split <;> simp
theorem eqc2 (w d : Int × Int) : eqCells [.i, .i] [.i .i64 w.1, .i .i64 w.2] [.i .i64 d.1, .i .i64 d.2] = some (decide (w = d)) := by
  obtain ⟨a, b⟩ := w
  obtain ⟨c, d⟩ := d
  simp only [eqCells, eqCell, Option.bind_some, Option.map_some, Prod.mk.injEq, if_true, Bool.and_true, Bool.decide_and]
  by_cases h1 : a = c <;> by_cases h2 : b = d <;> simp [h1, h2]
theorem idOf_elr {α : Type} {r : Row α} (sz id n j : Nat) (l : List α) : idOf (elP sz (rsl r id l) n j) = [id] := by unfold rsl; split <;> rfl
end Go.Proofs.Ytnnkfhlmkaobfaa
end
section
namespace Go.Proofs.Ytnnkfhlmkaobfaa
set_option maxRecDepth 100000
set_option linter.unusedSimpArgs false
theorem rdotted_spec : Spec Try.prog 76 T_dotted := by
  intro args h v h' e
  unfold T_dotted at e
  split at e
  · rename_i a b
    cases e
    refine FnAt.c (FnAt.run (by kernel_rfl) (T := ⟨[], []⟩) ⟨trivial, trivial⟩ Try.func76 sw76 fun ho hh => ?_)
    unfold w76
    simp only [rep_0, rep_s, walkW, ld_own, lda_own, st_own, sta_own, len_app, if_true, if_false, reduceIte, Nat.reduceAdd, Nat.reduceSub, Nat.reduceLeDiff, Nat.reduceEqDiff, Nat.reduceMul, Nat.reduceLT, Int.reduceLT, Int.reduceLE, Int.reduceEq, rsl_get, srcV_own]
    refine ⟨fun h1 => ⟨fun h2 => ⟨fun h3 => ?_, fun h3 => ?_⟩, fun h2 => ?_⟩, fun h1 => ?_⟩ <;> exact Bt.dropB _ hh (by simp [dottedP, *])
  · cases e
/-- The order of dots. -/
def lessD (a b : Int × Int) : Prop := a.1 < b.1 ∨ a.1 = b.1 ∧ a.2 < b.2
instance (a b : Int × Int) : Decidable (lessD a b) := by unfold lessD; infer_instance
def T_less : List AV → List AB → Option (AV × List AB)
  | [.ag [.i .i64 a, .i .i64 b], .ag [.i .i64 c, .i .i64 d]], h => some (.b (decide (lessD (a, b) (c, d))), h)
  | _, _ => none
theorem less_spec : Spec Try.prog 95 T_less := by
  intro args h v h' e
  unfold T_less at e
  split at e
  · rename_i a b c d
    cases e
    refine FnAt.c (FnAt.run (by kernel_rfl) (T := ⟨[], []⟩) ⟨trivial, trivial⟩ Try.func95 sw95 fun ho hh => ?_)
    unfold w95
    simp only [rep_0, rep_s, walkW, ld_own, lda_own, st_own, sta_own, len_app, if_true, if_false, reduceIte, Nat.reduceAdd, Nat.reduceSub, Nat.reduceLeDiff, Nat.reduceEqDiff, Nat.reduceMul, Nat.reduceLT, Int.reduceLT, Int.reduceLE, Int.reduceEq, rsl_get, srcV_own]
    refine ⟨fun h1 => ?_, fun h1 => ⟨fun h2 => ?_, fun h2 => ?_⟩⟩ <;> exact Bt.dropB _ hh (by simp [lessD, *])
  · cases e
theorem all_take {α : Type} (P : α → Prop) (l : List α) (i : Nat) (hi : i < l.length) (d : α) : (∀ x ∈ l.take (i + 1), P x) ↔ (∀ x ∈ l.take i, P x) ∧ P (l.getD i d) := by
  rw [List.take_succ_eq_append_getElem hi, List.getD_eq_getElem?_getD, List.getElem?_eq_getElem hi]
  simp only [List.mem_append, List.mem_singleton, Option.getD_some]
  exact ⟨fun h => ⟨fun x hx => h x (.inl hx), h _ (.inr rfl)⟩, fun h x hx => hx.elim (h.1 x) fun e => e ▸ h.2⟩
/-- The vector's first i in range. -/
def rgP (vs : List Int) (i : Nat) : Prop := (vs.length : Int) ≤ 16 ∧ ∀ n ∈ vs.take i, 0 ≤ n ∧ n ≤ 1048576
instance (vs : List Int) (i : Nat) : Decidable (rgP vs i) := by unfold rgP; infer_instance
theorem rgP_0 (vs : List Int) : decide (rgP vs 0) = decide ((vs.length : Int) ≤ 16) := by simp [rgP]
theorem rgP_s (vs : List Int) {i : Nat} (hi : i < vs.length) (h : rgP vs i) : rgP vs (i + 1) ↔ 0 ≤ vs.getD i 0 ∧ vs.getD i 0 ≤ 1048576 := by
  have := all_take (fun n => 0 ≤ n ∧ n ≤ 1048576) vs i hi 0
  exact ⟨fun q => (this.1 q.2).2, fun q => ⟨h.1, this.2 ⟨h.2, q⟩⟩⟩
/-- And the first j dots. -/
def rgQ (vs : List Int) (l : Dots) (j : Nat) : Prop := rgP vs vs.length ∧ ∀ d ∈ l.take j, dottedP d
instance (vs : List Int) (l : Dots) (j : Nat) : Decidable (rgQ vs l j) := by unfold rgQ; infer_instance
theorem rgQ_0 (vs : List Int) (l : Dots) : decide (rgQ vs l 0) = decide (rgP vs vs.length) := by simp [rgQ]
theorem rgQ_s (vs : List Int) {l : Dots} {j : Nat} (hj : j < l.length) (h : rgQ vs l j) : rgQ vs l (j + 1) ↔ dottedP ((l.getD j dotR.d).1, (l.getD j dotR.d).2) := by
  have := all_take dottedP l j hj dotR.d
  exact ⟨fun q => (this.1 q.2).2, fun q => ⟨h.1, this.2 ⟨h.2, q⟩⟩⟩
theorem rgQ_all (vs : List Int) (l : Dots) : rgQ vs l l.length ↔ rangedP vs l := by
  unfold rgQ rgP rangedP
  rw [List.take_length, List.take_length]
  exact ⟨fun q => ⟨by omega, q.1.2, q.2⟩, fun q => ⟨⟨by omega, q.2.1⟩, q.2.2⟩⟩
theorem rranged_spec : Spec Try.prog 55 T_ranged := by
  intro args h v h' e
  unfold T_ranged at e
  split at e
  · rename_i s t
    obtain ⟨vs, hs, e⟩ := getS_bind e
    obtain ⟨l, ht, e⟩ := getS_bind e
    cases e
    refine FnAt.c (FnAt.run (by kernel_rfl) (T := ⟨[⟨76, T_dotted, fun _ => []⟩], []⟩) ⟨⟨rdotted_spec, trivial⟩, trivial⟩ Try.func55 sw55 fun ho hh => ?_)
    simp only [okL_cons, Bool.and_eq_true] at ho
    have f1 := hs.fx ho.1 (sz := 1) rfl
    have f2 := ht.fx ho.2.1 (sz := 2) rfl
    unfold w55
    simp only [rep_0, rep_s, walkW, ld_own, lda_own, st_own, sta_own, len_app, if_true, if_false, reduceIte, Nat.reduceAdd, Nat.reduceSub, Nat.reduceLeDiff, Nat.reduceEqDiff, Nat.reduceMul, Nat.reduceLT, Int.reduceLT, Int.reduceLE, Int.reduceEq, rsl_get, srcV_own, f1, f2]
    have hm : vs.length ≤ maxLen := hs.2
    have hm2 : l.length ≤ maxLen := ht.2
    unfold maxLen at hm hm2
    refine W_loopF (S := Nat) (fun i => vs.length - i) (fun i => [s, t] ++ tp 3 ++ [.b (decide (rgP vs i)), .i .i64 i] ++ tp 40) (fun i => i ≤ vs.length) 0 (Nat.zero_le _) (by simp only [walkW, ld_own, lda_own, st_own, sta_own, len_app, if_true, if_false, reduceIte, Nat.reduceAdd, Nat.reduceSub, Nat.reduceLeDiff, Nat.reduceEqDiff, Nat.reduceMul, Nat.reduceLT, Int.reduceLT, Int.reduceLE, Int.reduceEq, rsl_get, srcV_own, rgP_0]) fun i hi => ?_
    simp only [walkW, ld_own, lda_own, st_own, sta_own, len_app, if_true, if_false, reduceIte, Nat.reduceAdd, Nat.reduceSub, Nat.reduceLeDiff, Nat.reduceEqDiff, Nat.reduceMul, Nat.reduceLT, Int.reduceLT, Int.reduceLE, Int.reduceEq, rsl_get, srcV_own, f1, f2]
    refine ⟨fun h1 => ⟨fun h2 => ?_, fun h2 => ?_⟩, fun h1 => ?_⟩
    · have e1 : IntKind.i64.wrap ((i : Int) + 1) = ((i + 1 : Nat) : Int) := wrap_in (by unfold In64; omega)
      simp only [walkW, ld_own, lda_own, st_own, sta_own, len_app, if_true, if_false, reduceIte, Nat.reduceAdd, Nat.reduceSub, Nat.reduceLeDiff, Nat.reduceEqDiff, Nat.reduceMul, Nat.reduceLT, Int.reduceLT, Int.reduceLE, Int.reduceEq, rsl_get, srcV_own, f1, h1, intR_f, e1]
      have hst := rgP_s vs h1 h2
      rw [show intR.d = (0 : Int) from rfl]
      refine ⟨fun g1 => ⟨i + 1, h1, by omega, ?_, Wk.refl _⟩, fun g1 => ⟨i + 1, h1, by omega, ?_, Wk.refl _⟩⟩
      · rw [decide_eq_decide.2 (show rgP vs (i + 1) ↔ vs.getD i 0 ≤ 1048576 from hst.trans ⟨fun q => q.2, fun q => ⟨g1, q⟩⟩)]
        exact Wk.refl _
      · rw [decide_eq_false (fun q => g1 (hst.1 q).1)]
        exact Wk.refl _
    · have hq : rgP vs i ↔ rgP vs vs.length := ⟨fun q => absurd q h2, fun q => absurd ⟨q.1, fun n hn => q.2 n (by rw [List.take_length]; exact List.mem_of_mem_take hn)⟩ h2⟩
      refine W_loopF (S := Nat) (fun j => l.length - j) (fun j => tp 1 ++ [t] ++ tp 3 ++ [.b (decide (rgQ vs l j))] ++ tp 1 ++ [.i .i64 j] ++ tp 39) (fun j => j ≤ l.length) 0 (Nat.zero_le _) (by simp only [walkW, ld_own, lda_own, st_own, sta_own, len_app, if_true, if_false, reduceIte, Nat.reduceAdd, Nat.reduceSub, Nat.reduceLeDiff, Nat.reduceEqDiff, Nat.reduceMul, Nat.reduceLT, Int.reduceLT, Int.reduceLE, Int.reduceEq, rsl_get, srcV_own, rgQ_0, decide_eq_decide.2 hq]) fun j hj => ?_
      simp only [walkW, ld_own, lda_own, st_own, sta_own, len_app, if_true, if_false, reduceIte, Nat.reduceAdd, Nat.reduceSub, Nat.reduceLeDiff, Nat.reduceEqDiff, Nat.reduceMul, Nat.reduceLT, Int.reduceLT, Int.reduceLE, Int.reduceEq, rsl_get, srcV_own, f2]
      refine ⟨fun g1 => ⟨fun g2 => ?_, fun g2 => ?_⟩, fun g1 => ?_⟩
      · have e1 : IntKind.i64.wrap ((j : Int) + 1) = ((j + 1 : Nat) : Int) := wrap_in (by unfold In64; omega)
        simp only [walkW, ld_own, lda_own, st_own, sta_own, len_app, if_true, if_false, reduceIte, Nat.reduceAdd, Nat.reduceSub, Nat.reduceLeDiff, Nat.reduceEqDiff, Nat.reduceMul, Nat.reduceLT, Int.reduceLT, Int.reduceLE, Int.reduceEq, rsl_get, srcV_own, f2, g1, dotR_f, T_dotted, e1]
        refine ⟨j + 1, g1, by omega, ?_, Wk.refl _⟩
        rw [decide_eq_decide.2 (rgQ_s vs g1 g2)]
        exact Wk.refl _
      · exact Bt.eq (congrArg AV.b (decide_eq_decide.2 ⟨fun q => absurd q g2, fun q => absurd ((rgQ_all vs l).2 q |>.imp id fun q d hd => q d (by rw [List.take_length]; exact List.mem_of_mem_take hd)) g2⟩)) (List.append_nil h)
      · have : j = l.length := by omega
        subst this
        exact Bt.eq (congrArg AV.b (decide_eq_decide.2 (rgQ_all vs l))) (List.append_nil h)
    · have hq : rgP vs i ↔ rgP vs vs.length := by rw [show i = vs.length from by omega]
      refine W_loopF (S := Nat) (fun j => l.length - j) (fun j => tp 1 ++ [t] ++ tp 3 ++ [.b (decide (rgQ vs l j))] ++ tp 1 ++ [.i .i64 j] ++ tp 39) (fun j => j ≤ l.length) 0 (Nat.zero_le _) (by simp only [walkW, ld_own, lda_own, st_own, sta_own, len_app, if_true, if_false, reduceIte, Nat.reduceAdd, Nat.reduceSub, Nat.reduceLeDiff, Nat.reduceEqDiff, Nat.reduceMul, Nat.reduceLT, Int.reduceLT, Int.reduceLE, Int.reduceEq, rsl_get, srcV_own, rgQ_0, decide_eq_decide.2 hq]) fun j hj => ?_
      simp only [walkW, ld_own, lda_own, st_own, sta_own, len_app, if_true, if_false, reduceIte, Nat.reduceAdd, Nat.reduceSub, Nat.reduceLeDiff, Nat.reduceEqDiff, Nat.reduceMul, Nat.reduceLT, Int.reduceLT, Int.reduceLE, Int.reduceEq, rsl_get, srcV_own, f2]
      refine ⟨fun g1 => ⟨fun g2 => ?_, fun g2 => ?_⟩, fun g1 => ?_⟩
      · have e1 : IntKind.i64.wrap ((j : Int) + 1) = ((j + 1 : Nat) : Int) := wrap_in (by unfold In64; omega)
        simp only [walkW, ld_own, lda_own, st_own, sta_own, len_app, if_true, if_false, reduceIte, Nat.reduceAdd, Nat.reduceSub, Nat.reduceLeDiff, Nat.reduceEqDiff, Nat.reduceMul, Nat.reduceLT, Int.reduceLT, Int.reduceLE, Int.reduceEq, rsl_get, srcV_own, f2, g1, dotR_f, T_dotted, e1]
        refine ⟨j + 1, g1, by omega, ?_, Wk.refl _⟩
        rw [decide_eq_decide.2 (rgQ_s vs g1 g2)]
        exact Wk.refl _
      · exact Bt.eq (congrArg AV.b (decide_eq_decide.2 ⟨fun q => absurd q g2, fun q => absurd ((rgQ_all vs l).2 q |>.imp id fun q d hd => q d (by rw [List.take_length]; exact List.mem_of_mem_take hd)) g2⟩)) (List.append_nil h)
      · have : j = l.length := by omega
        subst this
        exact Bt.eq (congrArg AV.b (decide_eq_decide.2 (rgQ_all vs l))) (List.append_nil h)
  · cases e
end Go.Proofs.Ytnnkfhlmkaobfaa
end
section
namespace Go.Proofs.Ytnnkfhlmkaobfaa
set_option maxRecDepth 100000
set_option maxHeartbeats 4000000
set_option linter.unusedSimpArgs false
/-- Where the search ends. -/
def bsI (l : Dots) (d : Int × Int) (lo hi : Nat) : Nat :=
  if lo < hi then (if cmpD (l.getD ((lo + hi) / 2) dotR.d) d < 0 then bsI l d ((lo + hi) / 2 + 1) hi else bsI l d lo ((lo + hi) / 2)) else lo
termination_by hi - lo
decreasing_by all_goals omega
noncomputable def T_bs : List AV → List AB → Option (AV × List AB)
  | [s, .ag [.i .i64 a, .i .i64 b], .f (.func 54) [] []], h => (getS dotR h s).bind fun l =>
      if l.length ≤ 1000000 then some (.tu [.i .i64 (bsI l (a, b) 0 l.length), .b (decide (bsI l (a, b) 0 l.length < l.length ∧ cmpD (l.getD (bsI l (a, b) 0 l.length) dotR.d) (a, b) = 0))], h) else none
  | _, _ => none
theorem bs_spec : Spec Try.prog 65 T_bs := by
  intro args h v h' e
  unfold T_bs at e
  split at e
  · rename_i s a b
    obtain ⟨l, hs, e⟩ := getS_bind e
    split at e
    · rename_i hl
      cases e
      refine FnAt.c (FnAt.frz0 fun hz => ?_)
      replace hs := hs.frz
      generalize h.map AB.freeze = h at *
      refine FnAt.run (by kernel_rfl) (T := ⟨[⟨54, T_compare, fun _ => []⟩], []⟩) ⟨⟨compare_spec, trivial⟩, trivial⟩ Try.func65 sw65 fun ho hh => ?_
      simp only [okL_cons, Bool.and_eq_true] at ho
      have f1 := hs.fx ho.1 (sz := 2) rfl
      unfold w65
      simp only [rep_0, rep_s, walkW, ld_own, lda_own, st_own, sta_own, len_app, if_true, if_false, reduceIte, Nat.reduceAdd, Nat.reduceSub, Nat.reduceLeDiff, Nat.reduceEqDiff, Nat.reduceMul, Nat.reduceLT, Int.reduceLT, Int.reduceLE, Int.reduceEq, rsl_get, srcV_own, f1]
      refine W_loopF (S := Nat × Nat) (fun x => x.2 - x.1) (fun x => [s] ++ tp 1 ++ [.f (.func 54) [] []] ++ tp 1 ++ [.p (h.length + 0) 0] ++ tp 3 ++ [.i .i64 l.length, .i .i64 x.1, .i .i64 x.2] ++ tp 38) (fun x => x.1 ≤ x.2 ∧ x.2 ≤ l.length ∧ bsI l (a, b) x.1 x.2 = bsI l (a, b) 0 l.length) (0, l.length) ⟨Nat.zero_le _, Nat.le_refl _, rfl⟩ (by simp only [walkW, ld_own, lda_own, st_own, sta_own, len_app, if_true, if_false, reduceIte, Nat.reduceAdd, Nat.reduceSub, Nat.reduceLeDiff, Nat.reduceEqDiff, Nat.reduceMul, Nat.reduceLT, Int.reduceLT, Int.reduceLE, Int.reduceEq, rsl_get, srcV_own]) fun x hx => ?_
      obtain ⟨lo, hi⟩ := x
      obtain ⟨x1, x2, x3⟩ := hx
      dsimp only at x1 x2 x3
      by_cases g : lo < hi
      · have hm : (lo + hi) / 2 < l.length := by omega
        have e1 : IntKind.i64.wrap ((lo : Int) + (hi : Int)) = ((lo + hi : Nat) : Int) := wrap_in (by unfold In64; omega)
        have e2 : IntKind.u64.wrap ((lo + hi : Nat) : Int) = ((lo + hi : Nat) : Int) := by
          have : ((lo + hi : Nat) : Int) % 18446744073709551616 = ((lo + hi : Nat) : Int) := Int.emod_eq_of_lt (by omega) (by omega)
          exact this
        have e3 : ∀ k', binV .shr (.i .u64 ((lo + hi : Nat) : Int)) (.i k' 1) = some (.i .u64 (((lo + hi) / 2 : Nat) : Int)) := fun k' => by
          show (if (1 : Int) < 0 then none else some (AV.i .u64 (Int.fdiv ((lo + hi : Nat) : Int) (2 ^ (min (1 : Int).toNat IntKind.u64.bits))))) = _
          rw [if_neg (by decide), show ((2 : Int) ^ (min (1 : Int).toNat IntKind.u64.bits)) = 2 from by decide, Int.fdiv_eq_ediv_of_nonneg _ (by decide)]
          rfl
        have e4 : IntKind.i64.wrap (((lo + hi) / 2 : Nat) : Int) = (((lo + hi) / 2 : Nat) : Int) := wrap_in (by unfold In64; omega)
        have e5 : IntKind.i64.wrap ((((lo + hi) / 2 : Nat) : Int) + 1) = (((lo + hi) / 2 + 1 : Nat) : Int) := wrap_in (by unfold In64; omega)
        have e6 : ∀ k x, (AV.i k x).int? = some x := fun _ _ => rfl
        simp only [walkW, walkD, ld_own, lda_own, st_own, sta_own, len_app, if_true, if_false, reduceIte, Nat.reduceAdd, Nat.reduceSub, Nat.reduceLeDiff, Nat.reduceEqDiff, Nat.reduceMul, Nat.reduceLT, Int.reduceLT, Int.reduceLE, Int.reduceEq, rsl_get, srcV_own, merge_own, drop_own, getD_own, CO.tmps, Opd.tmps, optT, Nat.reducePow, Nat.reduceDiv, Nat.reduceMod, f1, g, hm, e1, e2, e3, e4, e5, e6, dotR_f, T_compare, pr_eta, mask_own hz, HOk_own hh]
        have x4 : ∀ (_ : True), bsI l (a, b) lo hi = if cmpD (l.getD ((lo + hi) / 2) dotR.d) (a, b) < 0 then bsI l (a, b) ((lo + hi) / 2 + 1) hi else bsI l (a, b) lo ((lo + hi) / 2) := fun _ => by rw [bsI, if_pos g]
        refine ⟨fun q => ⟨((lo + hi) / 2 + 1, hi), ⟨by dsimp only; omega, x2, ?_⟩, by dsimp only; omega, Wk.refl _, Wk.refl _⟩, fun q => ⟨(lo, (lo + hi) / 2), ⟨by dsimp only; omega, by dsimp only; omega, ?_⟩, by dsimp only; omega, Wk.refl _, Wk.refl _⟩⟩
        · rw [← x3, x4 trivial, if_pos q]
        · rw [← x3, x4 trivial, if_neg q]
      · obtain rfl : lo = hi := by omega
        have x4 : bsI l (a, b) 0 l.length = lo := by rw [← x3, bsI, if_neg (Nat.lt_irrefl _)]
        by_cases g2 : lo < l.length
        · simp only [walkW, walkD, ld_own, lda_own, st_own, sta_own, len_app, if_true, if_false, reduceIte, Nat.reduceAdd, Nat.reduceSub, Nat.reduceLeDiff, Nat.reduceEqDiff, Nat.reduceMul, Nat.reduceLT, Int.reduceLT, Int.reduceLE, Int.reduceEq, rsl_get, srcV_own, merge_own, drop_own, getD_own, CO.tmps, Opd.tmps, optT, Nat.reducePow, Nat.reduceDiv, Nat.reduceMod, f1, g, g2, x4, dotR_f, T_compare, pr_eta, mask_own hz, HOk_own hh]
          exact Bt.drop _ hh rfl rfl
        · simp only [walkW, walkD, ld_own, lda_own, st_own, sta_own, len_app, if_true, if_false, reduceIte, Nat.reduceAdd, Nat.reduceSub, Nat.reduceLeDiff, Nat.reduceEqDiff, Nat.reduceMul, Nat.reduceLT, Int.reduceLT, Int.reduceLE, Int.reduceEq, rsl_get, srcV_own, merge_own, drop_own, getD_own, CO.tmps, Opd.tmps, optT, Nat.reducePow, Nat.reduceDiv, Nat.reduceMod, f1, g, g2, x4, dotR_f, T_compare, pr_eta, mask_own hz, HOk_own hh]
          exact Bt.drop _ hh (by rw [decide_eq_false fun q => q.1]) rfl
    · cases e
  · cases e
/-- cloud.has -/
def chasP (v : List Int) (ds : Dots) (d : Int × Int) : Prop := (bsI ds d 0 ds.length < ds.length ∧ cmpD (ds.getD (bsI ds d 0 ds.length) dotR.d) d = 0) ∨ vHasP v d
instance (v : List Int) (ds : Dots) (d : Int × Int) : Decidable (chasP v ds d) := by unfold chasP; infer_instance
noncomputable def T_chas : List AV → List AB → Option (AV × List AB)
  | [.ag [s, t], .ag [.i .i64 a, .i .i64 b]], h => (getS intR h s).bind fun v => (getS dotR h t).bind fun ds => if ds.length ≤ 1000000 then some (.b (decide (chasP v ds (a, b))), h) else none
  | _, _ => none
theorem chas_spec : Spec Try.prog 45 T_chas := by
  intro args h v h' e
  unfold T_chas at e
  split at e
  · rename_i s t a b
    obtain ⟨vs, hs, e⟩ := getS_bind e
    obtain ⟨ds, ht, e⟩ := getS_bind e
    split at e
    · rename_i hl
      cases e
      refine FnAt.c (FnAt.run (by kernel_rfl) (T := ⟨[⟨65, T_bs, fun _ => []⟩, ⟨66, T_vHas, fun _ => []⟩], []⟩) ⟨⟨bs_spec, vHas_spec, trivial⟩, trivial⟩ Try.func45 sw45 fun ho hh => ?_)
      simp only [okL_cons, ok_ag, Bool.and_eq_true] at ho
      have f1 := hs.fx ho.1.1 (sz := 1) rfl
      have f2 := ht.fx ho.1.2.1 (sz := 2) rfl
      unfold w45
      simp only [rep_0, rep_s, walkW, ld_own, lda_own, st_own, sta_own, len_app, if_true, if_false, reduceIte, Nat.reduceAdd, Nat.reduceSub, Nat.reduceLeDiff, Nat.reduceEqDiff, Nat.reduceMul, Nat.reduceLT, Int.reduceLT, Int.reduceLE, Int.reduceEq, rsl_get, srcV_own, f1, f2, T_bs, T_vHas, hl]
      refine ⟨fun q => Bt.dropB _ hh (decide_eq_true (.inl q)).symm, fun q => Bt.dropB _ hh ?_⟩
      exact decide_eq_decide.2 ⟨fun z => .inr z, fun z => z.resolve_left q⟩
    · cases e
  · cases e
end Go.Proofs.Ytnnkfhlmkaobfaa
end
section
namespace Go.Proofs.Ytnnkfhlmkaobfaa
set_option maxRecDepth 100000
set_option maxHeartbeats 4000000
set_option linter.unusedSimpArgs false
/-- A sum that stays under 2^62. -/
def wI (a b : Int) : Int := a + min b (4611686018427387904 - a)
def T_wei : List AV → List AB → Option (AV × List AB)
  | [.i .i64 a, .i .i64 b, _], h => if 0 ≤ a ∧ a ≤ 4611686018427387904 ∧ 0 ≤ b then some (.i .i64 (wI a b), h) else none
  | _, _ => none
theorem wei_spec : Spec Try.prog 80 T_wei := by
  intro args h v h' e
  unfold T_wei at e
  split at e
  · rename_i a b x
    split at e
    · rename_i hc
      cases e
      refine FnAt.c (FnAt.run (by kernel_rfl) (T := ⟨[], []⟩) ⟨trivial, trivial⟩ Try.func80 sw80 fun ho hh => ?_)
      have e1 : IntKind.i64.wrap (4611686018427387904 - a) = 4611686018427387904 - a := wrap_in (by unfold In64; omega)
      have e2 : IntKind.i64.wrap (a + min b (4611686018427387904 - a)) = wI a b := wrap_in (by unfold In64; omega)
      unfold w80
      simp only [rep_0, rep_s, walkW, ld_own, lda_own, st_own, sta_own, len_app, if_true, if_false, reduceIte, Nat.reduceAdd, Nat.reduceSub, Nat.reduceLeDiff, Nat.reduceEqDiff, Nat.reduceMul, Nat.reduceLT, Int.reduceLT, Int.reduceLE, Int.reduceEq, rsl_get, srcV_own, e1, e2]
      exact Bt.eq rfl (List.append_nil h)
    · cases e
  · cases e
def gFr (p i1 i2 : Nat) : List AV := [.f (.func 96) [] [.p i1 0, .p i2 0], .i .i64 0, .f (.func 80) [] [], .tu [], .p (p + 0) 0, .p (p + 1) 0, .i .i64 0, .tu [], .tu [], .f (.func 96) [] [.p i1 0, .p i2 0], .tu [], .tu [], .tu [], .tu [], .tu [], .tu [], .tu [], .tu []]
def foldW (p i1 i2 : Nat) (m : Bool) (acc : Int) : List AB := [.blk true true [.i .i64 acc], .blk false m [.f (.func 80) [] []], .lp .ready .n (gFr p i1 i2) [10, 11] fA fB]
theorem foldW_round (h : List AB) (i1 i2 : Nat) (m : Bool) (acc a b : Int) (hc : 0 ≤ acc ∧ acc ≤ 4611686018427387904 ∧ 0 ≤ a) :
    RdAt' Try.prog (h.length + 2) [.i .i64 a, .i .i64 b] (h ++ foldW h.length i1 i2 m acc) (.b true) (h ++ foldW h.length i1 i2 m (wI acc a)) := by
  have hc' := eq_true hc
  refine RdAt'.run (by kernel_rfl) (T := ⟨[⟨80, T_wei, fun _ => []⟩], []⟩) ⟨⟨wei_spec, trivial⟩, trivial⟩ (by rw [own_at]; rfl) rfl ?_
  simp only [gFr, setPs, fA, foldW, walkW, ld_own, lda_own, st_own, sta_own, len_app, if_true, if_false, reduceIte, Nat.reduceAdd, Nat.reduceSub, Nat.reduceLeDiff, Nat.reduceEqDiff, Nat.reduceMul, Nat.reduceLT, Int.reduceLT, Int.reduceLE, Int.reduceEq, rsl_get, srcV_own]
  refine ⟨_, _, _, _, _, by rw [own_at]; rfl, ?_⟩
  simp only [fB, walkW, ld_own, lda_own, st_own, sta_own, len_app, if_true, if_false, reduceIte, Nat.reduceAdd, Nat.reduceSub, Nat.reduceLeDiff, Nat.reduceEqDiff, Nat.reduceMul, Nat.reduceLT, Int.reduceLT, Int.reduceLE, Int.reduceEq, rsl_get, srcV_own, T_wei, hc]
  exact ⟨_, _, _, _, _, _, by rw [own_at]; rfl, rfl, by unfold rdEnd; dsimp only; rw [set_own]; rfl⟩
def wQ (h : List AB) (i1 i2 : Nat) (a : Int) (hh r : List AB) : Prop := ∃ m acc, (0 ≤ acc ∧ acc ≤ 4611686018427387904 ∧ 0 ≤ a) ∧ hh = h ++ foldW h.length i1 i2 m acc ∧ r = h ++ foldW h.length i1 i2 m (wI acc a)
open Classical in
noncomputable def wT (h : List AB) (i1 i2 : Nat) : List AV → List AB → Option (AV × List AB)
  | [.i .i64 a, .i .i64 _], hh => if c : ∃ r, wQ h i1 i2 a hh r then some (.b true, c.choose) else none
  | _, _ => none
theorem wT_eq (h : List AB) (i1 i2 : Nat) (a b : Int) (m : Bool) (acc : Int) (ha : 0 ≤ acc ∧ acc ≤ 4611686018427387904 ∧ 0 ≤ a) : wT h i1 i2 [.i .i64 a, .i .i64 b] (h ++ foldW h.length i1 i2 m acc) = some (.b true, h ++ foldW h.length i1 i2 m (wI acc a)) := by
  have hc : ∃ r, wQ h i1 i2 a (h ++ foldW h.length i1 i2 m acc) r := ⟨_, m, acc, ha, rfl, rfl⟩
  obtain ⟨m', acc', _, e, e5⟩ := hc.choose_spec
  replace e := List.append_cancel_left e
  simp only [foldW, List.cons.injEq, AB.blk.injEq, AV.i.injEq, and_true, true_and] at e
  obtain ⟨e1, e2⟩ := e
  subst e1 e2
  simp only [wT]
  rw [dif_pos hc, e5]
theorem w_spec (h : List AB) (i1 i2 : Nat) : SpecR Try.prog (h.length + 2) (wT h i1 i2) := by
  intro args hh v h' e
  unfold wT at e
  split at e
  · rename_i a b
    split at e
    · rename_i hc
      cases e
      obtain ⟨m, acc, h1, h2, h3⟩ := hc.choose_spec
      rw [h3, h2]
      exact foldW_round h i1 i2 m acc a b h1
    · cases e
  · cases e
theorem vAt_ge0 (xs : List Int) (r : Int) : 0 ≤ vAt xs r := by unfold vAt; split <;> (try split) <;> omega
/-- The weight of the first i. -/
def wS (xs : List Int) : Nat → Int
  | 0 => 0
  | i + 1 => wI (wS xs i) (vAt xs ((i + 1 : Nat) : Int))
theorem wS_bd (xs : List Int) : ∀ i, 0 ≤ wS xs i ∧ wS xs i ≤ 4611686018427387904
  | 0 => ⟨Int.le_refl _, by simp [wS]⟩
  | i + 1 => by
    have h1 := wS_bd xs i
    have h2 := vAt_ge0 xs ((i + 1 : Nat) : Int)
    simp only [wS, wI]
    omega
theorem sides_wei (h : List AB) (hz : h.map AB.freeze = h) (hh : HOk h) (i1 i2 : Nat) (sv : AV) (xs : List Int) (h1 : bxS h i1 = some sv) (h2 : bxS h i2 = some .ns) (hx : Rd intR h sv xs) (hl : xs.length ≤ 1000000) :
    FnAt Try.prog 96 [.y (h.length + 2), .p i1 0, .p i2 0] (h ++ foldW h.length i1 i2 true 0) (.tu []) (h ++ foldW h.length i1 i2 true (wS xs xs.length)) := by
  refine FnAt.run (by kernel_rfl) (T := ⟨[⟨44, T_At, fun _ => []⟩], [⟨h.length + 2, wT h i1 i2, fun _ => [h.length + 0, h.length + 2]⟩]⟩) ⟨⟨at_spec, trivial⟩, ⟨w_spec h i1 i2, trivial⟩⟩ Try.func96 sw96 fun _ _ => ?_
  have f1 := rdBlk_fx (bxS_rd h1)
  have f2 := rdBlk_fx (bxS_rd h2)
  have f3 := hx.fx (bxS_ok h1 hh) (sz := 1) rfl
  unfold w96
  simp only [rep_0, rep_s, walkW, ld_own, lda_own, st_own, sta_own, len_app, if_true, if_false, reduceIte, Nat.reduceAdd, Nat.reduceSub, Nat.reduceLeDiff, Nat.reduceEqDiff, Nat.reduceMul, Nat.reduceLT, Int.reduceLT, Int.reduceLE, Int.reduceEq, rsl_get, srcV_own, f1, f2, f3]
  have mx : max (xs.length : Int) 0 = (xs.length : Int) := by omega
  refine W_loopS (S := Nat) (fun i => xs.length - i) (fun i => [.y (h.length + 2), .p i1 0, .p i2 0] ++ tp 6 ++ [.i .i64 (max (xs.length : Int) 0), .i .i64 i] ++ tp 14) (fun i => h ++ foldW h.length i1 i2 true (wS xs i)) (fun i => i ≤ xs.length) 0 (Nat.zero_le _) ?_ fun i hi => ?_
  · exact Bt.wk (by simp only [walkW, ld_own, lda_own, st_own, sta_own, len_app, if_true, if_false, reduceIte, Nat.reduceAdd, Nat.reduceSub, Nat.reduceLeDiff, Nat.reduceEqDiff, Nat.reduceMul, Nat.reduceLT, Int.reduceLT, Int.reduceLE, Int.reduceEq, rsl_get, srcV_own])
  · simp only [foldW, gFr, walkW, ld_own, lda_own, st_own, sta_own, len_app, if_true, if_false, reduceIte, Nat.reduceAdd, Nat.reduceSub, Nat.reduceLeDiff, Nat.reduceEqDiff, Nat.reduceMul, Nat.reduceLT, Int.reduceLT, Int.reduceLE, Int.reduceEq, rsl_get, srcV_own, f1, f2, f3, mx]
    refine ⟨fun g1 => ?_, fun g1 => ?_⟩
    · have e1 : IntKind.i64.wrap ((i : Int) + 1) = ((i + 1 : Nat) : Int) := wrap_in (by unfold In64; omega)
      have e2 := fun b m => wT_eq h i1 i2 (vAt xs ((i + 1 : Nat) : Int)) b m (wS xs i) ⟨(wS_bd xs i).1, (wS_bd xs i).2, vAt_ge0 xs _⟩
      simp only [foldW, gFr] at e2
      simp only [walkW, walkD, ld_own, lda_own, st_own, sta_own, len_app, if_true, if_false, reduceIte, Nat.reduceAdd, Nat.reduceSub, Nat.reduceLeDiff, Nat.reduceEqDiff, Nat.reduceMul, Nat.reduceLT, Int.reduceLT, Int.reduceLE, Int.reduceEq, rsl_get, srcV_own, merge_own, drop_own, getD_own, CO.tmps, Opd.tmps, optT, Nat.reducePow, Nat.reduceDiv, Nat.reduceMod, f1, f2, f3, T_At, e1, e2, HOk_own hh, mask_own hz]
      exact ⟨i + 1, by omega, by dsimp only; omega, Bt.wk (by simp only [walkW, ld_own, lda_own, st_own, sta_own, len_app, if_true, if_false, reduceIte, Nat.reduceAdd, Nat.reduceSub, Nat.reduceLeDiff, Nat.reduceEqDiff, Nat.reduceMul, Nat.reduceLT, Int.reduceLT, Int.reduceLE, Int.reduceEq, rsl_get, srcV_own])⟩
    · have : i = xs.length := by omega
      subst this
      exact Bt.refl _ _ _
noncomputable def T_foldI : List AV → List AB → Option (AV × List AB)
  | [.f (.func 96) [] [.p i1 0, .p i2 0], .i .i64 0, .f (.func 80) [] []], h => (bxS h i1).bind fun sv => (bxS h i2).bind fun sw => match sw with
    | .ns => (getS intR h sv).bind fun xs => if xs.length ≤ 1000000 then some (.i .i64 (wS xs xs.length), h) else none
    | _ => none
  | _, _ => none
theorem foldI_spec : Spec Try.prog 78 T_foldI := by
  intro args h v h' e
  unfold T_foldI at e
  split at e
  · rename_i i1 i2
    obtain ⟨sv, h1, e⟩ := Option.bind_eq_some_iff.1 e
    obtain ⟨sw, h2, e⟩ := Option.bind_eq_some_iff.1 e
    split at e
    · obtain ⟨xs, hx, e⟩ := getS_bind e
      split at e
      · rename_i hl
        cases e
        refine FnAt.c (FnAt.frz0 fun hz => ?_)
        replace hx := hx.frz
        rw [← bxS_frz] at h1 h2
        generalize h.map AB.freeze = h at *
        refine FnAt.run (by kernel_rfl) (T := ⟨[], []⟩) ⟨trivial, trivial⟩ Try.func78 sw78 fun ho hh => ?_
        unfold w78
        simp only [rep_0, rep_s, walkW, ld_own, lda_own, st_own, sta_own, len_app, if_true, if_false, reduceIte, Nat.reduceAdd, Nat.reduceSub, Nat.reduceLeDiff, Nat.reduceEqDiff, Nat.reduceMul, Nat.reduceLT, Int.reduceLT, Int.reduceLE, Int.reduceEq, rsl_get, srcV_own]
        refine W_rf rfl (by simp only [walkW, ld_own, lda_own, st_own, sta_own, len_app, if_true, if_false, reduceIte, Nat.reduceAdd, Nat.reduceSub, Nat.reduceLeDiff, Nat.reduceEqDiff, Nat.reduceMul, Nat.reduceLT, Int.reduceLT, Int.reduceLE, Int.reduceEq, rsl_get, srcV_own]) rfl (by simp only [walkW, ld_own, lda_own, st_own, sta_own, len_app, if_true, if_false, reduceIte, Nat.reduceAdd, Nat.reduceSub, Nat.reduceLeDiff, Nat.reduceEqDiff, Nat.reduceMul, Nat.reduceLT, Int.reduceLT, Int.reduceLE, Int.reduceEq, rsl_get, srcV_own]; rfl) (sides_wei h hz hh i1 i2 sv xs h1 h2 hx hl) (by rw [own_at]; rfl) (by decide) ?_
        simp only [foldW, gFr, walkW, ld_own, lda_own, st_own, sta_own, len_app, if_true, if_false, reduceIte, Nat.reduceAdd, Nat.reduceSub, Nat.reduceLeDiff, Nat.reduceEqDiff, Nat.reduceMul, Nat.reduceLT, Int.reduceLT, Int.reduceLE, Int.reduceEq, rsl_get, srcV_own]
        exact Bt.dropI _ hh rfl
      · cases e
    · cases e
  · cases e
noncomputable def T_Weight : List AV → List AB → Option (AV × List AB)
  | [a], h => (getS intR h a).bind fun xs => if xs.length ≤ 1000000 then some (.i .i64 (wS xs xs.length), h) else none
  | _, _ => none
theorem Weight_spec : Spec Try.prog 60 T_Weight := by
  intro args h v h' e
  unfold T_Weight at e
  split at e
  · rename_i a
    obtain ⟨xs, hx, e⟩ := getS_bind e
    split at e
    · rename_i hl
      cases e
      refine FnAt.c (FnAt.run (by kernel_rfl) (T := ⟨[⟨79, T_sides, fun _ => []⟩, ⟨78, T_foldI, fun _ => []⟩], []⟩) ⟨⟨sides_spec, foldI_spec, trivial⟩, trivial⟩ Try.func60 sw60 fun ho hh => ?_)
      simp only [okL_cons, Bool.and_eq_true] at ho
      have f1 := hx.fx ho.1 (sz := 1) rfl
      have n1 : AV.ns.isSl = true := rfl
      unfold w60
      simp only [rep_0, rep_s, walkW, ld_own, lda_own, st_own, sta_own, len_app, if_true, if_false, reduceIte, Nat.reduceAdd, Nat.reduceSub, Nat.reduceLeDiff, Nat.reduceEqDiff, Nat.reduceMul, Nat.reduceLT, Int.reduceLT, Int.reduceLE, Int.reduceEq, rsl_get, srcV_own, T_sides, T_foldI, f1, hx.isSl, n1, hl]
      exact Bt.dropI _ hh rfl
    · cases e
  · cases e
end Go.Proofs.Ytnnkfhlmkaobfaa
end
