/- Part 17 of what the laws' proofs rest on. No condition. -/
import Derived.Test.YtcncpbcbedfakaaGreatRn16
set_option linter.all false
section
namespace Go.Proofs.YtcncpbcbedfakaaGreat
set_option maxRecDepth 100000
set_option linter.unusedSimpArgs false
def T_max : List AV → List AB → Option (AV × List AB)
 | [.i .i64 a, .i .i64 b], h => some (.i .i64 (max a b), h)
 | _, _ => none
theorem max_spec : Spec Tryz.prog 147 T_max := by
 intro args h v h' e
 unfold T_max at e
 split at e
 ·cases e
  refine FnAt.c (FnAt.run (by kernel_rfl) (T := ⟨[], []⟩) ⟨trivial, trivial⟩ Tryz.func147 sw147 fun ho hh => ?_)
  unfold w147
  simp only [rep_0, rep_s, walkW, walkX, if_true, if_false, reduceIte, Nat.reduceAdd, Nat.reduceSub, Nat.reduceLeDiff, Nat.reduceEqDiff, Nat.reduceMul, Nat.reduceLT, Int.reduceLT, Int.reduceLE, Int.reduceEq]
  exact Bt.eq rfl (List.append_nil h)
 ·cases e
def T_picked1 : List AV → List AB → Option (AV × List AB)
 | [acc, .i .i64 a, .i .i64 b, .p i 0], h => match rdBlk h i with
  | some [.f (.func 147) [] []] => appV (h ++ [.blk true true [.i .i64 (max a b)]]) true 1 8 acc (.sl (h.length + 0) 0 1 1 none)
  | _ => none
 | _, _ => none
theorem picked1_spec : Spec Tryz.prog 168 T_picked1 := by
 intro args h v h' e
 unfold T_picked1 at e
 split at e
 ·rename_i acc a b i
  split at e
  ·rename_i hb
   refine FnAt.c (FnAt.run (by kernel_rfl) (T := ⟨[⟨147, T_max, fun _ => []⟩], []⟩) ⟨⟨max_spec, trivial⟩, trivial⟩ Tryz.func168 sw168 fun ho hh => ?_)
   have f1 := rdBlk_fx hb
   simp only [walkW, walkX, if_true, if_false, reduceIte, Nat.reduceAdd, Nat.reduceSub, Nat.reduceLeDiff, Nat.reduceEqDiff, Nat.reduceMul, Nat.reduceLT, Int.reduceLT, Int.reduceLE, Int.reduceEq] at e
   unfold w168
   simp only [rep_0, rep_s, walkW, walkX, if_true, if_false, reduceIte, Nat.reduceAdd, Nat.reduceSub, Nat.reduceLeDiff, Nat.reduceEqDiff, Nat.reduceMul, Nat.reduceLT, Int.reduceLT, Int.reduceLE, Int.reduceEq, T_max, f1, e]
   exact Bt.eq rfl rfl
  ·cases e
 ·cases e
def fA : CC := (CC.seq (CC.reg 2 [{ dst := some 7, guard := none, op := CO.mv (Opd.t 10) }]) (CC.reg 3 [{ dst := some 8, guard := none, op := CO.mv (Opd.t 11) }]))
def fB : CC := (CC.block 1 (CC.reg 4 [{ dst := some 12, guard := none, op := CO.ld none (Opd.t 5) }, { dst := some 13, guard := none, op := CO.ld none (Opd.t 4) }, { dst := some 14, guard := none, op := CO.mv (Opd.t 7) }, { dst := some 15, guard := none, op := CO.mv (Opd.t 8) }, { dst := some 16, guard := none, op := CO.call (Opd.t 12) [Opd.t 13, Opd.t 14, Opd.t 15] }, { dst := none, guard := none, op := CO.st none (Opd.t 4) (Opd.t 16) }]))
def foldFr (p i1 i2 i0 : Nat) : List AV := [.f (.func 174) [] [.p i1 0, .p i2 0], .ns, .f (.func 168) [] [.p i0 0], .tu [], .p (p + 0) 0, .p (p + 1) 0, .ns, .tu [], .tu [], .f (.func 174) [] [.p i1 0, .p i2 0], .tu [], .tu [], .tu [], .tu [], .tu [], .tu [], .tu [], .tu []]
def foldL (p i1 i2 i0 : Nat) (m : Bool) (acc : AV) (B : AB) : List AB := [.blk false true [acc], .blk false m [.f (.func 168) [] [.p i0 0]], .lp .ready .n (foldFr p i1 i2 i0) [10, 11] fA fB, B]
theorem fold_round (h : List AB) (i1 i2 i0 : Nat) (m : Bool) (l : List Int) (a b : Int) (hb : rdBlk h i0 = some [.f (.func 147) [] []]) (hl : l.length ≤ 1000000) :
  RdAt' Tryz.prog (h.length + 2) [.i .i64 a, .i .i64 b] (h ++ foldL h.length i1 i2 i0 m (apS intR (h.length + 3) l) (resB intR true l)) (.b true)
   (h ++ (foldL h.length i1 i2 i0 m (.sl (h.length + 5) 0 (l.length + 1) (l.length + 1) (some 1)) .dead ++ [.blk true true [.i .i64 (max a b)], .blk true true (intR.cells l ++ [.i .i64 (max a b)])])) := by
 have f1 := rdBlk_fx hb
 have e1 := fun L hL => appW_ap (h := h) (r := intR) (sz := 1) rfl L 3 l 8 1 [.i .i64 (max a b)] hL (by decide) (by omega) (by unfold maxLen; omega)
 refine RdAt'.run (by kernel_rfl) (T := ⟨[⟨168, T_picked1, fun _ => []⟩], []⟩) ⟨⟨picked1_spec, trivial⟩, trivial⟩ (by rw [own_at]; rfl) rfl ?_
 simp only [foldFr, setPs, fA, foldL, walkW, walkX, if_true, if_false, reduceIte, Nat.reduceAdd, Nat.reduceSub, Nat.reduceLeDiff, Nat.reduceEqDiff, Nat.reduceMul, Nat.reduceLT, Int.reduceLT, Int.reduceLE, Int.reduceEq]
 refine ⟨_, _, _, _, _, by rw [own_at]; rfl, ?_⟩
 simp only [fB, walkW, walkX, if_true, if_false, reduceIte, Nat.reduceAdd, Nat.reduceSub, Nat.reduceLeDiff, Nat.reduceEqDiff, Nat.reduceMul, Nat.reduceLT, Int.reduceLT, Int.reduceLE, Int.reduceEq, T_picked1, f1, e1]
 exact ⟨_, _, _, _, _, _, by rw [own_at]; rfl, rfl, by unfold rdEnd; dsimp only; rw [set_own]; rfl⟩
def jn (xs ys : List Int) (i : Nat) : List Int := (List.range i).map fun k : Nat => max (vAt xs ((k + 1 : Nat) : Int)) (vAt ys ((k + 1 : Nat) : Int))
theorem jn_len (xs ys : List Int) (i : Nat) : (jn xs ys i).length = i := by simp [jn]
theorem jn_succ (xs ys : List Int) (i : Nat) : jn xs ys (i + 1) = jn xs ys i ++ [max (vAt xs ((i + 1 : Nat) : Int)) (vAt ys ((i + 1 : Nat) : Int))] := by
 simp [jn, List.range_succ]
def roundR (h : List AB) (i1 i2 i0 : Nat) (a b : Int) (m : Bool) (l : List Int) : List AB := h ++ (foldL h.length i1 i2 i0 m (.sl (h.length + 5) 0 (l.length + 1) (l.length + 1) (some 1)) .dead ++ [.blk true true [.i .i64 (max a b)], .blk true true (intR.cells l ++ [.i .i64 (max a b)])])
def roundQ (h : List AB) (i1 i2 i0 : Nat) (a b : Int) (hh r : List AB) : Prop := ∃ m l, l.length ≤ 1000000 ∧ hh = h ++ foldL h.length i1 i2 i0 m (apS intR (h.length + 3) l) (resB intR true l) ∧ r = roundR h i1 i2 i0 a b m l
open Classical in
noncomputable def roundT (h : List AB) (i1 i2 i0 : Nat) : List AV → List AB → Option (AV × List AB)
 | [.i .i64 a, .i .i64 b], hh => if c : ∃ r, roundQ h i1 i2 i0 a b hh r then some (.b true, c.choose) else none
 | _, _ => none
theorem roundT_eq (h : List AB) (i1 i2 i0 : Nat) (a b : Int) (m : Bool) (l : List Int) (hl : l.length ≤ 1000000) : roundT h i1 i2 i0 [.i .i64 a, .i .i64 b] (h ++ foldL h.length i1 i2 i0 m (apS intR (h.length + 3) l) (resB intR true l)) = some (.b true, roundR h i1 i2 i0 a b m l) := by
 have hc : ∃ r, roundQ h i1 i2 i0 a b (h ++ foldL h.length i1 i2 i0 m (apS intR (h.length + 3) l) (resB intR true l)) r := ⟨_, m, l, hl, rfl, rfl⟩
 obtain ⟨m', l', _, e, e5⟩ := hc.choose_spec
 replace e := List.append_cancel_left e
 simp only [foldL, List.cons.injEq, AB.blk.injEq, and_true, true_and] at e
 obtain ⟨e1, e2, e3⟩ := e
 have e4 := apS_inj e1 e3
 subst e2 e4
 simp only [roundT]
 rw [dif_pos hc, e5]
theorem round_spec (h : List AB) (i1 i2 i0 : Nat) (hb : rdBlk h i0 = some [.f (.func 147) [] []]) : SpecR Tryz.prog (h.length + 2) (roundT h i1 i2 i0) := by
 intro args hh v h' e
 unfold roundT at e
 split at e
 ·rename_i a b
  split at e
  ·rename_i hc
   cases e
   obtain ⟨m, l, h1, h2, h3⟩ := hc.choose_spec
   rw [h3, h2]
   exact fold_round h i1 i2 i0 m l a b hb h1
  ·cases e
 ·cases e
theorem sides_fold (h : List AB) (hz : h.map AB.freeze = h) (hh : HOk h) (i1 i2 i0 : Nat) (sv sw : AV) (xs ys : List Int) (hb : rdBlk h i0 = some [.f (.func 147) [] []]) (h1 : bxS h i1 = some sv) (h2 : bxS h i2 = some sw) (hx : Rd intR h sv xs) (hy : Rd intR h sw ys) (hl : xs.length ≤ 1000000 ∧ ys.length ≤ 1000000) :
  FnAt Tryz.prog 174 [.y (h.length + 2), .p i1 0, .p i2 0] (h ++ [.blk false true [.ns], .blk false true [.f (.func 168) [] [.p i0 0]], .lp .ready .n (foldFr h.length i1 i2 i0) [10, 11] fA fB]) (.tu [])
   (h ++ foldL h.length i1 i2 i0 true (apS intR (h.length + 3) (jn xs ys (max xs.length ys.length))) (resB intR true (jn xs ys (max xs.length ys.length)))) := by
 refine FnAt.run (by kernel_rfl) (T := ⟨[⟨77, T_At, fun _ => []⟩], [⟨h.length + 2, roundT h i1 i2 i0, fun _ => [h.length + 0, h.length + 2, h.length + 3]⟩]⟩) ⟨⟨at_spec, trivial⟩, ⟨round_spec h i1 i2 i0 hb, trivial⟩⟩ Tryz.func174 sw174 fun _ _ => ?_
 have f1 := rdBlk_fx (bxS_rd h1)
 have f2 := rdBlk_fx (bxS_rd h2)
 have f0 := rdBlk_fx hb
 have f3 := hx.fx (bxS_ok h1 hh) (sz := 1) rfl
 have f4 := hy.fx (bxS_ok h2 hh) (sz := 1) rfl
 unfold w174
 simp only [rep_0, rep_s, walkW, walkX, if_true, if_false, reduceIte, Nat.reduceAdd, Nat.reduceSub, Nat.reduceLeDiff, Nat.reduceEqDiff, Nat.reduceMul, Nat.reduceLT, Int.reduceLT, Int.reduceLE, Int.reduceEq, f1, f2, f3, f4]
 refine W_loopS (S := Nat) (fun i => max xs.length ys.length - i) (fun i => [.y (h.length + 2), .p i1 0, .p i2 0] ++ tp 6 ++ [.i .i64 (max (xs.length : Int) ys.length), .i .i64 i] ++ tp 14) (fun i => h ++ foldL h.length i1 i2 i0 true (apS intR (h.length + 3) (jn xs ys i)) (resB intR true (jn xs ys i))) (fun i => i ≤ max xs.length ys.length) 0 (Nat.zero_le _) ?_ fun i hi => ?_
 ·have e : h ++ foldL h.length i1 i2 i0 true (apS intR (h.length + 3) (jn xs ys 0)) (resB intR true (jn xs ys 0)) = h ++ [.blk false true [.ns], .blk false true [.f (.func 168) [] [.p i0 0]], .lp .ready .n (foldFr h.length i1 i2 i0) [10, 11] fA fB] ++ List.replicate 1 .dead := by
   rw [List.append_assoc]
   rfl
  rw [e]
  refine Bt.trans (Bt.wk ?_) (Bt.pad _ _ 1)
  simp only [walkW, walkX, if_true, if_false, reduceIte, Nat.reduceAdd, Nat.reduceSub, Nat.reduceLeDiff, Nat.reduceEqDiff, Nat.reduceMul, Nat.reduceLT, Int.reduceLT, Int.reduceLE, Int.reduceEq]
 ·simp only [foldL, foldFr, walkW, walkX, if_true, if_false, reduceIte, Nat.reduceAdd, Nat.reduceSub, Nat.reduceLeDiff, Nat.reduceEqDiff, Nat.reduceMul, Nat.reduceLT, Int.reduceLT, Int.reduceLE, Int.reduceEq, f1, f2, f3, f4]
  refine ⟨fun g1 => ?_, fun g1 => ?_⟩
  ·have e1 : IntKind.i64.wrap ((i : Int) + 1) = ((i + 1 : Nat) : Int) := wrap_in (by unfold In64; omega)
   have e2 := fun a b m => roundT_eq h i1 i2 i0 a b m (jn xs ys i) (by rw [jn_len]; omega)
   simp only [foldL, foldFr, roundR, lapp_cons, lapp_nil] at e2
   simp only [walkW, walkD, walkX, if_true, if_false, reduceIte, Nat.reduceAdd, Nat.reduceSub, Nat.reduceLeDiff, Nat.reduceEqDiff, Nat.reduceMul, Nat.reduceLT, Int.reduceLT, Int.reduceLE, Int.reduceEq, CO.tmps, Opd.tmps, optT, Nat.reducePow, Nat.reduceDiv, Nat.reduceMod, f0, f1, f2, f3, f4, T_At, e1, e2, HOk_own hh, mask_own hz]
   refine ⟨i + 1, by omega, by dsimp only; omega, ?_⟩
   have s1 : ∀ sel, selN h.length sel i1 = i1 := fun sel => selN_old (rdBlk_lt (bxS_rd h1))
   have s2 : ∀ sel, selN h.length sel i2 = i2 := fun sel => selN_old (rdBlk_lt (bxS_rd h2))
   have s0 : ∀ sel, selN h.length sel i0 = i0 := fun sel => selN_old (rdBlk_lt hb)
   have q1 : decide (i1 < h.length + 4) = true := decide_eq_true (by have := rdBlk_lt (bxS_rd h1); omega)
   have q2 : decide (i2 < h.length + 4) = true := decide_eq_true (by have := rdBlk_lt (bxS_rd h2); omega)
   have q0 : decide (i0 < h.length + 4) = true := decide_eq_true (by have := rdBlk_lt hb; omega)
   refine Bt.selL 3 [0, 1, 2, 5] hh (by decide) (by decide) (by decide) (by decide) ?_ ?_
   ·simp only [jn_succ, apS_snoc, resB_snoc, jn_len]
    simp only [walkS, FrSel, BlkSel, AV.ren, renL, AV.ok, okL, Option.some.injEq, exists_eq_left', List.length_cons, List.length_nil, Nat.reduceAdd, Nat.reduceLT, reduceCtorEq, implies_true, exists_eq', s0, s1, s2, q0, q1, q2]
   ·simp only [walkS, FrSel, BlkSel, AV.ren, renL, AV.ok, okL, Option.some.injEq, exists_eq_left', List.length_cons, List.length_nil, Nat.reduceAdd, Nat.reduceLT, reduceCtorEq, implies_true, exists_eq', s0, s1, s2, q0, q1, q2]
  ·have : i = max xs.length ys.length := by omega
   subst this
   exact Bt.refl _ _ _
def vjoin (xs ys : List Int) : List Int := jn xs ys (max xs.length ys.length)
noncomputable def T_foldL : List AV → List AB → Option (AV × List AB)
 | [.f (.func 174) [] [.p i1 0, .p i2 0], .ns, .f (.func 168) [] [.p i0 0]], h => match rdBlk h i0 with
  | some [.f (.func 147) [] []] => (bxS h i1).bind fun sv => (bxS h i2).bind fun sw => (getS intR h sv).bind fun xs => (getS intR h sw).bind fun ys =>
    if xs.length ≤ 1000000 ∧ ys.length ≤ 1000000 then some (rsl intR h.length (vjoin xs ys), h ++ [resB intR true (vjoin xs ys)]) else none
  | _ => none
 | _, _ => none
theorem foldL_spec : Spec Tryz.prog 166 T_foldL := by
 intro args h v h' e
 unfold T_foldL at e
 split at e
 ·rename_i i1 i2 i0
  split at e
  ·rename_i hb
   obtain ⟨sv, h1, e⟩ := Option.bind_eq_some_iff.1 e
   obtain ⟨sw, h2, e⟩ := Option.bind_eq_some_iff.1 e
   obtain ⟨xs, hx, e⟩ := getS_bind e
   obtain ⟨ys, hy, e⟩ := getS_bind e
   split at e
   ·rename_i hl
    cases e
    refine FnAt.c (FnAt.frz fun hz => ?_)
    rw [show h.length = (h.map AB.freeze).length from (List.length_map _).symm]
    replace hx := hx.frz
    replace hy := hy.frz
    rw [← rdBlk_frz] at hb
    rw [← bxS_frz] at h1 h2
    generalize h.map AB.freeze = h at *
    refine FnAt.run (by kernel_rfl) (T := ⟨[], []⟩) ⟨trivial, trivial⟩ Tryz.func166 sw166 fun ho hh => ?_
    unfold w166
    simp only [rep_0, rep_s, walkW, walkX, if_true, if_false, reduceIte, Nat.reduceAdd, Nat.reduceSub, Nat.reduceLeDiff, Nat.reduceEqDiff, Nat.reduceMul, Nat.reduceLT, Int.reduceLT, Int.reduceLE, Int.reduceEq]
    refine W_rf rfl (by simp only [walkW, walkX, if_true, if_false, reduceIte, Nat.reduceAdd, Nat.reduceSub, Nat.reduceLeDiff, Nat.reduceEqDiff, Nat.reduceMul, Nat.reduceLT, Int.reduceLT, Int.reduceLE, Int.reduceEq]) rfl (by simp only [walkW, walkX, if_true, if_false, reduceIte, Nat.reduceAdd, Nat.reduceSub, Nat.reduceLeDiff, Nat.reduceEqDiff, Nat.reduceMul, Nat.reduceLT, Int.reduceLT, Int.reduceLE, Int.reduceEq]; rfl) (sides_fold h hz hh i1 i2 i0 sv sw xs ys hb h1 h2 hx hy hl) (by rw [own_at]; rfl) (by decide) ?_
    simp only [foldL, foldFr, walkW, walkX, if_true, if_false, reduceIte, Nat.reduceAdd, Nat.reduceSub, Nat.reduceLeDiff, Nat.reduceEqDiff, Nat.reduceMul, Nat.reduceLT, Int.reduceLT, Int.reduceLE, Int.reduceEq]
    exact Bt.oneA 3 hh rfl
   ·cases e
  ·cases e
 ·cases e
def T_sides : List AV → List AB → Option (AV × List AB)
 | [a, b], h => if a.isSl = true ∧ b.isSl = true then some (.f (.func 174) [] [.p (h.length + 0) 0, .p (h.length + 1) 0], h ++ [.blk false true [a], .blk false true [b]]) else none
 | _, _ => none
theorem sides_spec : Spec Tryz.prog 167 T_sides := by
 intro args h v h' e
 unfold T_sides at e
 split at e
 ·rename_i a b
  split at e
  ·rename_i hs
   cases e
   refine FnAt.c (FnAt.run (by kernel_rfl) (T := ⟨[], []⟩) ⟨trivial, trivial⟩ Tryz.func167 sw167 fun ho hh => ?_)
   unfold w167
   simp only [rep_0, rep_s, walkW, walkX, if_true, if_false, reduceIte, Nat.reduceAdd, Nat.reduceSub, Nat.reduceLeDiff, Nat.reduceEqDiff, Nat.reduceMul, Nat.reduceLT, Int.reduceLT, Int.reduceLE, Int.reduceEq, sl_one hs.1, sl_one hs.2, sl_cells hs.1, sl_cells hs.2]
   exact Bt.eq rfl rfl
  ·cases e
 ·cases e
noncomputable def T_Join : List AV → List AB → Option (AV × List AB)
 | [a, b], h => (getS intR h a).bind fun xs => (getS intR h b).bind fun ys => if xs.length ≤ 1000000 ∧ ys.length ≤ 1000000 then some (rsl intR h.length (vjoin xs ys), h ++ [resB intR true (vjoin xs ys)]) else none
 | _, _ => none
noncomputable def T_pickedJ : List AV → List AB → Option (AV × List AB)
 | [a, b, .f (.func 147) [] []], h => T_Join [a, b] h
 | _, _ => none
theorem pickedJ_spec : Spec Tryz.prog 146 T_pickedJ := by
 intro args h v h' e
 unfold T_pickedJ at e
 split at e
 ·rename_i a b
  unfold T_Join at e
  obtain ⟨xs, hx, e⟩ := getS_bind e
  obtain ⟨ys, hy, e⟩ := getS_bind e
  split at e
  ·rename_i hl
   cases e
   refine FnAt.c (FnAt.run (by kernel_rfl) (T := ⟨[⟨167, T_sides, fun _ => []⟩, ⟨166, T_foldL, fun _ => []⟩], []⟩) ⟨⟨sides_spec, foldL_spec, trivial⟩, trivial⟩ Tryz.func146 sw146 fun ho hh => ?_)
   simp only [okL_cons, Bool.and_eq_true] at ho
   have f1 := hx.fx ho.1 (sz := 1) rfl
   have f2 := hy.fx ho.2.1 (sz := 1) rfl
   unfold w146
   simp only [rep_0, rep_s, walkW, walkX, if_true, if_false, reduceIte, Nat.reduceAdd, Nat.reduceSub, Nat.reduceLeDiff, Nat.reduceEqDiff, Nat.reduceMul, Nat.reduceLT, Int.reduceLT, Int.reduceLE, Int.reduceEq, T_sides, T_foldL, f1, f2, hx.isSl, hy.isSl, hl]
   exact Bt.oneR 3 hh rfl
  ·cases e
 ·cases e
theorem Join_spec : Spec Tryz.prog 117 T_Join := by
 intro args h v h' e
 unfold T_Join at e
 split at e
 ·rename_i a b
  obtain ⟨xs, hx, e⟩ := getS_bind e
  obtain ⟨ys, hy, e⟩ := getS_bind e
  split at e
  ·rename_i hl
   cases e
   refine FnAt.c (FnAt.run (by kernel_rfl) (T := ⟨[⟨146, T_pickedJ, fun _ => []⟩], []⟩) ⟨⟨pickedJ_spec, trivial⟩, trivial⟩ Tryz.func117 sw117 fun ho hh => ?_)
   simp only [okL_cons, Bool.and_eq_true] at ho
   have f1 := hx.fx ho.1 (sz := 1) rfl
   have f2 := hy.fx ho.2.1 (sz := 1) rfl
   unfold w117
   simp only [rep_0, rep_s, walkW, walkX, if_true, if_false, reduceIte, Nat.reduceAdd, Nat.reduceSub, Nat.reduceLeDiff, Nat.reduceEqDiff, Nat.reduceMul, Nat.reduceLT, Int.reduceLT, Int.reduceLE, Int.reduceEq, T_pickedJ, T_Join, f1, f2, hl]
   exact Bt.oneR 0 hh rfl
  ·cases e
 ·cases e
end Go.Proofs.YtcncpbcbedfakaaGreat
end
section
namespace Go.Proofs.YtcncpbcbedfakaaGreat
set_option maxRecDepth 100000
set_option linter.unusedSimpArgs false
def vHasP (xs : List Int) (d : Int × Int) : Prop := 1 ≤ d.1 ∧ 1 ≤ d.2 ∧ d.2 ≤ vAt xs d.1
instance (xs : List Int) (d : Int × Int) : Decidable (vHasP xs d) := by unfold vHasP; infer_instance
noncomputable def T_vHas : List AV → List AB → Option (AV × List AB)
 | [s, .ag [.i .i64 a, .i .i64 b]], h => (getS intR h s).bind fun xs => some (.b (decide (vHasP xs (a, b))), h)
 | _, _ => none
theorem vHas_spec : Spec Tryz.prog 113 T_vHas := by
 intro args h v h' e
 unfold T_vHas at e
 split at e
 ·rename_i s a b
  obtain ⟨xs, hx, e⟩ := getS_bind e
  cases e
  refine FnAt.c (FnAt.frz0 fun hz => ?_)
  replace hx := hx.frz
  generalize h.map AB.freeze = h at *
  refine FnAt.run (by kernel_rfl) (T := ⟨[⟨77, T_At, fun _ => []⟩], []⟩) ⟨⟨at_spec, trivial⟩, trivial⟩ Tryz.func113 sw113 fun ho hh => ?_
  simp only [okL_cons, Bool.and_eq_true] at ho
  have f1 := hx.fx ho.1 (sz := 1) rfl
  unfold w113
  simp only [rep_0, rep_s, walkW, walkD, walkX, if_true, if_false, reduceIte, Nat.reduceAdd, Nat.reduceSub, Nat.reduceLeDiff, Nat.reduceEqDiff, Nat.reduceMul, Nat.reduceLT, Int.reduceLT, Int.reduceLE, Int.reduceEq, CO.tmps, Opd.tmps, optT, Nat.reducePow, Nat.reduceDiv, Nat.reduceMod, T_At, f1, HOk_own hh, mask_own hz]
  refine ⟨fun h1 => ⟨fun h2 => ?_, fun h2 => ?_⟩, fun h1 => ?_⟩ <;> exact Bt.dropB _ hh (by simp [vHasP, *])
 ·cases e
def vwith (xs : List Int) (d : Int × Int) : List Int :=
 if d.1 < 1 ∨ 16 < d.1 ∨ d.2 < 1 ∨ d.2 ≤ vAt xs d.1 then vjoin xs [] else vjoin xs ((List.replicate d.1.toNat 0).set (d.1 - 1).toNat d.2)
noncomputable def T_With : List AV → List AB → Option (AV × List AB)
 | [s, .ag [.i .i64 a, .i .i64 b]], h => (getS intR h s).bind fun xs => if xs.length ≤ 1000000 then some (rsl intR h.length (vwith xs (a, b)), h ++ [resB intR true (vwith xs (a, b))]) else none
 | _, _ => none
theorem With_spec : Spec Tryz.prog 118 T_With := by
 intro args h v h' e
 unfold T_With at e
 split at e
 ·rename_i s a b
  obtain ⟨xs, hx, e⟩ := getS_bind e
  split at e
  ·rename_i hl
   cases e
   refine FnAt.c (FnAt.frz fun hz => ?_)
   rw [show h.length = (h.map AB.freeze).length from (List.length_map _).symm]
   replace hx := hx.frz
   generalize h.map AB.freeze = h at *
   refine FnAt.run (by kernel_rfl) (T := ⟨[⟨77, T_At, fun _ => []⟩, ⟨117, T_Join, fun _ => []⟩], []⟩) ⟨⟨at_spec, Join_spec, trivial⟩, trivial⟩ Tryz.func118 sw118 fun ho hh => ?_
   simp only [okL_cons, Bool.and_eq_true] at ho
   have f1 := hx.fx ho.1 (sz := 1) rfl
   unfold w118
   simp only [rep_0, rep_s, walkW, walkD, walkX, if_true, if_false, reduceIte, Nat.reduceAdd, Nat.reduceSub, Nat.reduceLeDiff, Nat.reduceEqDiff, Nat.reduceMul, Nat.reduceLT, Int.reduceLT, Int.reduceLE, Int.reduceEq, CO.tmps, Opd.tmps, optT, Nat.reducePow, Nat.reduceDiv, Nat.reduceMod, T_At, T_Join, f1, hl, HOk_own hh, mask_own hz]
   have g : ∀ (_ : a < 1 ∨ 16 < a ∨ b < 1 ∨ b ≤ vAt xs a), ([] : List Int).length ≤ 1000000 ∧ Bt Tryz.prog h.length [rsl intR (h.length + 1) (vjoin xs [])] (h ++ [AB.blk true true [AV.i IntKind.i64 a, AV.i IntKind.i64 b], resB intR true (vjoin xs [])]) [rsl intR h.length (vwith xs (a, b))] (h ++ [resB intR true (vwith xs (a, b))]) := fun q => by
    have : vwith xs (a, b) = vjoin xs [] := by unfold vwith; rw [if_pos q]
    rw [this]
    exact ⟨by decide, Bt.oneR 1 hh rfl⟩
   refine ⟨fun q => g (.inl q), fun q1 => ⟨fun q => g (.inr (.inl q)), fun q2 => ⟨fun q => g (.inr (.inr (.inl q))), fun q3 => ⟨fun q => g (.inr (.inr (.inr q))), fun q4 => ?_⟩⟩⟩⟩
   have c1 : (List.replicate a.toNat [AV.i .i64 0]).flatten = intR.cells (List.replicate a.toNat 0) := cells_rep intR a.toNat 0
   have c2 : (0 ≤ a ∧ a ≤ a ∧ 8 * a ≤ 2 ^ 47 ∧ a ≤ (maxLen : Int)) = True := eq_true ⟨by omega, by omega, by omega, by unfold maxLen; omega⟩
   have c3 : IntKind.i64.wrap (a - 1) = a - 1 := wrap_in (by unfold In64; omega)
   have c4 : (0 ≤ a - 1 ∧ a - 1 < (a.toNat : Int)) = True := eq_true (by omega)
   have c5 : over (intR.cells (List.replicate a.toNat 0)) (0 + (a - 1).toNat * 1) [AV.i .i64 b] = intR.cells ((List.replicate a.toNat 0).set (a - 1).toNat b) := by
    rw [Nat.zero_add, Nat.mul_one]
    exact over_int _ _ _ (by rw [List.length_replicate]; omega)
   have c6 : (0 + ((a - 1).toNat * 1 + 1) ≤ (intR.cells (List.replicate a.toNat 0)).length) = True := eq_true (by rw [Row.cells_len, List.length_replicate, intR_sz]; omega)
   have c7 : ((List.replicate a.toNat (0 : Int)).set (a - 1).toNat b).length = a.toNat := by simp
   have c8 : ∀ L : List AB, ownC L 1 = some (intR.cells ((List.replicate a.toNat (0 : Int)).set (a - 1).toNat b)) → getS intR (h ++ L) (.sl (h.length + 1) 0 a.toNat a.toNat none) = some ((List.replicate a.toNat (0 : Int)).set (a - 1).toNat b) := fun L hL => by
    have := Rd_own (h := h) (c := a.toNat) (kk := none) hL (by rw [c7]; unfold maxLen; omega)
    rw [c7] at this
    exact this.get
   have c9 : (a.toNat ≤ 1000000) = True := eq_true (by omega)
   simp only [walkW, walkX, if_true, if_false, reduceIte, Nat.reduceAdd, Nat.reduceSub, Nat.reduceLeDiff, Nat.reduceEqDiff, Nat.reduceMul, Nat.reduceLT, Int.reduceLT, Int.reduceLE, Int.reduceEq, c1, c2, c3, c4, c5, c6, c7, c8, c9, T_Join, f1, hl]
   have : vwith xs (a, b) = vjoin xs ((List.replicate a.toNat 0).set (a - 1).toNat b) := by unfold vwith; rw [if_neg (by simp only; omega)]
   rw [this]
   exact Bt.oneR 2 hh rfl
  ·cases e
 ·cases e
end Go.Proofs.YtcncpbcbedfakaaGreat
end
section
namespace Go.Proofs.YtcncpbcbedfakaaGreat
theorem jn_get (xs ys : List Int) (n i : Nat) (hi : i < n) : (jn xs ys n).getD i 0 = max (vAt xs ((i + 1 : Nat) : Int)) (vAt ys ((i + 1 : Nat) : Int)) := by
 simp [jn, List.getD_eq_getElem?_getD, List.getElem?_range hi]
theorem vAt_ge (xs : List Int) (r : Int) : 0 ≤ vAt xs r := by unfold vAt; split <;> (try split) <;> omega
theorem vAt_out (xs : List Int) (r : Int) (h : r < 1 ∨ (xs.length : Int) < r) : vAt xs r = 0 := by
 unfold vAt
 by_cases h1 : r < 1
 ·rw [if_pos h1]
 ·rw [if_neg h1, if_pos (by omega)]
theorem vAt_in (xs : List Int) (i : Nat) (h : i < xs.length) : vAt xs ((i + 1 : Nat) : Int) = max (xs.getD i 0) 0 := by
 unfold vAt
 rw [if_neg (by omega), if_neg (by omega)]
 rw [show (((i + 1 : Nat) : Int) - 1).toNat = i by omega]
theorem vjoin_len (xs ys : List Int) : (vjoin xs ys).length = max xs.length ys.length := jn_len _ _ _
theorem vAt_vjoin (xs ys : List Int) (r : Int) : vAt (vjoin xs ys) r = max (vAt xs r) (vAt ys r) := by
 by_cases h : r < 1 ∨ (((max xs.length ys.length : Nat) : Int) < r)
 ·rw [vAt_out _ _ (by rw [vjoin_len]; exact h), vAt_out xs r (by omega), vAt_out ys r (by omega)]
  rfl
 ·obtain ⟨i, rfl⟩ : ∃ i : Nat, r = ((i + 1 : Nat) : Int) := ⟨(r - 1).toNat, by omega⟩
  rw [vAt_in _ i (by rw [vjoin_len]; omega)]
  unfold vjoin
  rw [jn_get _ _ _ _ (by omega)]
  have := vAt_ge xs ((i + 1 : Nat) : Int)
  omega
theorem vwith_len (xs : List Int) (d : Int × Int) : (vwith xs d).length ≤ max xs.length 16 := by
 unfold vwith
 split
 ·rw [vjoin_len]; simp; omega
 ·rename_i h
  rw [vjoin_len]
  simp only [List.length_set, List.length_replicate]
  omega
theorem vAt_nil (r : Int) : vAt [] r = 0 := vAt_out [] r (by simp; omega)
theorem vAt_vwith (xs : List Int) {d : Int × Int} (hd : dottedP d) (hn : vAt xs d.1 < d.2) (r : Int) : vAt (vwith xs d) r = if r = d.1 then d.2 else vAt xs r := by
 obtain ⟨a, b⟩ := d
 obtain ⟨h1, h2, h3, h4⟩ := hd
 simp only at h1 h2 h3 h4 hn ⊢
 unfold vwith
 rw [if_neg (by simp only; omega), vAt_vjoin]
 obtain ⟨i, rfl⟩ : ∃ i : Nat, a = ((i + 1 : Nat) : Int) := ⟨(a - 1).toNat, by omega⟩
 have e1 : ((i + 1 : Nat) : Int).toNat = i + 1 := by omega
 have e2 : (((i + 1 : Nat) : Int) - 1).toNat = i := by omega
 rw [e1, e2]
 by_cases h : r = ((i + 1 : Nat) : Int)
 ·subst h
  have e3 : vAt ((List.replicate (i + 1) (0 : Int)).set i b) ((i + 1 : Nat) : Int) = b := by
   rw [vAt_in _ i (by simp), List.getD_eq_getElem?_getD, List.getElem?_set_self (by simp), Option.getD_some]
   omega
  rw [if_pos rfl, e3]
  omega
 ·rw [if_neg h]
  have : vAt ((List.replicate (i + 1) (0 : Int)).set i b) r = 0 := by
   by_cases ho : r < 1 ∨ (((i + 1 : Nat) : Int) < r)
   ·exact vAt_out _ _ (by simpa using ho)
   ·obtain ⟨k, rfl⟩ : ∃ k : Nat, r = ((k + 1 : Nat) : Int) := ⟨(r - 1).toNat, by omega⟩
    rw [vAt_in _ k (by simp; omega)]
    simp only [List.getD_eq_getElem?_getD]
    rw [List.getElem?_set_ne (by omega), List.getElem?_replicate]
    split <;> simp
  rw [this]
  have := vAt_ge xs r
  omega
abbrev AbS := List Int × Dots
def absD (s : AbS) (d : Int × Int) : AbS :=
 if d.2 ≤ vAt s.1 d.1 then s else if d.2 = vAt s.1 d.1 + 1 then (vwith s.1 d, s.2) else if s.2.length = 0 ∨ s.2.getD (s.2.length - 1) dotR.d ≠ d then (s.1, s.2 ++ [d]) else s
def absR (s : AbS) (l : Dots) : AbS := l.foldl absD s
theorem absR_take (s : AbS) {l : Dots} {i : Nat} (hi : i < l.length) : absR s (l.take (i + 1)) = absD (absR s (l.take i)) (l.getD i dotR.d) := by
 unfold absR
 rw [List.take_succ_eq_append_getElem hi, List.foldl_append, List.getD_eq_getElem?_getD, List.getElem?_eq_getElem hi]
 rfl
theorem absD_len (s : AbS) (d : Int × Int) : (absD s d).1.length ≤ max s.1.length 16 ∧ (absD s d).2.length ≤ s.2.length + 1 := by
 unfold absD
 split
 ·omega
 ·split
  ·exact ⟨vwith_len s.1 d, by simp⟩
  ·split
   ·exact ⟨by simp only; omega, by simp⟩
   ·omega
theorem absD_ge (s : AbS) {d : Int × Int} (hd : dottedP d) (r : Int) : vAt s.1 r ≤ vAt (absD s d).1 r := by
 unfold absD
 split
 ·omega
 ·split
  ·rename_i h1 h2
   rw [vAt_vwith s.1 hd (by omega)]
   split
   ·rename_i h3; subst h3; omega
   ·omega
  ·split <;> simp
theorem eqc2 (w d : Int × Int) : eqCells [.i, .i] [.i .i64 w.1, .i .i64 w.2] [.i .i64 d.1, .i .i64 d.2] = some (decide (w = d)) := by
 obtain ⟨a, b⟩ := w
 obtain ⟨c, d⟩ := d
 simp only [eqCells, eqCell, Option.bind_some, Option.map_some, Prod.mk.injEq, if_true, Bool.and_true, Bool.decide_and]
 by_cases h1 : a = c <;> by_cases h2 : b = d <;> simp [h1, h2]
theorem idOf_elr {α : Type} {r : Row α} (sz id n j : Nat) (l : List α) : idOf (elP sz (rsl r id l) n j) = [id] := by unfold rsl; split <;> rfl
end Go.Proofs.YtcncpbcbedfakaaGreat
end
section
namespace Go.Proofs.YtcncpbcbedfakaaGreat
set_option maxRecDepth 100000
set_option linter.unusedSimpArgs false
def lessD (a b : Int × Int) : Prop := a.1 < b.1 ∨ a.1 = b.1 ∧ a.2 < b.2
instance (a b : Int × Int) : Decidable (lessD a b) := by unfold lessD; infer_instance
end Go.Proofs.YtcncpbcbedfakaaGreat
end
section
namespace Go.Proofs.YtcncpbcbedfakaaGreat
set_option maxRecDepth 100000
set_option maxHeartbeats 4000000
set_option linter.unusedSimpArgs false
def bsI (l : Dots) (d : Int × Int) (lo hi : Nat) : Nat :=
 if lo < hi then (if cmpD (l.getD ((lo + hi) / 2) dotR.d) d < 0 then bsI l d ((lo + hi) / 2 + 1) hi else bsI l d lo ((lo + hi) / 2)) else lo
termination_by hi - lo
decreasing_by all_goals omega
noncomputable def T_bs : List AV → List AB → Option (AV × List AB)
 | [s, .ag [.i .i64 a, .i .i64 b], .f (.func 99) [] []], h => (getS dotR h s).bind fun l =>
   if l.length ≤ 1000000 then some (.tu [.i .i64 (bsI l (a, b) 0 l.length), .b (decide (bsI l (a, b) 0 l.length < l.length ∧ cmpD (l.getD (bsI l (a, b) 0 l.length) dotR.d) (a, b) = 0))], h) else none
 | _, _ => none
theorem bs_spec : Spec Tryz.prog 112 T_bs := by
 intro args h v h' e
 unfold T_bs at e
 split at e
 ·rename_i s a b
  obtain ⟨l, hs, e⟩ := getS_bind e
  split at e
  ·rename_i hl
   cases e
   refine FnAt.c (FnAt.frz0 fun hz => ?_)
   replace hs := hs.frz
   generalize h.map AB.freeze = h at *
   refine FnAt.run (by kernel_rfl) (T := ⟨[⟨99, T_compare, fun _ => []⟩], []⟩) ⟨⟨compare_spec, trivial⟩, trivial⟩ Tryz.func112 sw112 fun ho hh => ?_
   simp only [okL_cons, Bool.and_eq_true] at ho
   have f1 := hs.fx ho.1 (sz := 2) rfl
   unfold w112
   simp only [rep_0, rep_s, walkW, walkX, if_true, if_false, reduceIte, Nat.reduceAdd, Nat.reduceSub, Nat.reduceLeDiff, Nat.reduceEqDiff, Nat.reduceMul, Nat.reduceLT, Int.reduceLT, Int.reduceLE, Int.reduceEq, f1]
   refine W_loopF (S := Nat × Nat) (fun x => x.2 - x.1) (fun x => [s] ++ tp 1 ++ [.f (.func 99) [] []] ++ tp 1 ++ [.p (h.length + 0) 0] ++ tp 3 ++ [.i .i64 l.length, .i .i64 x.1, .i .i64 x.2] ++ tp 38) (fun x => x.1 ≤ x.2 ∧ x.2 ≤ l.length ∧ bsI l (a, b) x.1 x.2 = bsI l (a, b) 0 l.length) (0, l.length) ⟨Nat.zero_le _, Nat.le_refl _, rfl⟩ (by simp only [walkW, walkX, if_true, if_false, reduceIte, Nat.reduceAdd, Nat.reduceSub, Nat.reduceLeDiff, Nat.reduceEqDiff, Nat.reduceMul, Nat.reduceLT, Int.reduceLT, Int.reduceLE, Int.reduceEq]) fun x hx => ?_
   obtain ⟨lo, hi⟩ := x
   obtain ⟨x1, x2, x3⟩ := hx
   dsimp only at x1 x2 x3
   by_cases g : lo < hi
   ·have hm : (lo + hi) / 2 < l.length := by omega
    have e1 : IntKind.i64.wrap ((lo : Int) + (hi : Int)) = ((lo + hi : Nat) : Int) := wrap_in (by unfold In64; omega)
    have e2 : IntKind.u64.wrap ((lo + hi : Nat) : Int) = ((lo + hi : Nat) : Int) := by
     have : ((lo + hi : Nat) : Int) % 18446744073709551616 = ((lo + hi : Nat) : Int) := Int.emod_eq_of_lt (by omega) (by omega)
     exact this
    have e3 : ∀ k', binV .shr (.i .u64 ((lo + hi : Nat) : Int)) (.i k' 1) = some (.i .u64 (((lo + hi) / 2 : Nat) : Int)) := fun k' => by
     show (if (1 : Int) < 0 then none else some (AV.i .u64 (Int.fdiv ((lo + hi : Nat) : Int) (2 ^ (min (1 : Int).toNat IntKind.u64.bits))))) = _
     rw [if_neg (by decide), show ((2 : Int) ^ (min (1 : Int).toNat IntKind.u64.bits)) = 2 from by decide, Int.fdiv_eq_ediv_of_nonneg _ (by decide)]
     rfl
    have e4 : IntKind.i64.wrap (((lo + hi) / 2 : Nat) : Int) = (((lo + hi) / 2 : Nat) : Int) := wrap_in (by unfold In64; omega)
    have e5 : IntKind.i64.wrap ((((lo + hi) / 2 : Nat) : Int) + 1) = (((lo + hi) / 2 + 1 : Nat) : Int) := wrap_in (by unfold In64; omega)
    have e6 : ∀ k x, (AV.i k x).int? = some x := fun _ _ => rfl
    simp only [walkW, walkD, walkX, if_true, if_false, reduceIte, Nat.reduceAdd, Nat.reduceSub, Nat.reduceLeDiff, Nat.reduceEqDiff, Nat.reduceMul, Nat.reduceLT, Int.reduceLT, Int.reduceLE, Int.reduceEq, CO.tmps, Opd.tmps, optT, Nat.reducePow, Nat.reduceDiv, Nat.reduceMod, f1, g, hm, e1, e2, e3, e4, e5, e6, dotR_f, T_compare, pr_eta, mask_own hz, HOk_own hh]
    have x4 : ∀ (_ : True), bsI l (a, b) lo hi = if cmpD (l.getD ((lo + hi) / 2) dotR.d) (a, b) < 0 then bsI l (a, b) ((lo + hi) / 2 + 1) hi else bsI l (a, b) lo ((lo + hi) / 2) := fun _ => by rw [bsI, if_pos g]
    refine ⟨fun q => ⟨((lo + hi) / 2 + 1, hi), ⟨by dsimp only; omega, x2, ?_⟩, by dsimp only; omega, Wk.refl _, Wk.refl _⟩, fun q => ⟨(lo, (lo + hi) / 2), ⟨by dsimp only; omega, by dsimp only; omega, ?_⟩, by dsimp only; omega, Wk.refl _, Wk.refl _⟩⟩
    ·rw [← x3, x4 trivial, if_pos q]
    ·rw [← x3, x4 trivial, if_neg q]
   ·obtain rfl : lo = hi := by omega
    have x4 : bsI l (a, b) 0 l.length = lo := by rw [← x3, bsI, if_neg (Nat.lt_irrefl _)]
    by_cases g2 : lo < l.length
    ·simp only [walkW, walkD, walkX, if_true, if_false, reduceIte, Nat.reduceAdd, Nat.reduceSub, Nat.reduceLeDiff, Nat.reduceEqDiff, Nat.reduceMul, Nat.reduceLT, Int.reduceLT, Int.reduceLE, Int.reduceEq, CO.tmps, Opd.tmps, optT, Nat.reducePow, Nat.reduceDiv, Nat.reduceMod, f1, g, g2, x4, dotR_f, T_compare, pr_eta, mask_own hz, HOk_own hh]
     exact Bt.drop _ hh rfl rfl
    ·simp only [walkW, walkD, walkX, if_true, if_false, reduceIte, Nat.reduceAdd, Nat.reduceSub, Nat.reduceLeDiff, Nat.reduceEqDiff, Nat.reduceMul, Nat.reduceLT, Int.reduceLT, Int.reduceLE, Int.reduceEq, CO.tmps, Opd.tmps, optT, Nat.reducePow, Nat.reduceDiv, Nat.reduceMod, f1, g, g2, x4, dotR_f, T_compare, pr_eta, mask_own hz, HOk_own hh]
     exact Bt.drop _ hh (by rw [decide_eq_false fun q => q.1]) rfl
  ·cases e
 ·cases e
def chasP (v : List Int) (ds : Dots) (d : Int × Int) : Prop := (bsI ds d 0 ds.length < ds.length ∧ cmpD (ds.getD (bsI ds d 0 ds.length) dotR.d) d = 0) ∨ vHasP v d
instance (v : List Int) (ds : Dots) (d : Int × Int) : Decidable (chasP v ds d) := by unfold chasP; infer_instance
noncomputable def T_chas : List AV → List AB → Option (AV × List AB)
 | [.ag [s, t], .ag [.i .i64 a, .i .i64 b]], h => (getS intR h s).bind fun v => (getS dotR h t).bind fun ds => if ds.length ≤ 1000000 then some (.b (decide (chasP v ds (a, b))), h) else none
 | _, _ => none
theorem chas_spec : Spec Tryz.prog 78 T_chas := by
 intro args h v h' e
 unfold T_chas at e
 split at e
 ·rename_i s t a b
  obtain ⟨vs, hs, e⟩ := getS_bind e
  obtain ⟨ds, ht, e⟩ := getS_bind e
  split at e
  ·rename_i hl
   cases e
   refine FnAt.c (FnAt.run (by kernel_rfl) (T := ⟨[⟨112, T_bs, fun _ => []⟩, ⟨113, T_vHas, fun _ => []⟩], []⟩) ⟨⟨bs_spec, vHas_spec, trivial⟩, trivial⟩ Tryz.func78 sw78 fun ho hh => ?_)
   simp only [okL_cons, ok_ag, Bool.and_eq_true] at ho
   have f1 := hs.fx ho.1.1 (sz := 1) rfl
   have f2 := ht.fx ho.1.2.1 (sz := 2) rfl
   unfold w78
   simp only [rep_0, rep_s, walkW, walkX, if_true, if_false, reduceIte, Nat.reduceAdd, Nat.reduceSub, Nat.reduceLeDiff, Nat.reduceEqDiff, Nat.reduceMul, Nat.reduceLT, Int.reduceLT, Int.reduceLE, Int.reduceEq, f1, f2, T_bs, T_vHas, hl]
   refine ⟨fun q => Bt.dropB _ hh (decide_eq_true (.inl q)).symm, fun q => Bt.dropB _ hh ?_⟩
   exact decide_eq_decide.2 ⟨fun z => .inr z, fun z => z.resolve_left q⟩
  ·cases e
 ·cases e
end Go.Proofs.YtcncpbcbedfakaaGreat
end
section
namespace Go.Proofs.YtcncpbcbedfakaaGreat
set_option maxRecDepth 100000
set_option maxHeartbeats 4000000
set_option linter.unusedSimpArgs false
theorem vAt_ge0 (xs : List Int) (r : Int) : 0 ≤ vAt xs r := by unfold vAt; split <;> (try split) <;> omega
end Go.Proofs.YtcncpbcbedfakaaGreat
end
section
namespace Go.Proofs.YtcncpbcbedfakaaGreat
set_option maxRecDepth 100000
set_option maxHeartbeats 4000000
set_option linter.unusedSimpArgs false
noncomputable def T_chk (chk : List Int → Dots → Int) : List AV → List AB → Option (AV × List AB)
 | [.ag [s, t]], h => (getS intR h s).bind fun v => (getS dotR h t).bind fun ds => some (.i .i64 (chk v ds), h)
 | _, _ => none
noncomputable def T_cboth (chk : List Int → Dots → Int) : List AV → List AB → Option (AV × List AB)
 | [.ag [s, t], .ag [s', t']], h => (getS intR h s).bind fun v => (getS dotR h t).bind fun ds => (getS intR h s').bind fun v' => (getS dotR h t').bind fun ds' => some (.i .i64 (if chk v ds = 0 then chk v' ds' else chk v ds), h)
 | _, _ => none
theorem cboth_spec (chk : List Int → Dots → Int) (hC : Spec Tryz.prog 59 (T_chk chk)) : Spec Tryz.prog 76 (T_cboth chk) := by
 intro args h v h' e
 unfold T_cboth at e
 split at e
 ·rename_i s t s' t'
  obtain ⟨vs, hs, e⟩ := getS_bind e
  obtain ⟨ds, ht, e⟩ := getS_bind e
  obtain ⟨vs', hs', e⟩ := getS_bind e
  obtain ⟨ds', ht', e⟩ := getS_bind e
  cases e
  refine FnAt.c (FnAt.run (by kernel_rfl) (T := ⟨[⟨59, T_chk chk, fun _ => []⟩], []⟩) ⟨⟨hC, trivial⟩, trivial⟩ Tryz.func76 sw76 fun ho hh => ?_)
  simp only [okL_cons, ok_ag, Bool.and_eq_true] at ho
  have f1 := hs.fx ho.1.1 (sz := 1) rfl
  have f2 := ht.fx ho.1.2.1 (sz := 2) rfl
  have f3 := hs'.fx ho.2.1.1 (sz := 1) rfl
  have f4 := ht'.fx ho.2.1.2.1 (sz := 2) rfl
  unfold w76
  simp only [rep_0, rep_s, walkW, walkX, if_true, if_false, reduceIte, Nat.reduceAdd, Nat.reduceSub, Nat.reduceLeDiff, Nat.reduceEqDiff, Nat.reduceMul, Nat.reduceLT, Int.reduceLT, Int.reduceLE, Int.reduceEq, f1, f2, f3, f4, T_chk]
  exact ⟨fun q => Bt.dropI _ hh (by rw [if_neg q]), fun q => Bt.dropI _ hh (by rw [if_pos (Decidable.not_not.1 q)])⟩
 ·cases e
noncomputable def T_cHas (chk : List Int → Dots → Int) : List AV → List AB → Option (AV × List AB)
 | [.ag [s, t], .ag [.i .i64 a, .i .i64 b]], h => (getS intR h s).bind fun v => (getS dotR h t).bind fun ds => some (.b (decide (chk v ds = 0 ∧ chasP v ds (a, b))), h)
 | _, _ => none
theorem cHas_spec (chk : List Int → Dots → Int) (h0 : ∀ v ds, chk v ds = 0 → rangedP v ds ∧ ds.length ≤ 4096) (hC : Spec Tryz.prog 59 (T_chk chk)) : Spec Tryz.prog 39 (T_cHas chk) := by
 intro args h v h' e
 unfold T_cHas at e
 split at e
 ·rename_i s t a b
  obtain ⟨vs, hs, e⟩ := getS_bind e
  obtain ⟨ds, ht, e⟩ := getS_bind e
  cases e
  refine FnAt.c (FnAt.run (by kernel_rfl) (T := ⟨[⟨59, T_chk chk, fun _ => []⟩, ⟨78, T_chas, fun _ => []⟩], []⟩) ⟨⟨hC, chas_spec, trivial⟩, trivial⟩ Tryz.func39 sw39 fun ho hh => ?_)
  simp only [okL_cons, ok_ag, Bool.and_eq_true] at ho
  have f1 := hs.fx ho.1.1 (sz := 1) rfl
  have f2 := ht.fx ho.1.2.1 (sz := 2) rfl
  unfold w39
  by_cases q : chk vs ds = 0
  ·have hl : (ds.length ≤ 1000000) = True := eq_true (by have := (h0 vs ds q).2; omega)
   have q' := eq_true q
   simp only [rep_0, rep_s, walkW, walkX, if_true, if_false, reduceIte, Nat.reduceAdd, Nat.reduceSub, Nat.reduceLeDiff, Nat.reduceEqDiff, Nat.reduceMul, Nat.reduceLT, Int.reduceLT, Int.reduceLE, Int.reduceEq, f1, f2, T_chk, T_chas, hl, q']
   exact ⟨Bt.dropB _ hh rfl, fun q => q.elim⟩
  ·have q' := eq_false q
   simp only [rep_0, rep_s, walkW, walkX, if_true, if_false, reduceIte, Nat.reduceAdd, Nat.reduceSub, Nat.reduceLeDiff, Nat.reduceEqDiff, Nat.reduceMul, Nat.reduceLT, Int.reduceLT, Int.reduceLE, Int.reduceEq, f1, f2, T_chk, T_chas, q']
   exact ⟨fun q => q.elim, Bt.dropB _ hh (decide_eq_false fun q => q.1).symm⟩
 ·cases e
def maxC (v : List Int) (ds : Dots) (r : Int) : Nat → Int
 | 0 => vAt v r
 | i + 1 => if (ds.getD i dotR.d).1 = r then max (maxC v ds r i) (ds.getD i dotR.d).2 else maxC v ds r i
def nextC (chk : List Int → Dots → Int) (v : List Int) (ds : Dots) (r : Int) : (Int × Int) × Int :=
 if chk v ds ≠ 0 then ((0, 0), chk v ds) else if r < 1 ∨ 16 < r then ((0, 0), 3)
 else if 1048576 ≤ maxC v ds r ds.length then ((0, 0), 10) else ((r, maxC v ds r ds.length + 1), 0)
theorem maxC_ge (v : List Int) (ds : Dots) (r : Int) : ∀ i, 0 ≤ maxC v ds r i
 | 0 => vAt_ge0 v r
 | i + 1 => by
  have h1 := maxC_ge v ds r i
  unfold maxC
  split <;> omega
noncomputable def T_cNext (chk : List Int → Dots → Int) : List AV → List AB → Option (AV × List AB)
 | [.ag [s, t], .i .i64 r], h => (getS intR h s).bind fun v => (getS dotR h t).bind fun ds => some (.tu [.ag [.i .i64 (nextC chk v ds r).1.1, .i .i64 (nextC chk v ds r).1.2], .i .i64 (nextC chk v ds r).2], h)
 | _, _ => none
theorem cNext_spec (chk : List Int → Dots → Int) (hC : Spec Tryz.prog 59 (T_chk chk)) : Spec Tryz.prog 41 (T_cNext chk) := by
 intro args h v h' e
 unfold T_cNext at e
 split at e
 ·rename_i s t r
  obtain ⟨vs, hs, e⟩ := getS_bind e
  obtain ⟨ds, ht, e⟩ := getS_bind e
  cases e
  refine FnAt.c (FnAt.run (by kernel_rfl) (T := ⟨[⟨59, T_chk chk, fun _ => []⟩, ⟨77, T_At, fun _ => []⟩], []⟩) ⟨⟨hC, at_spec, trivial⟩, trivial⟩ Tryz.func41 sw41 fun ho hh => ?_)
  simp only [okL_cons, ok_ag, Bool.and_eq_true] at ho
  have f1 := hs.fx ho.1.1 (sz := 1) rfl
  have f2 := ht.fx ho.1.2.1 (sz := 2) rfl
  have m2 := ht.2
  unfold maxLen at m2
  unfold w41
  simp only [rep_0, rep_s, walkW, walkX, if_true, if_false, reduceIte, Nat.reduceAdd, Nat.reduceSub, Nat.reduceLeDiff, Nat.reduceEqDiff, Nat.reduceMul, Nat.reduceLT, Int.reduceLT, Int.reduceLE, Int.reduceEq, f1, f2, T_chk, T_At]
  have vv : ∀ x : (Int × Int) × Int, nextC chk vs ds r = x → AV.tu [.ag [.i .i64 x.1.1, .i .i64 x.1.2], .i .i64 x.2] = .tu [.ag [.i .i64 (nextC chk vs ds r).1.1, .i .i64 (nextC chk vs ds r).1.2], .i .i64 (nextC chk vs ds r).2] := fun x hx => by rw [hx]
  refine ⟨fun q => Bt.drop _ hh (vv ((0, 0), chk vs ds) ?_) rfl, fun q => ⟨fun q1 => Bt.drop _ hh (vv ((0, 0), 3) ?_) rfl, fun q1 => ⟨fun q2 => Bt.drop _ hh (vv ((0, 0), 3) ?_) rfl, fun q2 => ?_⟩⟩⟩
  ·unfold nextC
   rw [if_pos q]
  ·unfold nextC
   rw [if_neg q, if_pos (.inl q1)]
  ·unfold nextC
   rw [if_neg q, if_pos (.inr q2)]
  have q3 : ¬ (r < 1 ∨ 16 < r) := fun z => z.elim q1 q2
  have fo3 : ∀ c, t.ok (fun i => decide (i < h.length + c)) = true := fun c => AV.ok_mono (fun i q => by simp only [decide_eq_true_eq] at q ⊢; omega) _ ho.1.2.1
  have fr2 : ∀ sel, Wk (t.ren (selN h.length sel)) t := fun sel => Wk.ren (fun i hi => selN_old hi) ho.1.2.1
  have fo1 : ∀ c, s.ok (fun i => decide (i < h.length + c)) = true := fun c => AV.ok_mono (fun i q => by simp only [decide_eq_true_eq] at q ⊢; omega) _ ho.1.1
  have fr1 : ∀ sel, Wk (s.ren (selN h.length sel)) s := fun sel => Wk.ren (fun i hi => selN_old hi) ho.1.1
  refine W_loopS (S := Nat) (fun i => ds.length - i) (fun i => tp 1 ++ [.i .i64 r] ++ tp 2 ++ [.p (h.length + 1) 0] ++ tp 2 ++ [.i .i64 (maxC vs ds r i)] ++ tp 20 ++ [t, .i .i64 ds.length, .i .i64 i] ++ tp 19) (fun _ => h ++ [.blk false true [s, t], .blk true true [.i .i64 0, .i .i64 0]]) (fun i => i ≤ ds.length) 0 (Nat.zero_le _) ?_ fun i hi => ?_
  ·exact Bt.wk (by simp only [walkW, walkX, if_true, if_false, reduceIte, Nat.reduceAdd, Nat.reduceSub, Nat.reduceLeDiff, Nat.reduceEqDiff, Nat.reduceMul, Nat.reduceLT, Int.reduceLT, Int.reduceLE, Int.reduceEq, maxC])
  have bd := maxC_ge vs ds r i
  simp only [walkW, walkX, if_true, if_false, reduceIte, Nat.reduceAdd, Nat.reduceSub, Nat.reduceLeDiff, Nat.reduceEqDiff, Nat.reduceMul, Nat.reduceLT, Int.reduceLT, Int.reduceLE, Int.reduceEq, f1, f2]
  refine ⟨fun g1 => ?_, fun g1 => ?_⟩
  ·have e1 : IntKind.i64.wrap ((i : Int) + 1) = ((i + 1 : Nat) : Int) := wrap_in (by unfold In64; omega)
   simp only [walkW, walkX, if_true, if_false, reduceIte, Nat.reduceAdd, Nat.reduceSub, Nat.reduceLeDiff, Nat.reduceEqDiff, Nat.reduceMul, Nat.reduceLT, Int.reduceLT, Int.reduceLE, Int.reduceEq, f1, f2, g1, dotR_f, e1]
   refine ⟨fun g2 => ⟨i + 1, g1, by dsimp only; omega, ?_⟩, fun g2 => ⟨i + 1, g1, by dsimp only; omega, ?_⟩⟩
   ·simp only [maxC, if_pos g2]
    exact Bt.sel [0, 1] hh (by decide) (by simp only [walkS, FrSel, BlkSel, AV.ren, renL, AV.ok, okL, Option.some.injEq, exists_eq_left', List.length_cons, List.length_nil, Nat.reduceAdd, Nat.reduceLT, reduceCtorEq, implies_true, exists_eq', fo1, fo3, fr1, fr2]) (by simp only [walkS, FrSel, BlkSel, AV.ren, renL, AV.ok, okL, Option.some.injEq, exists_eq_left', List.length_cons, List.length_nil, Nat.reduceAdd, Nat.reduceLT, reduceCtorEq, implies_true, exists_eq', fo1, fo3, fr1, fr2])
   ·simp only [maxC, if_neg g2]
    exact Bt.sel [0, 1] hh (by decide) (by simp only [walkS, FrSel, BlkSel, AV.ren, renL, AV.ok, okL, Option.some.injEq, exists_eq_left', List.length_cons, List.length_nil, Nat.reduceAdd, Nat.reduceLT, reduceCtorEq, implies_true, exists_eq', fo1, fo3, fr1, fr2]) (by simp only [walkS, FrSel, BlkSel, AV.ren, renL, AV.ok, okL, Option.some.injEq, exists_eq_left', List.length_cons, List.length_nil, Nat.reduceAdd, Nat.reduceLT, reduceCtorEq, implies_true, exists_eq', fo1, fo3, fr1, fr2])
  ·obtain rfl : i = ds.length := by omega
   by_cases g2 : 1048576 ≤ maxC vs ds r ds.length
   ·have g2' := eq_true g2
    simp only [g2']
    refine ⟨fun _ => Bt.drop _ hh (vv ((0, 0), 10) ?_) rfl, fun q => absurd trivial q⟩
    unfold nextC
    rw [if_neg q, if_neg q3, if_pos g2]
   ·have e1 : IntKind.i64.wrap (maxC vs ds r ds.length + 1) = maxC vs ds r ds.length + 1 := wrap_in (by unfold In64; omega)
    simp only [e1]
    refine ⟨fun z => absurd z g2, fun _ => Bt.drop _ hh (vv ((r, maxC vs ds r ds.length + 1), 0) ?_) rfl⟩
    unfold nextC
    rw [if_neg q, if_neg q3, if_neg g2]
 ·cases e
end Go.Proofs.YtcncpbcbedfakaaGreat
end
section
namespace Go.Proofs.YtcncpbcbedfakaaGreat
set_option maxRecDepth 100000
set_option linter.unusedSimpArgs false
def boxOf (h : List AB) (id : Nat) : Option (AV × AV) :=
 match h[id]? with
 | some (.blk false true [v, d]) => if v.isSl = true ∧ d.isSl = true then some (v, d) else none
 | _ => none
theorem boxOf_some {h : List AB} {id : Nat} {x : AV × AV} (e : boxOf h id = some x) : h[id]? = some (.blk false true [x.1, x.2]) ∧ x.1.isSl = true ∧ x.2.isSl = true := by
 unfold boxOf at e
 split at e
 ·rename_i v d hb
  split at e
  ·rename_i hs
   cases e
   exact ⟨hb, hs⟩
  ·cases e
 ·cases e
theorem HOk_box {h : List AB} {id : Nat} {v d : AV} (hh : HOk h) (hb : h[id]? = some (.blk false true [v, d])) : v.ok (fun i => decide (i < h.length)) = true ∧ d.ok (fun i => decide (i < h.length)) = true := by
 have := hh id _ hb
 simpa [AB.ok, okL] using this
noncomputable def T_first : List AV → List AB → Option (AV × List AB)
 | [.p id 0, s], h => (boxOf h id).bind fun x => (getS intR h x.1).bind fun xs => (getS intR h s).bind fun ys => if xs.length ≤ 1000000 ∧ ys.length ≤ 1000000 then some (.p id 0, bx2 h id (rsl intR h.length (vjoin xs ys)) x.2 ++ [resB intR true (vjoin xs ys)]) else none
 | _, _ => none
theorem first_spec : Spec Tryz.prog 83 T_first := by
 intro args h v h' e
 unfold T_first at e
 split at e
 ·rename_i id s
  obtain ⟨⟨v0, d0⟩, hx, e⟩ := Option.bind_eq_some_iff.1 e
  obtain ⟨hb, hv, hd⟩ := boxOf_some hx
  obtain ⟨xs, h1, e⟩ := getS_bind e
  obtain ⟨ys, h2, e⟩ := getS_bind e
  split at e
  ·rename_i hl
   cases e
   dsimp only at *
   refine FnAt.c (FnAt.run (by kernel_rfl) (T := ⟨[⟨117, T_Join, fun _ => []⟩], []⟩) ⟨⟨Join_spec, trivial⟩, trivial⟩ Tryz.func83 sw83 fun ho hh => ?_)
   simp only [okL_cons, Bool.and_eq_true] at ho
   have hid := (List.getElem?_eq_some_iff.1 hb).1
   have fb := bx2_fx hid
   have f1 := (h1.bx2 hb hv hd int_sl v0 d0).fxB (sz := 1) rfl
   have f2 := (h2.bx2 hb hv hd int_sl v0 d0).fxB (sz := 1) rfl
   rw [show h ++ [] = bx2 h id v0 d0 ++ [] by rw [bx2_same hb]]
   unfold w83
   simp only [rep_0, rep_s, walkW, walkM, if_true, if_false, reduceIte, Nat.reduceAdd, Nat.reduceSub, Nat.reduceLeDiff, Nat.reduceEqDiff, Nat.reduceMul, Nat.reduceLT, Int.reduceLT, Int.reduceLE, Int.reduceEq, T_Join, fb, f1, f2, hl]
   exact Bt.refl _ _ _
  ·cases e
 ·cases e
def T_done : List AV → List AB → Option (AV × List AB)
 | [.p id 0], h => (boxOf h id).bind fun x => (lenV x.2).bind fun n => if 4096 < n then some (.tu [.ag [.ns, .ns], .i .i64 10], h) else some (.tu [.ag [x.1, x.2], .i .i64 0], h)
 | _, _ => none
theorem done_spec : Spec Tryz.prog 86 T_done := by
 intro args h v h' e
 unfold T_done at e
 split at e
 ·rename_i id
  obtain ⟨⟨v0, d0⟩, hx, e⟩ := Option.bind_eq_some_iff.1 e
  obtain ⟨hb, hv, hd⟩ := boxOf_some hx
  obtain ⟨n, hn, e⟩ := Option.bind_eq_some_iff.1 e
  dsimp only at *
  refine FnAt.c (FnAt.run (by kernel_rfl) (T := ⟨[], []⟩) ⟨trivial, trivial⟩ Tryz.func86 sw86 fun ho hh => ?_)
  have hid := (List.getElem?_eq_some_iff.1 hb).1
  have fb := bx2_fx hid
  have e0 : h ++ [] = bx2 h id v0 d0 ++ [] := by rw [bx2_same hb]
  rw [e0]
  unfold w86
  simp only [rep_0, rep_s, walkW, walkM, if_true, if_false, reduceIte, Nat.reduceAdd, Nat.reduceSub, Nat.reduceLeDiff, Nat.reduceEqDiff, Nat.reduceMul, Nat.reduceLT, Int.reduceLT, Int.reduceLE, Int.reduceEq, fb, hn, sl_str hd, sl_str hv]
  rw [bx2_same hb]
  have ok := HOk_box hh hb
  refine ⟨fun h1 => ?_, fun h1 => ⟨by rw [sl_one hv, sl_one hd]; rfl, ?_⟩⟩
  ·rw [if_pos h1] at e
   cases e
   exact Bt.drop _ hh rfl (by simp [AV.ok, okL])
  ·rw [if_neg h1] at e
   cases e
   exact Bt.drop _ hh rfl (by simp [AV.ok, okL, ok.1, ok.2])
 ·cases e
def trimV (xs : List Int) : Nat → List Int
 | 0 => []
 | n + 1 => if xs.getD n intR.d = 0 then trimV xs n else xs.take (n + 1)
theorem cutS_cap {s : AV} {n m : Nat} (h : s.capOk = true) (hl : lenV s = some (n : Int)) (hm : m ≤ n) : (cutS s m).capOk = true := by
 cases s with
 | sl id off len cap k =>
  simp only [lenV, Option.some.injEq, Int.natCast_inj] at hl
  simp only [AV.capOk, cutS, decide_eq_true_eq] at h ⊢
  omega
 | _ => rfl
noncomputable def T_trimmed : List AV → List AB → Option (AV × List AB)
 | [.p id 0], h => (boxOf h id).bind fun x => (getS intR h x.1).bind fun xs => if x.1.capOk = true then some (.p id 0, bx2 h id (cutS x.1 (trimV xs xs.length).length) x.2) else none
 | _, _ => none
theorem cutS_cut (s : AV) (n m : Nat) : cutS (cutS s n) m = cutS s m := by cases s <;> rfl
theorem cutS_sl {s : AV} (h : s.isSl = true) (n : Nat) : (cutS s n).isSl = true := by cases s <;> first | rfl | cases h
theorem cutS_self {s : AV} {n : Nat} (h : lenV s = some (n : Int)) : cutS s n = s := by
 cases s with
 | sl id off len cap k =>
  simp only [lenV, Option.some.injEq, Int.natCast_inj] at h
  subst h
  rfl
 | _ => rfl
theorem Rd.cut {α : Type} {r : Row α} {h : List AB} {s : AV} {l : List α} (e : Rd r h s l) (n : Nat) (hn : n ≤ l.length) : Rd r h (cutS s n) (l.take n) := by
  refine ⟨?_, by have := e.2; rw [List.length_take]; omega⟩
  have h1 := e.1
  have hl := rdS_len h1
  cases s with
  | sl id off len cap k =>
    simp only [lenV, Option.some.injEq, Int.natCast_inj] at hl
    subst hl
    simp only [cutS, rdS] at h1 ⊢
    by_cases h0 : n = 0
    · subst h0
      rfl
    · rw [if_neg h0]
      rw [if_neg (by omega)] at h1
      obtain ⟨xs, h2, h3⟩ := Option.bind_eq_some_iff.1 h1
      rw [h2]
      split at h3
      · rename_i h4
        simp only [Option.some.injEq, Prod.mk.injEq, true_and] at h3
        have hle := Nat.mul_le_mul_right r.sz hn
        simp only [Option.bind_some]
        rw [if_pos (by omega), List.length_take, Nat.min_eq_left hn, ← r.cells_take, ← h3, List.take_take, Nat.min_eq_left hle]
      · cases h3
  | ns => simp only [lenV, Option.some.injEq] at hl; have h0 : n = 0 := by omega
          subst h0; rfl
  | se => simp only [lenV, Option.some.injEq] at hl; have h0 : n = 0 := by omega
          subst h0; rfl
  | _ => cases h1
theorem cutS_ok {q : Nat → Bool} {s : AV} {n m : Nat} (h : s.ok q = true) (hl : lenV s = some (n : Int)) (hm : m ≤ n) : (cutS s m).ok q = true := by
 cases s with
 | sl id off len cap k =>
  simp only [lenV, Option.some.injEq, Int.natCast_inj] at hl
  rcases sl_ok h with ⟨rfl, rfl, rfl⟩ | h1
  ·have : m = 0 := by omega
   subst this
   exact h
  ·simp [cutS, AV.ok, h1]
 | _ => exact h
theorem slL_cut {sz : Nat} {s : AV} {n m : Nat} (hs : s.isSl = true) (hl : lenV s = some (n : Int)) (hok : s.capOk = true) (hm : m ≤ n) : slL sz s none (some (.i .i64 (m : Int))) none = some (cutS s m) := by
  cases s with
  | sl id off len cap k =>
    simp only [lenV, Option.some.injEq, Int.natCast_inj] at hl
    subst hl
    have : len ≤ cap := of_decide_eq_true hok
    simp only [slL, bnd, Option.map_some, cutS, if_true]
    rw [if_pos (by omega)]
    simp
  | ns => simp only [lenV, Option.some.injEq] at hl; have h0 : m = 0 := by omega
          subst h0; simp [slL, bnd, cutS]
  | se => simp only [lenV, Option.some.injEq] at hl; have h0 : m = 0 := by omega
          subst h0; simp [slL, bnd, cutS]
  | _ => cases hs
theorem trimmed_spec : Spec Tryz.prog 85 T_trimmed := by
 intro args h v h' e
 unfold T_trimmed at e
 split at e
 ·rename_i id
  obtain ⟨⟨v0, d0⟩, hx, e⟩ := Option.bind_eq_some_iff.1 e
  obtain ⟨hb, hv, hd⟩ := boxOf_some hx
  obtain ⟨xs, h1, e⟩ := getS_bind e
  split at e
  ·rename_i hcap
   cases e
   dsimp only at *
   refine FnAt.c (FnAt.run (by kernel_rfl) (T := ⟨[], []⟩) ⟨trivial, trivial⟩ Tryz.func85 sw85 fun ho hh => ?_)
   have hid := (List.getElem?_eq_some_iff.1 hb).1
   have fb := bx2_fx hid
   have hlen := h1.len
   have e0 : h ++ [] = bx2 h id (cutS v0 xs.length) d0 ++ [] := by rw [cutS_self hlen, bx2_same hb]
   rw [e0]
   unfold w85
   simp only [rep_0, rep_s, walkW, walkM, if_true, if_false, reduceIte, Nat.reduceAdd, Nat.reduceSub, Nat.reduceLeDiff, Nat.reduceEqDiff, Nat.reduceMul, Nat.reduceLT, Int.reduceLT, Int.reduceLE, Int.reduceEq]
   refine W_loopS (S := Nat) (fun n => n) (fun _ => [.p id 0] ++ tp 44) (fun n => bx2 h id (cutS v0 n) d0 ++ []) (fun n => n ≤ xs.length ∧ trimV xs xs.length = trimV xs n) xs.length ⟨Nat.le_refl _, rfl⟩ (Bt.wk (by simp only [walkW, walkM, if_true, if_false, reduceIte, Nat.reduceAdd, Nat.reduceSub, Nat.reduceLeDiff, Nat.reduceEqDiff, Nat.reduceMul, Nat.reduceLT, Int.reduceLT, Int.reduceLE, Int.reduceEq])) fun n hn => ?_
   have hs1 := cutS_sl hv n
   have r1 := (h1.bx2 hb hv hd int_sl (cutS v0 n) d0).cut n hn.1
   have f1 := r1.fxB (sz := 1) rfl
   have fl := r1.len
   have fi : ∀ k m, iadV 1 (cutS v0 n) (.i k m) = _ := r1.iad
   have ok := HOk_box hh hb
   have o1 := cutS_ok ok.1 hlen hn.1
   have fo : ∀ c lo hi anc past, (cutS v0 n).ok (qOk (h.length + c) lo hi anc past) = true := fun c lo hi anc past => AV.ok_mono (fun i q => qOk_lt (by simp only [decide_eq_true_eq] at q; omega)) _ o1
   have fe : ∀ k j c lo hi anc past, k < (xs.take n).length → (elP 1 (cutS v0 n) k j).ok (qOk (h.length + c) lo hi anc past) = true := fun k j c lo hi anc past hk => r1.okEl (fo c lo hi anc past) k j 1 hk
   have ln : (xs.take n).length = n := by rw [List.length_take]; omega
   rw [ln] at fl fi fe
   simp only [ln] at f1
   have hidz : id < (h.map AB.freeze).length := by rw [List.length_map]; exact hid
   have fz := bx2_fx hidz
   simp only [List.length_map] at fz
   cases n with
   | zero =>
    simp only [walkW, walkD, walkM, if_true, if_false, reduceIte, Nat.reduceAdd, Nat.reduceSub, Nat.reduceLeDiff, Nat.reduceEqDiff, Nat.reduceMul, Nat.reduceLT, Int.reduceLT, Int.reduceLE, Int.reduceEq, CO.tmps, Opd.tmps, optT, Nat.reducePow, Nat.reduceDiv, Nat.reduceMod, fb, f1, fl, fi, fo, fe, sl_str hs1, Int.lt_irrefl, Int.natCast_zero, false_implies, true_implies, implies_true]
    rw [hn.2, show trimV xs 0 = [] from rfl]
    exact Bt.eq rfl (List.append_nil _)
   | succ m =>
    have e1 : IntKind.i64.wrap (((m + 1 : Nat) : Int) - 1) = (m : Int) := by
     rw [show ((m + 1 : Nat) : Int) - 1 = (m : Int) by omega]
     exact wrap_in (by have := h1.2; unfold maxLen at this; unfold In64; omega)
    have e2 : (0 < ((m + 1 : Nat) : Int)) = True := eq_true (by omega)
    have e3 : (m < m + 1) = True := eq_true (by omega)
    have e4 := slL_cut (sz := 1) hs1 fl (cutS_cap hcap hlen hn.1) (m := m) (by omega)
    rw [cutS_cut] at e4
    have e5 : (xs.take (m + 1)).getD m intR.d = xs.getD m intR.d := by
     rw [List.getD_eq_getElem?_getD, List.getD_eq_getElem?_getD, List.getElem?_take, if_pos (by omega)]
    have o2 := cutS_ok ok.1 hlen (m := m) (by omega)
    have fo2 : ∀ c lo hi anc past, (cutS v0 m).ok (qOk (h.length + c) lo hi anc past) = true := fun c lo hi anc past => AV.ok_mono (fun i q => qOk_lt (by simp only [decide_eq_true_eq] at q; omega)) _ o2
    have fo3 : ∀ c, (cutS v0 m).ok (fun i => decide (i < h.length + c)) = true := fun c => AV.ok_mono (fun i q => by simp only [decide_eq_true_eq] at q ⊢; omega) _ o2
    have fd2 : ∀ c lo hi anc past, d0.ok (qOk (h.length + c) lo hi anc past) = true := fun c lo hi anc past => AV.ok_mono (fun i q => qOk_lt (by simp only [decide_eq_true_eq] at q; omega)) _ ok.2
    have hk : ∀ x, HOk (bx2 h id (cutS v0 (m + 1)) d0 ++ x) = _ := fun x => HOk_ownP (bx2_len id _ _) (bx2_ok hid hh o1 ok.2) x
    simp only [walkW, walkD, walkM, if_true, if_false, reduceIte, Nat.reduceAdd, Nat.reduceSub, Nat.reduceLeDiff, Nat.reduceEqDiff, Nat.reduceMul, Nat.reduceLT, Int.reduceLT, Int.reduceLE, Int.reduceEq, CO.tmps, Opd.tmps, optT, Nat.reducePow, Nat.reduceDiv, Nat.reduceMod, fb, fz, f1, fl, fi, fo, fo2, fo3, fd2, fe, sl_str hs1, e1, e2, e3, e4, e5, intR_sz, intR_f, Nat.zero_lt_one, hk, mask_box rfl hid, merge_box hid, getD_box hidz, bx2_app_len, bx2_drop, List.length_map, sl_one (cutS_sl hv m)]
    refine ⟨fun h4 => ⟨m, ⟨by omega, ?_⟩, by dsimp only; omega, Bt.wk (by simp only [walkW, walkX, if_true, if_false, reduceIte, Nat.reduceAdd, Nat.reduceSub, Nat.reduceLeDiff, Nat.reduceEqDiff, Nat.reduceMul, Nat.reduceLT, Int.reduceLT, Int.reduceLE, Int.reduceEq])⟩, fun h4 => ?_⟩
    ·rw [hn.2, trimV, if_pos h4]
    ·have : (trimV xs xs.length).length = m + 1 := by rw [hn.2, trimV, if_neg h4, List.length_take]; omega
     rw [this]
     exact Bt.eq rfl (List.append_nil _)
  ·cases e
 ·cases e
end Go.Proofs.YtcncpbcbedfakaaGreat
end
