/- Part 27 of what the laws' proofs rest on. No condition. -/
import Derived.Test.YtcncpbcbedfakaaGreatRm26
set_option linter.all false
section
namespace Go.Proofs.YtcncpbcbedfakaaGreat
set_option maxRecDepth 100000
set_option maxHeartbeats 4000000
set_option linter.unusedSimpArgs false
def dgB (n : Int) : Dg := ⟨UInt8.ofInt n :: List.replicate 31 0, by simp⟩
theorem dgB_f {n : Int} (h : 0 ≤ n ∧ n < 256) : idR.f (dgB n) = .i .u8 n :: List.replicate 31 (.i .u8 0) := by
 have e : ((UInt8.ofInt n).toNat : Int) = n := by
  simp [UInt8.ofInt]
  omega
 show u8A (UInt8.ofInt n) :: (List.replicate 31 (0 : UInt8)).map u8A = _
 unfold u8A
 rw [e]
 rfl
def T_dot16 : List AV → List AB → Option (AV × List AB)
 | [.i .i64 a, .i .i64 b], h => some (.ag [.i .i64 a, .i .i64 b], h)
 | _, _ => none
theorem dot16_spec : Spec Tryz.prog 34 T_dot16 := by
 intro args h v h' e
 unfold T_dot16 at e
 split at e
 ·cases e
  refine FnAt.c (FnAt.run (by kernel_rfl) (T := ⟨[], []⟩) ⟨trivial, trivial⟩ Tryz.func34 sw34 fun ho hh => ?_)
  unfold w34
  simp only [rep_0, rep_s, walkW, walkX, if_true, if_false, reduceIte, Nat.reduceAdd, Nat.reduceSub, Nat.reduceLeDiff, Nat.reduceEqDiff, Nat.reduceMul, Nat.reduceLT, Int.reduceLT, Int.reduceLE, Int.reduceEq]
  exact Bt.drop _ hh rfl (by simp only [ok_tu, okL_cons, okL_nil, ok_ag, ok_ns, ok_i, Bool.and_true])
 ·cases e
def T_held16 : List AV → List AB → Option (AV × List AB)
 | [.i .u8 n, .i .i64 a, .i .i64 b], h => if 0 ≤ n ∧ n < 256 then some (.ag (heldR.f ((a, b), dgB n)), h) else none
 | _, _ => none
theorem held16_spec : Spec Tryz.prog 32 T_held16 := by
 intro args h v h' e
 unfold T_held16 at e
 split at e
 ·rename_i n a b
  split at e
  ·rename_i hn
   cases e
   refine FnAt.c (FnAt.run (by kernel_rfl) (T := ⟨[⟨34, T_dot16, fun _ => []⟩], []⟩) ⟨⟨dot16_spec, trivial⟩, trivial⟩ Tryz.func32 sw32 fun ho hh => ?_)
   unfold w32
   rw [heldR_f, dgB_f hn]
   simp only [rep_0, rep_s, walkW, walkX, if_true, if_false, reduceIte, Nat.reduceAdd, Nat.reduceSub, Nat.reduceLeDiff, Nat.reduceEqDiff, Nat.reduceMul, Nat.reduceLT, Int.reduceLT, Int.reduceLE, Int.reduceEq, T_dot16]
   exact Bt.drop _ hh rfl (by simp only [ok_tu, okL_cons, okL_nil, ok_ag, ok_ns, ok_i, Bool.and_true])
  ·cases e
 ·cases e
noncomputable def T_of16 : List AV → List AB → Option (AV × List AB)
 | [.i .i64 a, .i .i64 b, s], h => if rangedP [a, b] [] ∧ s.isSl = true then some (.ag [s, rsl intR h.length (fmO [a, b] []).1, rsl dotR (h.length + 1) (fmO [a, b] []).2], h ++ [resB intR true (fmO [a, b] []).1, resB dotR true (fmO [a, b] []).2]) else none
 | _, _ => none
theorem of16_spec : Spec Tryz.prog 31 T_of16 := by
 intro args h v h' e
 unfold T_of16 at e
 split at e
 ·rename_i a b s
  split at e
  ·rename_i hr
   cases e
   refine FnAt.c (FnAt.run (by kernel_rfl) (T := ⟨[⟨58, T_cMake, fun _ => []⟩], []⟩) ⟨⟨Make_spec, trivial⟩, trivial⟩ Tryz.func31 sw31 fun ho hh => ?_)
   simp only [okL_cons, Bool.and_eq_true] at ho
   have os := ho.2.2.1
   have hr1 := eq_true hr.1
   have fs : ∀ c, s.ok (fun i => decide (i < h.length + c)) = true := fun c => AV.ok_mono (fun i q => by simp only [decide_eq_true_eq] at q ⊢; omega) s os
   have fr : ∀ sel, Wk (s.ren (selN h.length sel)) s := fun sel => Wk.ren (fun i hi => selN_old hi) os
   have gu : ∀ (L : List AB) (k : Nat), ownC L k = some [.i .i64 a, .i .i64 b] → getS intR (h ++ L) (.sl (h.length + k) 0 2 2 none) = some [a, b] := fun L k q => (Rd_ownT (r := intR) (n := 2) (l := [a, b]) q (by unfold maxLen; simp) (by simp)).get
   have f0 : (([] : Dots).length ≤ 100000) = True := eq_true (Nat.zero_le _)
   have f4 : ((fmO [a, b] []).2.length ≤ 4096) = True := eq_true (Nat.le_trans (fmO_len2 hr.1) (Nat.zero_le _))
   unfold w31
   simp only [rep_0, rep_s, walkW, walkX, if_true, if_false, reduceIte, Nat.reduceAdd, Nat.reduceSub, Nat.reduceLeDiff, Nat.reduceEqDiff, Nat.reduceMul, Nat.reduceLT, Int.reduceLT, Int.reduceLE, Int.reduceEq, T_cMake, gu, f0, f4, hr1, sl_one hr.2, sl_cells hr.2, sl_known hr.2]
   have wag : ∀ sel A B, Wk (.ag [s.ren (selN h.length sel), A, B]) (.ag [s, A, B]) = True := fun sel A B => eq_true (Wk_ag ⟨fr sel, Wk.refl _, Wk.refl _, trivial⟩)
   exact Bt.sel [2, 3] hh (by decide) (by simp only [walkS, FrSel, BlkSel, AV.ren, renL, AV.ok, okL, Option.some.injEq, exists_eq_left', List.length_cons, List.length_nil, Nat.reduceAdd, Nat.reduceLT, reduceCtorEq, implies_true, exists_eq']) (by simp only [walkS, FrSel, BlkSel, AV.ren, renL, AV.ok, okL, Option.some.injEq, exists_eq_left', List.length_cons, List.length_nil, Nat.reduceAdd, Nat.reduceLT, reduceCtorEq, implies_true, exists_eq', fs, fr, wag])
  ·cases e
 ·cases e
def fldV (off : Nat) (sz : Option Nat) : AV → Option AV
 | .ag l => match sz with
  | none => l[off]?
  | some n => some (.ag ((l.drop off).take n))
 | _ => none
theorem opR_fld {T : Env} {fr : List AV} {h : List AB} (off : Nat) (sz : Option Nat) (x : Opd) : opR T (.fld off sz x) fr h = (fldV off sz (x.ev fr)).map (·, h) := by
 show (match x.ev fr with | .ag l => _ | _ => _) = _
 unfold fldV
 split
 ·cases sz with
  | none => rfl
  | some n => rfl
 ·rfl
noncomputable def T_seen16 : List AV → List AB → Option (AV × List AB)
 | [.i .i64 a, .i .i64 b], h => if rangedP [a, b] [] then some (.ag [rsl intR h.length (fmO [a, b] []).1, rsl dotR (h.length + 1) (fmO [a, b] []).2], h ++ [resB intR true (fmO [a, b] []).1, resB dotR true (fmO [a, b] []).2]) else none
 | _, _ => none
theorem seen16_spec : Spec Tryz.prog 35 T_seen16 := by
 intro args h v h' e
 unfold T_seen16 at e
 split at e
 ·rename_i a b
  split at e
  ·rename_i hr
   cases e
   refine FnAt.c (FnAt.run (by kernel_rfl) (T := ⟨[⟨31, T_of16, fun _ => []⟩], []⟩) ⟨⟨of16_spec, trivial⟩, trivial⟩ Tryz.func35 sw35 fun ho hh => ?_)
   have hr1 := eq_true hr
   unfold w35
   simp only [rep_0, rep_s, walkW, walkX, if_true, if_false, reduceIte, Nat.reduceAdd, Nat.reduceSub, Nat.reduceLeDiff, Nat.reduceEqDiff, Nat.reduceMul, Nat.reduceLT, Int.reduceLT, Int.reduceLE, Int.reduceEq, T_of16, nsSl, hr1, opR_fld, fldV]
   exact Bt.sel [1, 2] hh (by decide) (by simp only [walkS, FrSel, BlkSel, AV.ren, renL, AV.ok, okL, Option.some.injEq, exists_eq_left', List.length_cons, List.length_nil, Nat.reduceAdd, Nat.reduceLT, reduceCtorEq, implies_true, exists_eq']) (by simp only [walkS, FrSel, BlkSel, AV.ren, renL, AV.ok, okL, Option.some.injEq, exists_eq_left', List.length_cons, List.length_nil, Nat.reduceAdd, Nat.reduceLT, reduceCtorEq, implies_true, exists_eq'])
  ·cases e
 ·cases e
def wrB (hs : List Hd) (v : List Int) (ds : Dots) (x : Hd) (v' : List Int) (ds' : Dots) (hw : List Hd) (vw : List Int) (dw : Dots) (er : Int) : Prop :=
 wrE hs v ds x.1 v' ds' = er ∧ ((wrE hs v ds x.1 v' ds' = 0 ∧ wrL hs v' ds' x = hw ∧ (mkO (joinO v v' ds ds').1 (joinO v v' ds ds').2 x.1).1 = vw ∧ (mkO (joinO v v' ds ds').1 (joinO v v' ds ds').2 x.1).2 = dw) ∨ (wrE hs v ds x.1 v' ds' ≠ 0 ∧ [] = hw ∧ [] = vw ∧ [] = dw))
noncomputable instance (hs : List Hd) (v : List Int) (ds : Dots) (x : Hd) (v' : List Int) (ds' : Dots) (hw : List Hd) (vw : List Int) (dw : Dots) (er : Int) : Decidable (wrB hs v ds x v' ds' hw vw dw er) := Classical.propDecidable _
noncomputable def T_writes : List AV → List AB → Option (AV × List AB)
 | [.ag [l, s, t], .ag [.i .i64 a, .i .i64 b], .i .u8 n, .ag [s', t'], .ag [lw, sw, tw], .i .i64 er], h => (getS heldR h l).bind fun hs => (getS intR h s).bind fun v => (getS dotR h t).bind fun ds => (getS intR h s').bind fun v' => (getS dotR h t').bind fun ds' => (getS heldR h lw).bind fun hw => (getS intR h sw).bind fun vw => (getS dotR h tw).bind fun dw =>
   if hs.length ≤ 1000 ∧ t.capOk = true ∧ t'.capOk = true ∧ 0 ≤ n ∧ n < 256 then some (.b (decide (wrB hs v ds ((a, b), dgB n) v' ds' hw vw dw er)), h) else none
 | _, _ => none
theorem writes_spec : Spec Tryz.prog 33 T_writes := by
 intro args h v h' e
 unfold T_writes at e
 split at e
 ·rename_i l s t a b n s' t' lw sw tw er
  obtain ⟨hs, hl, e⟩ := getS_bind e
  obtain ⟨xs, hv, e⟩ := getS_bind e
  obtain ⟨ds, hd, e⟩ := getS_bind e
  obtain ⟨xs', hv', e⟩ := getS_bind e
  obtain ⟨ds', hd', e⟩ := getS_bind e
  obtain ⟨hw, hlw, e⟩ := getS_bind e
  obtain ⟨vw, hvw, e⟩ := getS_bind e
  obtain ⟨dw, hdw, e⟩ := getS_bind e
  split at e
  ·rename_i hc
   obtain ⟨hL, k1, k2, hn⟩ := hc
   cases e
   refine FnAt.c (FnAt.run (by kernel_rfl) (T := ⟨[⟨18, T_pWrite, fun _ => []⟩, ⟨14, T_SameReg, fun _ => []⟩], []⟩) ⟨⟨pWrite_spec, SameReg_spec, trivial⟩, trivial⟩ Tryz.func33 sw33 fun ho hh => ?_)
   simp only [okL_cons, ok_ag, Bool.and_eq_true] at ho
   have f1 := hl.fx ho.1.1 (sz := 34) rfl
   have f2 := hv.fx ho.1.2.1 (sz := 1) rfl
   have f3 := hd.fx ho.1.2.2.1 (sz := 2) rfl
   have f4 := hv'.fx ho.2.2.2.1.1 (sz := 1) rfl
   have f5 := hd'.fx ho.2.2.2.1.2.1 (sz := 2) rfl
   have f6 := hlw.fx ho.2.2.2.2.1.1 (sz := 34) rfl
   have f7 := hvw.fx ho.2.2.2.2.1.2.1 (sz := 1) rfl
   have f8 := hdw.fx ho.2.2.2.2.1.2.2.1 (sz := 2) rfl
   have hL2 : (hs.length ≤ 100000) = True := eq_true (by omega)
   have gi : getI (.ag (.i .u8 n :: List.replicate 31 (.i .u8 0))) = some (dgB n) := by rw [← dgB_f hn]; exact getI_f _
   simp only [rep_0, rep_s] at gi
   unfold w33
   by_cases hE : wrE hs xs ds (a, b) xs' ds' = 0
   ·obtain ⟨c1, c2, c3, c4, c5, c6, c7⟩ := wrE_0 hE
    have ra := checkG_rg.1 c1
    have nm := mk_nf (join_nf ra.nf (nf_check c3)) c2
    have n0 := wrL_len hs xs' ds' ((a, b), dgB n)
    have n1 : ((wrL hs xs' ds' ((a, b), dgB n)).length ≤ 1000000) = True := eq_true (by omega)
    have n2 : ((mkO (joinO xs xs' ds ds').1 (joinO xs xs' ds ds').2 (a, b)).1.length ≤ 1000000) = True := eq_true (by have := nm.rg.1; omega)
    have n3 : ((mkO (joinO xs xs' ds ds').1 (joinO xs xs' ds ds').2 (a, b)).2.length ≤ 1000000) = True := eq_true (by omega)
    simp only [rep_0, rep_s, walkW, walkQ, walkX, if_true, if_false, ↓reduceIte, Nat.reduceAdd, Nat.reduceSub, Nat.reduceLeDiff, Nat.reduceEqDiff, Nat.reduceMul, Nat.reduceLT, Int.reduceLT, Int.reduceLE, Int.reduceEq, CO.tmps, Opd.tmps, optT, Nat.reducePow, Nat.reduceDiv, Nat.reduceMod, f1, f2, f3, f4, f5, f6, f7, f8, T_pWrite, T_SameReg, gi, hE, hL2, k1, k2, n1, n2, n3, maxLen_ok, ne_eq, not_false_eq_true, not_true_eq_false, decide_true, decide_false]
    exact ⟨fun q => Bt.dropB _ hh (decide_eq_decide.2 ⟨fun z => ⟨hE.trans q, .inl ⟨hE, z⟩⟩, fun z => z.2.elim (fun w => w.2) fun w => absurd hE w.1⟩), fun q => Bt.dropB _ hh (decide_eq_false fun z => q (hE.symm.trans z.1)).symm⟩
   ·have hE' := eq_false hE
    simp only [rep_0, rep_s, walkW, walkQ, walkX, if_true, if_false, ↓reduceIte, Nat.reduceAdd, Nat.reduceSub, Nat.reduceLeDiff, Nat.reduceEqDiff, Nat.reduceMul, Nat.reduceLT, Int.reduceLT, Int.reduceLE, Int.reduceEq, CO.tmps, Opd.tmps, optT, Nat.reducePow, Nat.reduceDiv, Nat.reduceMod, f1, f2, f3, f4, f5, f6, f7, f8, T_pWrite, T_SameReg, gi, hE', hL2, k1, k2, getS_ns, ne_eq, not_false_eq_true, not_true_eq_false, decide_true, decide_false]
    exact ⟨fun q => Bt.dropB _ hh (decide_eq_decide.2 ⟨fun z => ⟨q, .inr ⟨hE, z⟩⟩, fun z => z.2.elim (fun w => absurd w.1 hE) fun w => w.2⟩), fun q => Bt.dropB _ hh (decide_eq_false fun z => q z.1).symm⟩
  ·cases e
 ·cases e
def jnB (hs : List Hd) (v : List Int) (ds : Dots) (hs' : List Hd) (v' : List Int) (ds' : Dots) (hw : List Hd) (vw : List Int) (dw : Dots) (er : Int) : Prop :=
 (checkG hs v ds = 0 ∧ checkG hs' v' ds' = 0) ∧ (joinO v v' ds ds').2.length ≤ 4096 ∧ ((¬ agreeP hs hs' ∧ er = 9 ∧ [] = hw ∧ [] = vw ∧ [] = dw) ∨ (agreeP hs hs' ∧ er = 0 ∧ jnL hs hs' v v' ds ds' = hw ∧ (joinO v v' ds ds').1 = vw ∧ (joinO v v' ds ds').2 = dw))
open Classical in
noncomputable def T_joins : List AV → List AB → Option (AV × List AB)
 | [.ag [l, s, t], .ag [l', s', t'], .ag [lw, sw, tw], .i .i64 er], h => (getS heldR h l).bind fun hs => (getS intR h s).bind fun v => (getS dotR h t).bind fun ds => (getS heldR h l').bind fun hs' => (getS intR h s').bind fun v' => (getS dotR h t').bind fun ds' => (getS heldR h lw).bind fun hw => (getS intR h sw).bind fun vw => (getS dotR h tw).bind fun dw =>
   if (hs.length ≤ 1000 ∧ hs'.length ≤ 1000) ∧ t.capOk = true ∧ t'.capOk = true ∧ jnB hs v ds hs' v' ds' hw vw dw er then some (.b true, h) else none
 | _, _ => none
theorem joins_spec : Spec Tryz.prog 36 T_joins := by
 intro args h v h' e
 unfold T_joins at e
 split at e
 ·rename_i l s t l' s' t' lw sw tw er
  obtain ⟨hs, hl, e⟩ := getS_bind e
  obtain ⟨xs, hv, e⟩ := getS_bind e
  obtain ⟨ds, hd, e⟩ := getS_bind e
  obtain ⟨hs', hl', e⟩ := getS_bind e
  obtain ⟨xs', hv', e⟩ := getS_bind e
  obtain ⟨ds', hd', e⟩ := getS_bind e
  obtain ⟨hw, hlw, e⟩ := getS_bind e
  obtain ⟨vw, hvw, e⟩ := getS_bind e
  obtain ⟨dw, hdw, e⟩ := getS_bind e
  split at e
  ·rename_i hc
   obtain ⟨⟨hL, hL'⟩, k1, k2, ⟨c1, c2⟩, g, hj⟩ := hc
   cases e
   refine FnAt.c (FnAt.run (by kernel_rfl) (T := ⟨[⟨12, T_pJoin, fun _ => []⟩, ⟨14, T_SameReg, fun _ => []⟩], []⟩) ⟨⟨pJoin_spec, SameReg_spec, trivial⟩, trivial⟩ Tryz.func36 sw36 fun ho hh => ?_)
   simp only [okL_cons, ok_ag, Bool.and_eq_true] at ho
   have f1 := hl.fx ho.1.1 (sz := 34) rfl
   have f2 := hv.fx ho.1.2.1 (sz := 1) rfl
   have f3 := hd.fx ho.1.2.2.1 (sz := 2) rfl
   have f4 := hl'.fx ho.2.1.1 (sz := 34) rfl
   have f5 := hv'.fx ho.2.1.2.1 (sz := 1) rfl
   have f6 := hd'.fx ho.2.1.2.2.1 (sz := 2) rfl
   have f7 := hlw.fx ho.2.2.1.1 (sz := 34) rfl
   have f8 := hvw.fx ho.2.2.1.2.1 (sz := 1) rfl
   have f9 := hdw.fx ho.2.2.1.2.2.1 (sz := 2) rfl
   have hL1 : (hs.length ≤ 10000) = True := eq_true (by omega)
   have hL2 : (hs'.length ≤ 10000) = True := eq_true (by omega)
   have g' := eq_true g
   have n0 := jnL_len hs hs' xs xs' ds ds'
   have nj := join_nf (checkG_rg.1 c1).nf (checkG_rg.1 c2).nf
   unfold w36
   rcases hj with ⟨j1, rfl, rfl, rfl, rfl⟩ | ⟨j1, rfl, rfl, rfl, rfl⟩
   ·have j1' := eq_false j1
    simp only [rep_0, rep_s, walkW, walkQ, walkX, if_true, if_false, ↓reduceIte, Nat.reduceAdd, Nat.reduceSub, Nat.reduceLeDiff, Nat.reduceEqDiff, Nat.reduceMul, Nat.reduceLT, Int.reduceLT, Int.reduceLE, Int.reduceEq, CO.tmps, Opd.tmps, optT, Nat.reducePow, Nat.reduceDiv, Nat.reduceMod, f1, f2, f3, f4, f5, f6, f7, f8, f9, T_pJoin, T_SameReg, c1, c2, j1', hL1, hL2, k1, k2, g', getS_ns, and_self, eq_self, ne_eq, not_false_eq_true, not_true_eq_false, decide_true, decide_false]
    exact Bt.dropB _ hh rfl
   ·have j1' := eq_true j1
    have n1 : ((jnL hs hs' xs xs' ds ds').length ≤ 1000000) = True := eq_true (by omega)
    have n2 : ((joinO xs xs' ds ds').1.length ≤ 1000000) = True := eq_true (by have := nj.rg.1; omega)
    have n3 : ((joinO xs xs' ds ds').2.length ≤ 1000000) = True := eq_true (by omega)
    simp only [rep_0, rep_s, walkW, walkQ, walkX, if_true, if_false, ↓reduceIte, Nat.reduceAdd, Nat.reduceSub, Nat.reduceLeDiff, Nat.reduceEqDiff, Nat.reduceMul, Nat.reduceLT, Int.reduceLT, Int.reduceLE, Int.reduceEq, CO.tmps, Opd.tmps, optT, Nat.reducePow, Nat.reduceDiv, Nat.reduceMod, f1, f2, f3, f4, f5, f6, f7, f8, f9, T_pJoin, T_SameReg, c1, c2, j1', hL1, hL2, k1, k2, g', n1, n2, n3, maxLen_ok, and_self, eq_self, ne_eq, not_false_eq_true, not_true_eq_false, decide_true, decide_false]
    exact Bt.dropB _ hh rfl
  ·cases e
 ·cases e
end Go.Proofs.YtcncpbcbedfakaaGreat
end
section
namespace Go.Proofs.YtcncpbcbedfakaaGreat
set_option maxRecDepth 100000
theorem checkG_nil {v : List Int} {ds : Dots} (c : checkR v ds = 0) : checkG [] v ds = 0 := checkG_rg.2 ⟨nf_check c, (check_fm c).2.1, List.Pairwise.nil, fun x h => by cases h⟩
theorem checkG_one {v : List Int} {ds : Dots} {x : Hd} (c : checkR v ds = 0) (h : rhasP v ds x.1) : checkG [x] v ds = 0 := checkG_rg.2 ⟨nf_check c, (check_fm c).2.1, List.pairwise_singleton _ _, fun y hy => by
 rw [List.mem_singleton.1 hy]
 exact (rhas_in (nf_check c).rg _).1 h⟩
theorem checkG_two {v : List Int} {ds : Dots} {x y : Hd} (c : checkR v ds = 0) (hx : rhasP v ds x.1) (hy : rhasP v ds y.1) (hxy : lessD x.1 y.1) : checkG [x, y] v ds = 0 := checkG_rg.2 ⟨nf_check c, (check_fm c).2.1, List.pairwise_cons.2 ⟨fun z hz => by rw [List.mem_singleton.1 hz]; exact hxy, List.pairwise_singleton _ _⟩, fun z hz => by
 rcases List.mem_cons.1 hz with rfl | hz
 ·exact (rhas_in (nf_check c).rg _).1 hx
 ·rw [List.mem_singleton.1 hz]
  exact (rhas_in (nf_check c).rg _).1 hy⟩
abbrev x4 : Hd := ((1, 1), dgB 4)
abbrev x5 : Hd := ((2, 1), dgB 5)
theorem m00 : fmO [0, 0] [] = ([], []) := by decide
theorem m10 : fmO [1, 0] [] = ([1], []) := by decide
theorem m01 : fmO [0, 1] [] = ([0, 1], []) := by decide
theorem m11 : fmO [1, 1] [] = ([1, 1], []) := by decide
theorem k00 : checkR [] [] = 0 := by decide
theorem k10 : checkR [1] [] = 0 := by decide
theorem k01 : checkR [0, 1] [] = 0 := by decide
theorem k11 : checkR [1, 1] [] = 0 := by decide
theorem r00 : rangedP [0, 0] [] := by decide
theorem r10 : rangedP [1, 0] [] := by decide
theorem r01 : rangedP [0, 1] [] := by decide
theorem r11 : rangedP [1, 1] [] := by decide
theorem g10 : checkG [x4] [1] [] = 0 := checkG_one k10 (by decide)
theorem g01 : checkG [x5] [0, 1] [] = 0 := checkG_one k01 (by decide)
theorem g11 : checkG [x4, x5] [1, 1] [] = 0 := checkG_two k11 (by decide) (by decide) (by decide)
theorem outL_none (v : List Int) (ds : Dots) : outL v ds [] = [] := rfl
theorem outL_yes {v : List Int} {ds : Dots} {x : Hd} {l : List Hd} (h : checkR v ds = 0 ∧ rhasP v ds x.1) : outL v ds (x :: l) = outL v ds l := by
 unfold outL
 rw [List.filter_cons, if_neg (by rw [decide_eq_true_eq]; exact not_not_intro h)]
theorem outL_no {v : List Int} {ds : Dots} {x : Hd} {l : List Hd} (h : ¬ (checkR v ds = 0 ∧ rhasP v ds x.1)) : outL v ds (x :: l) = x :: outL v ds l := by
 unfold outL
 rw [List.filter_cons, if_pos (decide_eq_true h)]
theorem lay_nil (x : Hd) : layG lessH [] x = [x] := rfl
theorem lay_gt {x y : Hd} {l : List Hd} (h : ¬ lessH x y) : layG lessH (y :: l) x = y :: layG lessH l x := by
 conv => lhs; unfold layG
 rw [if_neg h]
theorem a1 : wrB [] [] [] x4 [] [] [x4] [1] [] 0 := by
 have h : wrE [] [] [] x4.1 [] [] = 0 := wrE_ok (checkG_nil k00) (by decide) k00 (by decide) (by decide) (by decide) (by decide)
 refine ⟨h, .inl ⟨h, ?_, by decide, by decide⟩⟩
 unfold wrL
 rw [outL_none, lay_nil]
theorem a2 : wrB [x4] [1] [] x5 [1] [] [x5] [1, 1] [] 0 := by
 have h : wrE [x4] [1] [] x5.1 [1] [] = 0 := wrE_ok g10 (by decide) k10 (by decide) (by decide) (by decide) (by decide)
 refine ⟨h, .inl ⟨h, ?_, by decide, by decide⟩⟩
 unfold wrL
 rw [outL_yes (by decide), outL_none, lay_nil]
theorem b1 : wrB [x4] [1] [] x5 [] [] [x4, x5] [1, 1] [] 0 := by
 have h : wrE [x4] [1] [] x5.1 [] [] = 0 := wrE_ok g10 (by decide) k00 (by decide) (by decide) (by decide) (by decide)
 refine ⟨h, .inl ⟨h, ?_, by decide, by decide⟩⟩
 unfold wrL
 rw [outL_no (by decide), outL_none, lay_gt (by unfold lessH; decide), lay_nil]
theorem b2 : wrB [x4] [1] [] ((1, 1), dgB 5) [] [] [] [] [] 19 := by
 have h : wrE [x4] [1] [] (1, 1) [] [] = 19 := by
  unfold wrE
  rw [if_neg (not_not_intro g10), if_neg (by decide), if_neg (not_not_intro k00), if_pos (by decide)]
 exact ⟨h, .inr ⟨by show wrE [x4] [1] [] (1, 1) [] [] ≠ 0; rw [h]; decide, rfl, rfl, rfl⟩⟩
theorem b3 : wrB [] [] [] ((0, 1), dgB 4) [] [] [] [] [] 3 := by
 have h : wrE [] [] [] (0, 1) [] [] = 3 := by
  unfold wrE
  rw [if_neg (not_not_intro (checkG_nil k00)), if_pos (by decide)]
 exact ⟨h, .inr ⟨by show wrE [] [] [] (0, 1) [] [] ≠ 0; rw [h]; decide, rfl, rfl, rfl⟩⟩
theorem a3 : jnB [x4] [1] [] [x5] [0, 1] [] [x4, x5] [1, 1] [] 0 := by
 have g : agreeP [x4] [x5] := fun x hx y hy e => by
  rw [List.mem_singleton.1 hx, List.mem_singleton.1 hy] at e
  exact absurd e (by decide)
 refine ⟨⟨g10, g01⟩, by decide, .inr ⟨g, rfl, ?_, by decide, by decide⟩⟩
 refine (jnL_ext (checkG_rg.1 g10) (checkG_rg.1 g01) (checkG_rg.1 g11).rise fun x => ?_).symm
 have n1 : ¬ inC [0, 1] [] (1, 1) := fun q => absurd ((rhas_in (nf_check k01).rg _).2 q) (by decide)
 have n2 : ¬ inC [1] [] (2, 1) := fun q => absurd ((rhas_in (nf_check k10).rg _).2 q) (by decide)
 rw [jn_iff g]
 simp only [List.mem_cons, List.not_mem_nil, or_false]
 constructor
 ·rintro (rfl | rfl)
  ·exact .inr (.inl ⟨rfl, n1⟩)
  ·exact .inr (.inr ⟨rfl, n2⟩)
 ·rintro (⟨q, _⟩ | ⟨q, _⟩ | ⟨q, _⟩)
  ·exact .inl q
  ·exact .inl q
  ·exact .inr q
theorem a4 : jnB [x4] [1] [] [] [1] [] [] [1] [] 0 := by
 have g : agreeP [x4] [] := fun x hx y hy e => by cases hy
 refine ⟨⟨g10, checkG_nil k10⟩, by decide, .inr ⟨g, rfl, ?_, by decide, by decide⟩⟩
 refine (jnL_ext (checkG_rg.1 g10) (checkG_rg.1 (checkG_nil k10)) List.Pairwise.nil fun x => ?_).symm
 have n1 : inC [1] [] (1, 1) := (rhas_in (nf_check k10).rg _).1 (by decide)
 rw [jn_iff g]
 simp only [List.mem_cons, List.not_mem_nil, or_false, false_iff]
 rintro (⟨_, q⟩ | ⟨q, q2⟩ | ⟨q, _⟩)
 ·exact q
 ·subst q; exact q2 n1
 ·exact q
theorem b4 : jnB [x4] [1] [] [((1, 1), dgB 5)] [1] [] [] [] [] 9 := by
 refine ⟨⟨g10, checkG_one k10 (by decide)⟩, by decide, .inl ⟨fun g => ?_, rfl, rfl, rfl, rfl⟩⟩
 have := g x4 (.head _) ((1, 1), dgB 5) (.head _) rfl
 exact absurd this (by decide)
theorem c1 : outL [1] [] [x4] = [] ∧ joinO [1] [1] [] [] = ([1], []) := ⟨by rw [outL_yes (by decide), outL_none], by decide⟩
theorem c2 : outL [] [] [x4] = [x4] ∧ joinO [1] [] [] [] = ([1], []) := ⟨by rw [outL_no (by decide), outL_none], by decide⟩
theorem srt_two : sortP cmpG [dgB 5, dgB 4] = [dgB 4, dgB 5] := by
 have hp := sortP_perm sortI_swo [dgB 5, dgB 4]
 have hs := sortP_rise sortI_swo [dgB 5, dgB 4]
 have hl : ∀ l : List Dg, l.Perm [dgB 5, dgB 4] → l.Pairwise (fun x y => ¬ cmpG y x < 0) → l = [dgB 4, dgB 5] := fun l q r => by
  have ql := q.length_eq
  match l, ql with
  | [a, b], _ =>
   have r2 := (List.pairwise_cons.1 r).1 b (.head _)
   have ha : a ∈ [dgB 5, dgB 4] := q.mem_iff.1 (.head _)
   have hb : b ∈ [dgB 5, dgB 4] := q.mem_iff.1 (.tail _ (.head _))
   have h5 : dgB 5 ∈ [a, b] := q.mem_iff.2 (.head _)
   have h4 : dgB 4 ∈ [a, b] := q.mem_iff.2 (.tail _ (.head _))
   simp only [List.mem_cons, List.not_mem_nil, or_false] at ha hb h5 h4
   rcases ha with rfl | rfl
   ·rcases hb with rfl | rfl
    ·exact absurd h4 (by decide)
    ·exact absurd r2 (by decide)
   ·rcases hb with rfl | rfl
    ·rfl
    ·exact absurd h5 (by decide)
 exact hl _ hp hs
theorem srt_same : sortP cmpG [dgB 4, dgB 4] = [dgB 4, dgB 4] := by
 have hp := sortP_perm sortI_swo [dgB 4, dgB 4]
 have ql := hp.length_eq
 match sortP cmpG [dgB 4, dgB 4], hp, ql with
 | [a, b], hp, _ =>
  have ha : a ∈ [dgB 4, dgB 4] := hp.mem_iff.1 (.head _)
  have hb : b ∈ [dgB 4, dgB 4] := hp.mem_iff.1 (.tail _ (.head _))
  simp only [List.mem_cons, List.not_mem_nil, or_false, or_self] at ha hb
  rw [ha, hb]
theorem d1 : dgsL [((1, 1), dgB 5), ((2, 1), dgB 4)] = [dgB 4, dgB 5] := by
 unfold dgsL
 rw [show ([((1, 1), dgB 5), ((2, 1), dgB 4)] : List Hd).map (·.2) = [dgB 5, dgB 4] from rfl, srt_two]
 decide
theorem d2 : dgsL [x4, ((2, 1), dgB 4)] = [dgB 4] := by
 unfold dgsL
 rw [show ([x4, ((2, 1), dgB 4)] : List Hd).map (·.2) = [dgB 4, dgB 4] from rfl, srt_same]
 decide
theorem g54 : checkG [((1, 1), dgB 5), ((2, 1), dgB 4)] [1, 1] [] = 0 := checkG_two k11 (by decide) (by decide) (by decide)
theorem g44 : checkG [x4, ((2, 1), dgB 4)] [1, 1] [] = 0 := checkG_two k11 (by decide) (by decide) (by decide)
end Go.Proofs.YtcncpbcbedfakaaGreat
end
section
namespace Go.Proofs.YtcncpbcbedfakaaGreat
set_option maxRecDepth 100000
set_option maxHeartbeats 8000000
set_option linter.unusedSimpArgs false
theorem over_two (zs l m : List AV) (k : Nat) (h : zs.length = l.length + m.length) (hk : k = l.length) : over (over zs 0 l) k m = l ++ m := by
 subst hk
 have e1 : (l ++ zs.drop l.length).take l.length = l := List.take_left' rfl
 have e2 : (l ++ zs.drop l.length).drop (l.length + m.length) = [] := List.drop_eq_nil_of_le (by rw [List.length_append, List.length_drop]; omega)
 simp only [over, List.take_zero, List.nil_append, Nat.zero_add, e1, e2, List.append_nil]
def T_true : List AV → List AB → Option (AV × List AB)
 | [], h => some (.b true, h)
 | _, _ => none
theorem lit1 {h : List AB} (L : List AB) (k : Nat) (x : Hd) (q : ownC L k = some (heldR.f x)) : getS heldR (h ++ L) (.sl (h.length + k) 0 1 1 none) = some [x] :=
 (Rd_ownT (r := heldR) (n := 1) (l := [x]) (by rw [q]; simp [Row.cells]) (by unfold maxLen; simp) (by simp)).get
theorem lit2 {h : List AB} (L : List AB) (k : Nat) (x y : Hd) (q : ownC L k = some (heldR.f x ++ heldR.f y)) : getS heldR (h ++ L) (.sl (h.length + k) 0 2 2 none) = some [x, y] :=
 (Rd_ownT (r := heldR) (n := 2) (l := [x, y]) (by rw [q]; simp [Row.cells]) (by unfold maxLen; simp) (by simp)).get
theorem awake_spec : Spec Tryz.prog 10 T_true := by
 intro args h v h' e
 unfold T_true at e
 split at e
 ·cases e
  refine FnAt.c (FnAt.frz0 fun hz => ?_)
  generalize h.map AB.freeze = h at *
  refine FnAt.run (by kernel_rfl) (T := ⟨[⟨34, T_dot16, fun _ => []⟩, ⟨32, T_held16, fun _ => []⟩, ⟨31, T_of16, fun _ => []⟩, ⟨35, T_seen16, fun _ => []⟩, ⟨33, T_writes, fun _ => []⟩, ⟨36, T_joins, fun _ => []⟩], []⟩) ⟨⟨dot16_spec, held16_spec, of16_spec, seen16_spec, writes_spec, joins_spec, trivial⟩, trivial⟩ Tryz.func10 sw10 fun ho hh => ?_
  have l1 := fun (L : List AB) k q => lit1 (h := h) L k ((1, 1), dgB 4) q
  have l2 := fun (L : List AB) k q => lit1 (h := h) L k ((2, 1), dgB 5) q
  have l3 := fun (L : List AB) k q => lit2 (h := h) L k ((1, 1), dgB 4) ((2, 1), dgB 5) q
  have ex1 := eq_true a1
  have ex2 := eq_true a2
  have ex3 := eq_true a3
  have ex4 := eq_true a4
  simp only [x4, x5] at ex1 ex2 ex3 ex4
  have u0 : (0 ≤ maxLen) = True := eq_true (by unfold maxLen; omega)
  have u1 : (1 ≤ maxLen) = True := eq_true (by unfold maxLen; omega)
  have u2 : (2 ≤ maxLen) = True := eq_true (by unfold maxLen; omega)
  have b4 : ((0 : Int) ≤ 4 ∧ (4 : Int) < 256) = True := eq_true (by decide)
  have b5 : ((0 : Int) ≤ 5 ∧ (5 : Int) < 256) = True := eq_true (by decide)
  unfold w10
  simp only [rep_0, rep_s, walkW, walkQ, walkX, if_true, if_false, ↓reduceIte, Nat.reduceAdd, Nat.reduceSub, Nat.reduceLeDiff, Nat.reduceEqDiff, Nat.reduceMul, Nat.reduceLT, Int.reduceLT, Int.reduceLE, Int.reduceEq, CO.tmps, Opd.tmps, optT, Nat.reducePow, Nat.reduceDiv, Nat.reduceMod, T_dot16, T_held16, T_of16, T_seen16, T_writes, T_joins, ex1, ex2, ex3, ex4, l1, l2, l3, getS_ns, rsl_capOk, rsl_get, u0, u1, u2, Nat.zero_add, beq_self_eq_true, and_self, eq_self, ne_eq, not_false_eq_true, not_true_eq_false, decide_true, decide_false, b4, b5, r00, r10, r01, r11, m00, m10, m01, m11, nsSl, slSl, held_all1, held_len, held_take, over_at, over_two, over_len, held_ok, List.all_append, List.length_cons, List.length_nil, HOk_own hh, mask_ownC hz, mask_ownQ hz, mask_ownQ0 hz]
  exact Bt.dropB _ hh rfl
 ·cases e
theorem litI {h : List AB} (L : List AB) (k : Nat) (x y : Dg) (q : ownC L k = some (idR.f x ++ idR.f y)) : getS idR (h ++ L) (.sl (h.length + k) 0 2 2 none) = some [x, y] :=
 (Rd_ownT (r := idR) (n := 2) (l := [x, y]) (by rw [q]; simp [Row.cells]) (by unfold maxLen; simp) (by simp)).get
theorem RegisterKnown_spec : Spec Tryz.prog 5 T_known := by
 intro args h v h' e
 unfold T_known at e
 split at e
 ·cases e
  refine FnAt.c (FnAt.frz0 fun hz => ?_)
  generalize h.map AB.freeze = h at *
  refine FnAt.run (by kernel_rfl) (T := ⟨[⟨34, T_dot16, fun _ => []⟩, ⟨32, T_held16, fun _ => []⟩, ⟨31, T_of16, fun _ => []⟩, ⟨35, T_seen16, fun _ => []⟩, ⟨33, T_writes, fun _ => []⟩, ⟨36, T_joins, fun _ => []⟩, ⟨10, T_true, fun _ => []⟩, ⟨20, T_pClear, fun _ => []⟩, ⟨14, T_SameReg, fun _ => []⟩, ⟨22, T_IDs, fun _ => []⟩, ⟨23, T_SameIDs, fun _ => []⟩, ⟨25, T_Torn, fun _ => []⟩], []⟩) ⟨⟨dot16_spec, held16_spec, of16_spec, seen16_spec, writes_spec, joins_spec, awake_spec, pClear_spec, SameReg_spec, IDs_spec, SameIDs_spec, Torn_spec, trivial⟩, trivial⟩ Tryz.func5 sw5 fun ho hh => ?_
  have l1 := fun (L : List AB) k q => lit1 (h := h) L k ((1, 1), dgB 4) q
  have l2 := fun (L : List AB) k q => lit1 (h := h) L k ((1, 1), dgB 5) q
  have l3 := fun (L : List AB) k q => lit2 (h := h) L k ((1, 1), dgB 4) ((2, 1), dgB 5) q
  have l4 := fun (L : List AB) k q => lit2 (h := h) L k ((1, 1), dgB 5) ((2, 1), dgB 4) q
  have l5 := fun (L : List AB) k q => lit2 (h := h) L k ((1, 1), dgB 4) ((2, 1), dgB 4) q
  have l6 := fun (L : List AB) k q => litI (h := h) L k (dgB 4) (dgB 5) q
  rw [dgB_f (by decide), dgB_f (by decide)] at l6
  simp only [rep_0, rep_s, List.cons_append, List.nil_append] at l6
  have ex1 := eq_true b1
  have ex2 := eq_true b2
  have ex3 := eq_true b3
  have ex4 := eq_true b4
  have ex5 := c1
  have ex6 := c2
  have ex7 := d2
  have ex8 := g10
  have ex9 := g44
  simp only [x4, x5] at ex1 ex2 ex3 ex4 ex5 ex6 ex7 ex8 ex9
  have u0 : (0 ≤ maxLen) = True := eq_true (by unfold maxLen; omega)
  have u1 : (1 ≤ maxLen) = True := eq_true (by unfold maxLen; omega)
  have u2 : (2 ≤ maxLen) = True := eq_true (by unfold maxLen; omega)
  have b4 : ((0 : Int) ≤ 4 ∧ (4 : Int) < 256) = True := eq_true (by decide)
  have b5 : ((0 : Int) ≤ 5 ∧ (5 : Int) < 256) = True := eq_true (by decide)
  unfold w5
  simp only [rep_0, rep_s, walkW, walkQ, walkX, if_true, if_false, ↓reduceIte, Nat.reduceAdd, Nat.reduceSub, Nat.reduceLeDiff, Nat.reduceEqDiff, Nat.reduceMul, Nat.reduceLT, Int.reduceLT, Int.reduceLE, Int.reduceEq, CO.tmps, Opd.tmps, optT, Nat.reducePow, Nat.reduceDiv, Nat.reduceMod, T_dot16, T_held16, T_of16, T_seen16, T_writes, T_joins, T_true, T_pClear, T_SameReg, T_IDs, T_SameIDs, T_Torn, ex1, ex2, ex3, ex4, ex5.1, ex5.2, ex6.1, ex6.2, ex7, ex8, ex9, d1, g54, k00, k10, l1, l2, l3, l4, l5, l6, getS_ns, rsl_capOk, rsl_get, u0, u1, u2, Nat.zero_add, beq_self_eq_true, and_self, eq_self, ne_eq, not_false_eq_true, not_true_eq_false, decide_true, decide_false, b4, b5, r00, r10, r01, r11, m00, m10, m01, m11, nsSl, slSl, held_all1, held_len, held_take, over_at, over_two, over_len, held_ok, List.all_append, List.length_cons, List.length_nil, HOk_own hh, mask_ownC hz, mask_ownQ hz, mask_ownQ0 hz]
  exact Bt.dropB _ hh rfl
 ·cases e
theorem RegisterLattice_at {h : List AB} (hz : h.map AB.freeze = h) {l1 s1 t1 l2 s2 t2 l3 s3 t3 : AV} {la lb lc : List Hd} {va vb vc : List Int} {da db dc : Dots} (hl1 : Rd heldR h l1 la) (hs1 : Rd intR h s1 va) (ht1 : Rd dotR h t1 da) (hl2 : Rd heldR h l2 lb) (hs2 : Rd intR h s2 vb) (ht2 : Rd dotR h t2 db) (hl3 : Rd heldR h l3 lc) (hs3 : Rd intR h s3 vc) (ht3 : Rd dotR h t3 dc) (k1 : t1.capOk = true) (k2 : t2.capOk = true) (k3 : t3.capOk = true) :
  FnAt Tryz.prog 6 [.ag [l1, s1, t1], .ag [l2, s2, t2], .ag [l3, s3, t3]] h (.b true) h := RegisterLattice_at0 RegisterKnown_spec hz hl1 hs1 ht1 hl2 hs2 ht2 hl3 hs3 ht3 k1 k2 k3
theorem RegisterThrough_at {h : List AB} (hz : h.map AB.freeze = h) {l1 s1 t1 l2 s2 t2 s3 t3 : AV} {la lb : List Hd} {va vb vc : List Int} {da db dc : Dots} (hl1 : Rd heldR h l1 la) (hs1 : Rd intR h s1 va) (ht1 : Rd dotR h t1 da) (hl2 : Rd heldR h l2 lb) (hs2 : Rd intR h s2 vb) (ht2 : Rd dotR h t2 db) (hs3 : Rd intR h s3 vc) (ht3 : Rd dotR h t3 dc) (k1 : t1.capOk = true) (k2 : t2.capOk = true) (k3 : t3.capOk = true) (x y : Int) (i : Dg) :
  FnAt Tryz.prog 7 [.ag [l1, s1, t1], .ag [l2, s2, t2], .ag [.i .i64 x, .i .i64 y], .ag (idR.f i), .ag [s3, t3]] h (.b true) h := RegisterThrough_at0 RegisterKnown_spec hz hl1 hs1 ht1 hl2 hs2 ht2 hs3 ht3 k1 k2 k3
end Go.Proofs.YtcncpbcbedfakaaGreat
end
