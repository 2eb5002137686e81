/- Part 26 of what the laws' proofs rest on. No condition. -/
import Derived.Test.YtcncpbcbedfakaaGreatRn25
set_option linter.all false
section
namespace Go.Proofs.YtcncpbcbedfakaaGreat
open Go.Sort
set_option maxRecDepth 100000
set_option maxHeartbeats 4000000
set_option linter.unusedSimpArgs false
theorem bytesOf_id (x : Dg) : bytesOf (idR.f x) = some x.l := bytesOf_u8 x.l
noncomputable def T_bCmp : List AV → List AB → Option (AV × List AB)
 | [a, b], h => (srcV h 1 a).bind fun (_, xs) => (srcV h 1 b).bind fun (_, ys) => (bytesOf xs).bind fun l => (bytesOf ys).bind fun m => some (.i .i64 (cmpB l m), h)
 | _, _ => none
theorem opR_bcmp {T : Env} {fr : List AV} {h : List AB} (x y : Opd) : opR T (.bcmp x y) fr h = T_bCmp [x.ev fr, y.ev fr] h := by
 show ((srcV h 1 (x.ev fr)).bind fun (_, xs) => (srcV h 1 (y.ev fr)).bind fun (_, ys) => (bytesOf xs).bind fun l => (bytesOf ys).map fun m => (AV.i .i64 (Go.Extern.BytealgCompare.cmp ⟨l.toArray⟩ ⟨m.toArray⟩), h)) = _
 simp only [T_bCmp, bcmp_eq]
 congr 1; funext p; congr 1; funext q; congr 1; funext l
 cases bytesOf q.2 <;> rfl
theorem bCmp_spec : Spec Tryz.prog 107 T_bCmp := by
 intro args h v h' e
 have e0 := e
 unfold T_bCmp at e
 split at e
 ·rename_i a b
  obtain ⟨⟨_, xs⟩, h1, e⟩ := Option.bind_eq_some_iff.1 e
  obtain ⟨⟨_, ys⟩, h2, e⟩ := Option.bind_eq_some_iff.1 e
  obtain ⟨l, h3, e⟩ := Option.bind_eq_some_iff.1 e
  obtain ⟨m, h4, e⟩ := Option.bind_eq_some_iff.1 e
  cases e
  refine FnAt.c (FnAt.run (by kernel_rfl) (T := ⟨[], []⟩) ⟨trivial, trivial⟩ Tryz.func107 sw107 fun ho hh => ?_)
  have e1 : T_bCmp [a, b] (h ++ []) = some (.i .i64 (cmpB l m), h) := by rw [List.append_nil]; exact e0
  unfold w107
  simp only [rep_0, rep_s, walkW, walkX, if_true, if_false, reduceIte, Nat.reduceAdd, Nat.reduceSub, Nat.reduceLeDiff, Nat.reduceEqDiff, Nat.reduceMul, Nat.reduceLT, Int.reduceLT, Int.reduceLE, Int.reduceEq, opR_bcmp, e1]
  exact Bt.eq rfl rfl
 ·cases e
theorem opR_sla {T : Env} {fr : List AV} {h : List AB} (n sz : Nat) (x : Opd) (lo hi mx : Option Opd) : opR T (.sla n sz x lo hi mx) fr h = (slA n sz (x.ev fr) (lo.map (Opd.ev fr)) (hi.map (Opd.ev fr)) (mx.map (Opd.ev fr))).map (·, h) := _root_.id rfl
theorem slA_all (id off : Nat) : slA 32 1 (.p id off) none none none = some (.sl id off 32 32 none) := by simp [slA, bnd]
noncomputable def T_sha : List AV → List AB → Option (AV × List AB)
 | [a, b], h => (getI a).bind fun x => (getI b).bind fun y => some (.i .i64 (cmpG x y), h)
 | _, _ => none
theorem sha_spec : Spec Tryz.prog 67 T_sha := by
 intro args h v h' e
 unfold T_sha at e
 split at e
 ·rename_i a b
  obtain ⟨x, hx, e2⟩ := getI_bind e
  obtain ⟨y, hy, e3⟩ := getI_bind e2
  clear e e2
  subst hx hy
  cases e3
  refine FnAt.c (FnAt.frz0 fun hz => ?_)
  generalize h.map AB.freeze = h at *
  refine FnAt.run (by kernel_rfl) (T := ⟨[⟨107, T_bCmp, fun _ => []⟩], []⟩) ⟨⟨bCmp_spec, trivial⟩, trivial⟩ Tryz.func67 sw67 fun ho hh => ?_
  unfold w67
  simp only [rep_0, rep_s, walkW, walkQ, walkX, if_true, if_false, ↓reduceIte, Nat.reduceAdd, Nat.reduceSub, Nat.reduceLeDiff, Nat.reduceEqDiff, Nat.reduceMul, Nat.reduceLT, Int.reduceLT, Int.reduceLE, Int.reduceEq, CO.tmps, Opd.tmps, optT, Nat.reducePow, Nat.reduceDiv, Nat.reduceMod, opR_sla, slA_all, Option.map_none, T_bCmp, bytesOf_id, id_all, id_len, id_take, over_at, HOk_own hh, mask_ownC hz, mask_ownQ hz, mask_ownQ0 hz]
  exact Bt.dropI _ hh rfl
 ·cases e
instance : Inhabited Dg := ⟨zeroD⟩
theorem sortI_swo : SWO (ltOf cmpG) := ⟨fun x => by
  unfold ltOf
  rw [decide_eq_false_iff_not]
  exact lessG_ord.irr x, fun x y z h1 h2 => by
  unfold ltOf at *
  rw [decide_eq_true_eq] at *
  exact lessG_ord.tr h1 h2, fun x y z h1 h2 => by
  unfold ltOf at *
  rw [decide_eq_false_iff_not] at *
  intro h3
  rcases lessG_tri x y with q | q | q
  ·exact h1 q
  ·subst q; exact h2 h3
  ·exact h2 (lessG_ord.tr q h3)⟩
theorem sha_cmps : Cmps Tryz.prog 67 idR cmpG := fun x y h => sha_spec _ _ _ _ (by simp only [T_sha, getI_f, Option.bind_some])
theorem id_one1 (x : Dg) : ∀ v ∈ idR.enc x, v.oneCell' = true := fun v hv => by
 obtain ⟨a, ha, rfl⟩ := List.mem_map.1 (show v ∈ (idR.f x).map AV.val from hv)
 obtain ⟨b, _, rfl⟩ := List.mem_map.1 (show a ∈ x.l.map u8A from ha)
 rfl
open Classical in
noncomputable def T_SortI : List AV → List AB → Option (AV × List AB)
 | [s, .f (.func 67) [] []], h => (getS idR h s).bind fun l => match idOf s with
   | [id] => if l.length ≤ 1000000 ∧ s = rsl idR id l ∧ h[id]? = some (resB idR true l) then some (.tu [], h.set id (resB idR true (sortP cmpG l))) else none
   | _ => none
 | _, _ => none
theorem SortI_spec : Spec Tryz.prog 66 T_SortI := by
 intro args h v h' e
 unfold T_SortI at e
 split at e
 ·rename_i s
  obtain ⟨l, hs, e⟩ := getS_bind e
  split at e
  ·rename_i id hid
   split at e
   ·rename_i hc
    cases e
    obtain ⟨h1, rfl, h3⟩ := hc
    exact sort_fnP (r := idR) sortLays66 Tryz.isAgg40 Tryz.sizeOf40 sortI_swo sha_cmps id_fl id_one1 l h3 h1
   ·cases e
  ·cases e
 ·cases e
theorem cpI_short {l : List Dg} (h : l.length < 2) : cpI l = l := by
 unfold cpI
 match l, h with
 | [], _ => rfl
 | [a], _ => rfl
open Classical in
noncomputable def T_cmpI2 : List AV → List AB → Option (AV × List AB)
 | [s], h => (getS idR h s).bind fun l => match idOf s with
   | [id] => if s = rsl idR id l ∧ h[id]? = some (resB idR true l) ∧ l.length ≤ 1000000 then some (rsl idR id (cpI l), h.set id (resB idR true (cpI l))) else none
   | _ => none
 | _, _ => none
theorem cmpI2_spec : Spec Tryz.prog 68 T_cmpI2 := by
 intro args h v h' e
 unfold T_cmpI2 at e
 split at e
 ·rename_i s
  obtain ⟨l, hs, e⟩ := getS_bind e
  split at e
  ·rename_i id hid
   split at e
   ·rename_i hc
    cases e
    obtain ⟨h1, h2, h3⟩ := hc
    by_cases h0 : l.length < 2
    ·rw [cpI_short h0, set_asis h2, ← h1]
     refine FnAt.c (FnAt.run (by kernel_rfl) (T := ⟨[], []⟩) ⟨trivial, trivial⟩ Tryz.func68 sw68 fun ho hh => ?_)
     simp only [okL_cons, Bool.and_eq_true] at ho
     have f1 := hs.fx ho.1 (sz := 32) rfl
     have g0 : ((l.length : Int) < 2) = True := eq_true (by omega)
     unfold w68
     simp only [rep_0, rep_s, walkW, walkX, if_true, if_false, reduceIte, Nat.reduceAdd, Nat.reduceSub, Nat.reduceLeDiff, Nat.reduceEqDiff, Nat.reduceMul, Nat.reduceLT, Int.reduceLT, Int.reduceLE, Int.reduceEq, f1, g0]
     exact ⟨Bt.eq rfl (List.append_nil h), fun q => q.elim⟩
    ·refine cmpI_spec _ _ _ _ ?_
     simp only [T_cmpI, hs.get, Option.bind_some, hid]
     rw [if_pos ⟨h1, h2, by omega, h3⟩]
   ·cases e
  ·cases e
 ·cases e
noncomputable def dgsL (hs : List Hd) : List Dg := cpI (sortP cmpG (hs.map (·.2)))
noncomputable def T_IDs : List AV → List AB → Option (AV × List AB)
 | [.ag [l, s, t]], h => (getS heldR h l).bind fun hs => (getS intR h s).bind fun v => (getS dotR h t).bind fun ds => if hs.length ≤ 100000 then
   if checkG hs v ds = 0 then some (rsl idR h.length (dgsL hs), h ++ [resB idR true (dgsL hs)]) else some (.ns, h)
   else none
 | _, _ => none
theorem IDs_spec : Spec Tryz.prog 22 T_IDs := by
 intro args h v h' e
 unfold T_IDs at e
 split at e
 ·rename_i l s t
  obtain ⟨hs, hl, e⟩ := getS_bind e
  obtain ⟨xs, hv, e⟩ := getS_bind e
  obtain ⟨ds, hd, e⟩ := getS_bind e
  split at e
  ·rename_i hL
   refine FnAt.c (FnAt.run (by kernel_rfl) (T := ⟨[⟨27, T_pgCheck, fun _ => []⟩, ⟨66, T_SortI, fun _ => []⟩, ⟨68, T_cmpI2, fun _ => []⟩], []⟩) ⟨⟨pgCheck_spec, SortI_spec, cmpI2_spec, trivial⟩, trivial⟩ Tryz.func22 sw22 fun ho hh => ?_)
   simp only [okL_cons, ok_ag, Bool.and_eq_true] at ho
   have f1 := hl.fx ho.1.1 (sz := 34) rfl
   have f2 := hv.fx ho.1.2.1 (sz := 1) rfl
   have f3 := hd.fx ho.1.2.2.1 (sz := 2) rfl
   have hL' : (hs.length ≤ 1000000) = True := eq_true (by omega)
   unfold w22
   by_cases c : checkG hs xs ds = 0
   case neg =>
    rw [if_neg c] at e
    cases e
    have c' := eq_false c
    simp only [rep_0, rep_s, walkW, walkQ, walkX, if_true, if_false, ↓reduceIte, Nat.reduceAdd, Nat.reduceSub, Nat.reduceLeDiff, Nat.reduceEqDiff, Nat.reduceMul, Nat.reduceLT, Int.reduceLT, Int.reduceLE, Int.reduceEq, CO.tmps, Opd.tmps, optT, Nat.reducePow, Nat.reduceDiv, Nat.reduceMod, f1, f2, f3, T_pgCheck, c', hL', ne_eq, not_false_eq_true, not_true_eq_false, decide_true, decide_false]
    exact Bt.drop _ hh rfl (by simp only [okL_cons, okL_nil, ok_ns, Bool.and_true])
   rw [if_pos c] at e
   cases e
   simp only [rep_0, rep_s, walkW, walkQ, walkX, if_true, if_false, ↓reduceIte, Nat.reduceAdd, Nat.reduceSub, Nat.reduceLeDiff, Nat.reduceEqDiff, Nat.reduceMul, Nat.reduceLT, Int.reduceLT, Int.reduceLE, Int.reduceEq, CO.tmps, Opd.tmps, optT, Nat.reducePow, Nat.reduceDiv, Nat.reduceMod, f1, f2, f3, T_pgCheck, c, hL', ne_eq, not_false_eq_true, not_true_eq_false, decide_true, decide_false]
   have up : ∀ (t : AV), t.ok (fun i => decide (i < h.length)) = true → ∀ c, t.ok (fun i => decide (i < h.length + c)) = true := fun t ht c => AV.ok_mono (fun i q => by simp only [decide_eq_true_eq] at q ⊢; omega) t ht
   have rn : ∀ (t : AV), t.ok (fun i => decide (i < h.length)) = true → ∀ sel, Wk (t.ren (selN h.length sel)) t := fun t ht sel => Wk.ren (fun i hi => selN_old hi) ht
   have fo := fun c => And.intro (up l ho.1.1 c) (And.intro (up s ho.1.2.1 c) (up t ho.1.2.2.1 c))
   have fr := fun sel => And.intro (rn l ho.1.1 sel) (And.intro (rn s ho.1.2.1 sel) (rn t ho.1.2.2.1 sel))
   have hS : ∃ Sm : Nat → AV, (∀ i, i < hs.length → Sm i = apS idR (h.length + 1) ((hs.take i).map (·.2))) ∧ Sm hs.length = rsl idR (h.length + 1) (hs.map (·.2)) := ⟨fun i => if i < hs.length then apS idR (h.length + 1) ((hs.take i).map (·.2)) else rsl idR (h.length + 1) (hs.map (·.2)), fun i hi => if_pos hi, if_neg (Nat.lt_irrefl _)⟩
   obtain ⟨Sm, s1, s2⟩ := hS
   refine W_loopS (S := Nat) (fun i => hs.length - i) (fun i => tp 3 ++ [Sm i] ++ tp 6 ++ [l, .i .i64 hs.length, .i .i64 i] ++ tp 13) (fun i => h ++ [.blk false true [l, s, t], resB idR true ((hs.take i).map (·.2))]) (fun i => i ≤ hs.length) 0 (Nat.zero_le _) ?_ fun i hi => ?_
   ·show Bt _ _ _ _ _ (h ++ ([.blk false true [l, s, t]] ++ List.replicate 1 .dead))
    rw [← List.append_assoc]
    refine Bt.trans (Bt.wk ?_) (Bt.pad _ _ 1)
    have z : Wk (Sm 0) .ns := by
     by_cases q : 0 < hs.length
     ·rw [s1 0 q]; exact Wk.refl _
     ·have : hs = [] := List.eq_nil_of_length_eq_zero (by omega)
      subst this
      rw [show (0 : Nat) = ([] : List Hd).length from rfl, s2]
      exact Wk.nil _ _
    simp only [walkW, walkX, if_true, if_false, reduceIte, Nat.reduceAdd, Nat.reduceSub, Nat.reduceLeDiff, Nat.reduceEqDiff, Nat.reduceMul, Nat.reduceLT, Int.reduceLT, Int.reduceLE, Int.reduceEq, z]
   ·by_cases gi : i < hs.length
    ·have gi' := eq_true gi
     have e1 : IntKind.i64.wrap ((i : Int) + 1) = ((i + 1 : Nat) : Int) := wrap_in (by unfold In64; omega)
     have hst : (hs.take (i + 1)).map (·.2) = (hs.take i).map (·.2) ++ [(hs.getD i heldR.d).2] := by
      rw [List.take_succ_eq_append_getElem gi, List.map_append, List.getD_eq_getElem?_getD, List.getElem?_eq_getElem gi]
      rfl
     have lo : ((hs.take i).map (·.2)).length = i := by rw [List.length_map, List.length_take]; omega
     have sN : Sm (i + 1) = rsl idR (h.length + 1) ((hs.take (i + 1)).map (·.2)) := by
      by_cases q : i + 1 < hs.length
      ·rw [s1 _ q, apS_rsl _ (by rw [List.length_map, List.length_take]; omega)]
      ·have : i + 1 = hs.length := by omega
       rw [this, s2, List.take_length]
     rw [hst] at sN
     rw [s1 i gi]
     generalize hx : hs.getD i heldR.d = x at *
     generalize ho : (hs.take i).map (·.2) = o at *
     have f5 : ∀ (a1 a2 : AB) (y : List AB), ldV (h ++ (a1 :: a2 :: .blk true true (heldR.f x) :: y)) (some 32) (.p (h.length + 2) 2) = some (.ag (idR.f x.2)) := fun a1 a2 y => by
      rw [lda_own]
      simp only [ownC_s, ownC_0, Option.bind_some, held_len]
      rw [if_pos (by decide), held_id]
     by_cases hB : o = []
     ·have z3 : (1 * 32 ≤ 140737488355328 ∧ 1 ≤ maxLen) = True := eq_true ⟨by decide, by unfold maxLen; omega⟩
      simp only [hB, apS_nil, walkW, walkQ, walkX, if_true, if_false, ↓reduceIte, Nat.reduceAdd, Nat.reduceSub, Nat.reduceLeDiff, Nat.reduceEqDiff, Nat.reduceMul, Nat.reduceLT, Int.reduceLT, Int.reduceLE, Int.reduceEq, CO.tmps, Opd.tmps, optT, Nat.reducePow, Nat.reduceDiv, Nat.reduceMod, f1, f2, f3, f5, gi', hx, held_all1, held_len, held_take, id_all, id_len, id_take, over_at, List.length_cons, List.length_nil, e1, z3]
      refine ⟨i + 1, gi, by dsimp only; omega, ?_⟩
      simp only [sN, hst, hB, List.nil_append, rsl_uno, resB_one1]
      exact Bt.sel [0, 4] hh (by decide) (by simp only [walkS, FrSel, BlkSel, AV.ren, renL, AV.ok, okL, Option.some.injEq, exists_eq_left', List.length_cons, List.length_nil, Nat.reduceAdd, Nat.reduceLT, reduceCtorEq, implies_true, exists_eq', fo, fr]) (by simp only [walkS, FrSel, BlkSel, AV.ren, renL, AV.ok, okL, Option.some.injEq, exists_eq_left', List.length_cons, List.length_nil, Nat.reduceAdd, Nat.reduceLT, reduceCtorEq, implies_true, exists_eq', fo, fr, idR_sz])
     ·have hlB : o.length ≠ 0 := fun q => hB (List.eq_nil_of_length_eq_zero q)
      have gr : ∀ id, apS idR id o = rsl idR id o := fun id => apS_rsl _ hlB
      have fa := fun L k ys hb => appW_rslP (h := h) (p := h.length) rfl (r := idR) (sz := 32) rfl L k o 32 1 ys hlB hb (by decide) (by omega) (by unfold maxLen; omega)
      simp only [gr, walkW, walkQ, walkX, if_true, if_false, ↓reduceIte, Nat.reduceAdd, Nat.reduceSub, Nat.reduceLeDiff, Nat.reduceEqDiff, Nat.reduceMul, Nat.reduceLT, Int.reduceLT, Int.reduceLE, Int.reduceEq, CO.tmps, Opd.tmps, optT, Nat.reducePow, Nat.reduceDiv, Nat.reduceMod, f1, f2, f3, f5, gi', hx, held_all1, held_len, held_take, id_all, id_len, id_take, over_at, List.length_cons, List.length_nil, e1, fa]
      refine ⟨i + 1, gi, by dsimp only; omega, ?_⟩
      simp only [sN, hst, rsl_snoc, resB_snoc]
      exact Bt.sel [0, 4] hh (by decide) (by simp only [walkS, FrSel, BlkSel, AV.ren, renL, AV.ok, okL, Option.some.injEq, exists_eq_left', List.length_cons, List.length_nil, Nat.reduceAdd, Nat.reduceLT, reduceCtorEq, implies_true, exists_eq', fo, fr]) (by simp only [walkS, FrSel, BlkSel, AV.ren, renL, AV.ok, okL, Option.some.injEq, exists_eq_left', List.length_cons, List.length_nil, Nat.reduceAdd, Nat.reduceLT, reduceCtorEq, implies_true, exists_eq', fo, fr, idR_sz])
    ·obtain rfl : i = hs.length := by omega
     have gi' := eq_false gi
     have hlm : ((hs.map (·.2)).length ≤ 1000000) = True := eq_true (by rw [List.length_map]; omega)
     have hls : ((sortP cmpG (hs.map (·.2))).length ≤ 1000000) = True := eq_true (by rw [sortP_len sortI_swo, List.length_map]; omega)
     have hsr : ∀ id, rsl idR id (hs.map (·.2)) = rsl idR id (sortP cmpG (hs.map (·.2))) := fun id => by unfold rsl; rw [sortP_len sortI_swo]
     rw [s2, List.take_length]
     simp only [walkW, walkQ, walkX, if_true, if_false, ↓reduceIte, Nat.reduceAdd, Nat.reduceSub, Nat.reduceLeDiff, Nat.reduceEqDiff, Nat.reduceMul, Nat.reduceLT, Int.reduceLT, Int.reduceLE, Int.reduceEq, CO.tmps, Opd.tmps, optT, Nat.reducePow, Nat.reduceDiv, Nat.reduceMod, f1, f2, f3, gi', T_SortI, T_cmpI2, hlm, maxLen_ok, idOf_rsl, own_at']
     have hD : cpI (sortP cmpG (hs.map (·.2))) = dgsL hs := rfl
     simp only [hsr, walkW, walkX, if_true, if_false, reduceIte, Nat.reduceAdd, Nat.reduceSub, Nat.reduceLeDiff, Nat.reduceEqDiff, Nat.reduceMul, Nat.reduceLT, Int.reduceLT, Int.reduceLE, Int.reduceEq, T_cmpI2, hls, hD, maxLen_ok, idOf_rsl, own_at']
     exact Bt.sel [1] hh (by decide) (by simp only [walkS, FrSel, BlkSel, AV.ren, renL, AV.ok, okL, Option.some.injEq, exists_eq_left', List.length_cons, List.length_nil, Nat.reduceAdd, Nat.reduceLT, reduceCtorEq, implies_true, exists_eq']) (by simp only [walkS, FrSel, BlkSel, AV.ren, renL, AV.ok, okL, Option.some.injEq, exists_eq_left', List.length_cons, List.length_nil, Nat.reduceAdd, Nat.reduceLT, reduceCtorEq, implies_true, exists_eq'])
  ·cases e
 ·cases e
noncomputable def T_Torn : List AV → List AB → Option (AV × List AB)
 | [.ag [l, s, t]], h => (getS heldR h l).bind fun hs => (getS intR h s).bind fun v => (getS dotR h t).bind fun ds => if hs.length ≤ 100000 then some (.b (decide (checkG hs v ds = 0 ∧ 1 < (dgsL hs).length)), h) else none
 | _, _ => none
theorem Torn_spec : Spec Tryz.prog 25 T_Torn := by
 intro args h v h' e
 unfold T_Torn at e
 split at e
 ·rename_i l s t
  obtain ⟨hs, hl, e⟩ := getS_bind e
  obtain ⟨xs, hv, e⟩ := getS_bind e
  obtain ⟨ds, hd, e⟩ := getS_bind e
  split at e
  ·rename_i hL
   cases e
   refine FnAt.c (FnAt.run (by kernel_rfl) (T := ⟨[⟨22, T_IDs, fun _ => []⟩], []⟩) ⟨⟨IDs_spec, trivial⟩, trivial⟩ Tryz.func25 sw25 fun ho hh => ?_)
   simp only [okL_cons, ok_ag, Bool.and_eq_true] at ho
   have f1 := hl.fx ho.1.1 (sz := 34) rfl
   have f2 := hv.fx ho.1.2.1 (sz := 1) rfl
   have f3 := hd.fx ho.1.2.2.1 (sz := 2) rfl
   have hL' := eq_true hL
   unfold w25
   by_cases c : checkG hs xs ds = 0
   ·simp only [rep_0, rep_s, walkW, walkX, if_true, if_false, reduceIte, Nat.reduceAdd, Nat.reduceSub, Nat.reduceLeDiff, Nat.reduceEqDiff, Nat.reduceMul, Nat.reduceLT, Int.reduceLT, Int.reduceLE, Int.reduceEq, f1, f2, f3, T_IDs, c, hL']
    exact Bt.dropB _ hh (decide_eq_decide.2 (by constructor <;> intro q <;> first | exact ⟨trivial, by omega⟩ | omega))
   ·have c' := eq_false c
    simp only [rep_0, rep_s, walkW, walkX, if_true, if_false, reduceIte, Nat.reduceAdd, Nat.reduceSub, Nat.reduceLeDiff, Nat.reduceEqDiff, Nat.reduceMul, Nat.reduceLT, Int.reduceLT, Int.reduceLE, Int.reduceEq, f1, f2, f3, T_IDs, c', hL']
    exact Bt.dropB _ hh (by simp)
  ·cases e
 ·cases e
end Go.Proofs.YtcncpbcbedfakaaGreat
end
section
namespace Go.Proofs.YtcncpbcbedfakaaGreat
set_option maxRecDepth 100000
set_option maxHeartbeats 4000000
set_option linter.unusedSimpArgs false
def dgB (n : Int) : Dg := ⟨UInt8.ofInt n :: List.replicate 31 0, by simp⟩
theorem dgB_f {n : Int} (h : 0 ≤ n ∧ n < 256) : idR.f (dgB n) = .i .u8 n :: List.replicate 31 (.i .u8 0) := by
 have e : ((UInt8.ofInt n).toNat : Int) = n := by
  simp [UInt8.ofInt]
  omega
 show u8A (UInt8.ofInt n) :: (List.replicate 31 (0 : UInt8)).map u8A = _
 unfold u8A
 rw [e]
 rfl
def T_dot16 : List AV → List AB → Option (AV × List AB)
 | [.i .i64 a, .i .i64 b], h => some (.ag [.i .i64 a, .i .i64 b], h)
 | _, _ => none
theorem dot16_spec : Spec Tryz.prog 34 T_dot16 := by
 intro args h v h' e
 unfold T_dot16 at e
 split at e
 ·cases e
  refine FnAt.c (FnAt.run (by kernel_rfl) (T := ⟨[], []⟩) ⟨trivial, trivial⟩ Tryz.func34 sw34 fun ho hh => ?_)
  unfold w34
  simp only [rep_0, rep_s, walkW, walkX, if_true, if_false, reduceIte, Nat.reduceAdd, Nat.reduceSub, Nat.reduceLeDiff, Nat.reduceEqDiff, Nat.reduceMul, Nat.reduceLT, Int.reduceLT, Int.reduceLE, Int.reduceEq]
  exact Bt.drop _ hh rfl (by simp only [ok_tu, okL_cons, okL_nil, ok_ag, ok_ns, ok_i, Bool.and_true])
 ·cases e
def T_held16 : List AV → List AB → Option (AV × List AB)
 | [.i .u8 n, .i .i64 a, .i .i64 b], h => if 0 ≤ n ∧ n < 256 then some (.ag (heldR.f ((a, b), dgB n)), h) else none
 | _, _ => none
theorem held16_spec : Spec Tryz.prog 32 T_held16 := by
 intro args h v h' e
 unfold T_held16 at e
 split at e
 ·rename_i n a b
  split at e
  ·rename_i hn
   cases e
   refine FnAt.c (FnAt.run (by kernel_rfl) (T := ⟨[⟨34, T_dot16, fun _ => []⟩], []⟩) ⟨⟨dot16_spec, trivial⟩, trivial⟩ Tryz.func32 sw32 fun ho hh => ?_)
   unfold w32
   rw [heldR_f, dgB_f hn]
   simp only [rep_0, rep_s, walkW, walkX, if_true, if_false, reduceIte, Nat.reduceAdd, Nat.reduceSub, Nat.reduceLeDiff, Nat.reduceEqDiff, Nat.reduceMul, Nat.reduceLT, Int.reduceLT, Int.reduceLE, Int.reduceEq, T_dot16]
   exact Bt.drop _ hh rfl (by simp only [ok_tu, okL_cons, okL_nil, ok_ag, ok_ns, ok_i, Bool.and_true])
  ·cases e
 ·cases e
noncomputable def T_of16 : List AV → List AB → Option (AV × List AB)
 | [.i .i64 a, .i .i64 b, s], h => if rangedP [a, b] [] ∧ s.isSl = true then some (.ag [s, rsl intR h.length (fmO [a, b] []).1, rsl dotR (h.length + 1) (fmO [a, b] []).2], h ++ [resB intR true (fmO [a, b] []).1, resB dotR true (fmO [a, b] []).2]) else none
 | _, _ => none
theorem of16_spec : Spec Tryz.prog 31 T_of16 := by
 intro args h v h' e
 unfold T_of16 at e
 split at e
 ·rename_i a b s
  split at e
  ·rename_i hr
   cases e
   refine FnAt.c (FnAt.run (by kernel_rfl) (T := ⟨[⟨58, T_cMake, fun _ => []⟩], []⟩) ⟨⟨Make_spec, trivial⟩, trivial⟩ Tryz.func31 sw31 fun ho hh => ?_)
   simp only [okL_cons, Bool.and_eq_true] at ho
   have os := ho.2.2.1
   have hr1 := eq_true hr.1
   have fs : ∀ c, s.ok (fun i => decide (i < h.length + c)) = true := fun c => AV.ok_mono (fun i q => by simp only [decide_eq_true_eq] at q ⊢; omega) s os
   have fr : ∀ sel, Wk (s.ren (selN h.length sel)) s := fun sel => Wk.ren (fun i hi => selN_old hi) os
   have gu : ∀ (L : List AB) (k : Nat), ownC L k = some [.i .i64 a, .i .i64 b] → getS intR (h ++ L) (.sl (h.length + k) 0 2 2 none) = some [a, b] := fun L k q => (Rd_ownT (r := intR) (n := 2) (l := [a, b]) q (by unfold maxLen; simp) (by simp)).get
   have f0 : (([] : Dots).length ≤ 100000) = True := eq_true (Nat.zero_le _)
   have f4 : ((fmO [a, b] []).2.length ≤ 4096) = True := eq_true (Nat.le_trans (fmO_len2 hr.1) (Nat.zero_le _))
   unfold w31
   simp only [rep_0, rep_s, walkW, walkX, if_true, if_false, reduceIte, Nat.reduceAdd, Nat.reduceSub, Nat.reduceLeDiff, Nat.reduceEqDiff, Nat.reduceMul, Nat.reduceLT, Int.reduceLT, Int.reduceLE, Int.reduceEq, T_cMake, gu, f0, f4, hr1, sl_one hr.2, sl_cells hr.2, sl_known hr.2]
   have wag : ∀ sel A B, Wk (.ag [s.ren (selN h.length sel), A, B]) (.ag [s, A, B]) = True := fun sel A B => eq_true (Wk_ag ⟨fr sel, Wk.refl _, Wk.refl _, trivial⟩)
   exact Bt.sel [2, 3] hh (by decide) (by simp only [walkS, FrSel, BlkSel, AV.ren, renL, AV.ok, okL, Option.some.injEq, exists_eq_left', List.length_cons, List.length_nil, Nat.reduceAdd, Nat.reduceLT, reduceCtorEq, implies_true, exists_eq']) (by simp only [walkS, FrSel, BlkSel, AV.ren, renL, AV.ok, okL, Option.some.injEq, exists_eq_left', List.length_cons, List.length_nil, Nat.reduceAdd, Nat.reduceLT, reduceCtorEq, implies_true, exists_eq', fs, fr, wag])
  ·cases e
 ·cases e
def fldV (off : Nat) (sz : Option Nat) : AV → Option AV
 | .ag l => match sz with
  | none => l[off]?
  | some n => some (.ag ((l.drop off).take n))
 | _ => none
theorem opR_fld {T : Env} {fr : List AV} {h : List AB} (off : Nat) (sz : Option Nat) (x : Opd) : opR T (.fld off sz x) fr h = (fldV off sz (x.ev fr)).map (·, h) := by
 show (match x.ev fr with | .ag l => _ | _ => _) = _
 unfold fldV
 split
 ·cases sz with
  | none => rfl
  | some n => rfl
 ·rfl
noncomputable def T_seen16 : List AV → List AB → Option (AV × List AB)
 | [.i .i64 a, .i .i64 b], h => if rangedP [a, b] [] then some (.ag [rsl intR h.length (fmO [a, b] []).1, rsl dotR (h.length + 1) (fmO [a, b] []).2], h ++ [resB intR true (fmO [a, b] []).1, resB dotR true (fmO [a, b] []).2]) else none
 | _, _ => none
theorem seen16_spec : Spec Tryz.prog 35 T_seen16 := by
 intro args h v h' e
 unfold T_seen16 at e
 split at e
 ·rename_i a b
  split at e
  ·rename_i hr
   cases e
   refine FnAt.c (FnAt.run (by kernel_rfl) (T := ⟨[⟨31, T_of16, fun _ => []⟩], []⟩) ⟨⟨of16_spec, trivial⟩, trivial⟩ Tryz.func35 sw35 fun ho hh => ?_)
   have hr1 := eq_true hr
   unfold w35
   simp only [rep_0, rep_s, walkW, walkX, if_true, if_false, reduceIte, Nat.reduceAdd, Nat.reduceSub, Nat.reduceLeDiff, Nat.reduceEqDiff, Nat.reduceMul, Nat.reduceLT, Int.reduceLT, Int.reduceLE, Int.reduceEq, T_of16, nsSl, hr1, opR_fld, fldV]
   exact Bt.sel [1, 2] hh (by decide) (by simp only [walkS, FrSel, BlkSel, AV.ren, renL, AV.ok, okL, Option.some.injEq, exists_eq_left', List.length_cons, List.length_nil, Nat.reduceAdd, Nat.reduceLT, reduceCtorEq, implies_true, exists_eq']) (by simp only [walkS, FrSel, BlkSel, AV.ren, renL, AV.ok, okL, Option.some.injEq, exists_eq_left', List.length_cons, List.length_nil, Nat.reduceAdd, Nat.reduceLT, reduceCtorEq, implies_true, exists_eq'])
  ·cases e
 ·cases e
def wrB (hs : List Hd) (v : List Int) (ds : Dots) (x : Hd) (v' : List Int) (ds' : Dots) (hw : List Hd) (vw : List Int) (dw : Dots) (er : Int) : Prop :=
 wrE hs v ds x.1 v' ds' = er ∧ ((wrE hs v ds x.1 v' ds' = 0 ∧ wrL hs v' ds' x = hw ∧ (mkO (joinO v v' ds ds').1 (joinO v v' ds ds').2 x.1).1 = vw ∧ (mkO (joinO v v' ds ds').1 (joinO v v' ds ds').2 x.1).2 = dw) ∨ (wrE hs v ds x.1 v' ds' ≠ 0 ∧ [] = hw ∧ [] = vw ∧ [] = dw))
noncomputable instance (hs : List Hd) (v : List Int) (ds : Dots) (x : Hd) (v' : List Int) (ds' : Dots) (hw : List Hd) (vw : List Int) (dw : Dots) (er : Int) : Decidable (wrB hs v ds x v' ds' hw vw dw er) := Classical.propDecidable _
noncomputable def T_writes : List AV → List AB → Option (AV × List AB)
 | [.ag [l, s, t], .ag [.i .i64 a, .i .i64 b], .i .u8 n, .ag [s', t'], .ag [lw, sw, tw], .i .i64 er], h => (getS heldR h l).bind fun hs => (getS intR h s).bind fun v => (getS dotR h t).bind fun ds => (getS intR h s').bind fun v' => (getS dotR h t').bind fun ds' => (getS heldR h lw).bind fun hw => (getS intR h sw).bind fun vw => (getS dotR h tw).bind fun dw =>
   if hs.length ≤ 1000 ∧ t.capOk = true ∧ t'.capOk = true ∧ 0 ≤ n ∧ n < 256 then some (.b (decide (wrB hs v ds ((a, b), dgB n) v' ds' hw vw dw er)), h) else none
 | _, _ => none
theorem writes_spec : Spec Tryz.prog 33 T_writes := by
 intro args h v h' e
 unfold T_writes at e
 split at e
 ·rename_i l s t a b n s' t' lw sw tw er
  obtain ⟨hs, hl, e⟩ := getS_bind e
  obtain ⟨xs, hv, e⟩ := getS_bind e
  obtain ⟨ds, hd, e⟩ := getS_bind e
  obtain ⟨xs', hv', e⟩ := getS_bind e
  obtain ⟨ds', hd', e⟩ := getS_bind e
  obtain ⟨hw, hlw, e⟩ := getS_bind e
  obtain ⟨vw, hvw, e⟩ := getS_bind e
  obtain ⟨dw, hdw, e⟩ := getS_bind e
  split at e
  ·rename_i hc
   obtain ⟨hL, k1, k2, hn⟩ := hc
   cases e
   refine FnAt.c (FnAt.run (by kernel_rfl) (T := ⟨[⟨18, T_pWrite, fun _ => []⟩, ⟨14, T_SameReg, fun _ => []⟩], []⟩) ⟨⟨pWrite_spec, SameReg_spec, trivial⟩, trivial⟩ Tryz.func33 sw33 fun ho hh => ?_)
   simp only [okL_cons, ok_ag, Bool.and_eq_true] at ho
   have f1 := hl.fx ho.1.1 (sz := 34) rfl
   have f2 := hv.fx ho.1.2.1 (sz := 1) rfl
   have f3 := hd.fx ho.1.2.2.1 (sz := 2) rfl
   have f4 := hv'.fx ho.2.2.2.1.1 (sz := 1) rfl
   have f5 := hd'.fx ho.2.2.2.1.2.1 (sz := 2) rfl
   have f6 := hlw.fx ho.2.2.2.2.1.1 (sz := 34) rfl
   have f7 := hvw.fx ho.2.2.2.2.1.2.1 (sz := 1) rfl
   have f8 := hdw.fx ho.2.2.2.2.1.2.2.1 (sz := 2) rfl
   have hL2 : (hs.length ≤ 100000) = True := eq_true (by omega)
   have gi : getI (.ag (.i .u8 n :: List.replicate 31 (.i .u8 0))) = some (dgB n) := by rw [← dgB_f hn]; exact getI_f _
   simp only [rep_0, rep_s] at gi
   unfold w33
   by_cases hE : wrE hs xs ds (a, b) xs' ds' = 0
   ·obtain ⟨c1, c2, c3, c4, c5, c6, c7⟩ := wrE_0 hE
    have ra := checkG_rg.1 c1
    have nm := mk_nf (join_nf ra.nf (nf_check c3)) c2
    have n0 := wrL_len hs xs' ds' ((a, b), dgB n)
    have n1 : ((wrL hs xs' ds' ((a, b), dgB n)).length ≤ 1000000) = True := eq_true (by omega)
    have n2 : ((mkO (joinO xs xs' ds ds').1 (joinO xs xs' ds ds').2 (a, b)).1.length ≤ 1000000) = True := eq_true (by have := nm.rg.1; omega)
    have n3 : ((mkO (joinO xs xs' ds ds').1 (joinO xs xs' ds ds').2 (a, b)).2.length ≤ 1000000) = True := eq_true (by omega)
    simp only [rep_0, rep_s, walkW, walkQ, walkX, if_true, if_false, ↓reduceIte, Nat.reduceAdd, Nat.reduceSub, Nat.reduceLeDiff, Nat.reduceEqDiff, Nat.reduceMul, Nat.reduceLT, Int.reduceLT, Int.reduceLE, Int.reduceEq, CO.tmps, Opd.tmps, optT, Nat.reducePow, Nat.reduceDiv, Nat.reduceMod, f1, f2, f3, f4, f5, f6, f7, f8, T_pWrite, T_SameReg, gi, hE, hL2, k1, k2, n1, n2, n3, maxLen_ok, ne_eq, not_false_eq_true, not_true_eq_false, decide_true, decide_false]
    exact ⟨fun q => Bt.dropB _ hh (decide_eq_decide.2 ⟨fun z => ⟨hE.trans q, .inl ⟨hE, z⟩⟩, fun z => z.2.elim (fun w => w.2) fun w => absurd hE w.1⟩), fun q => Bt.dropB _ hh (decide_eq_false fun z => q (hE.symm.trans z.1)).symm⟩
   ·have hE' := eq_false hE
    simp only [rep_0, rep_s, walkW, walkQ, walkX, if_true, if_false, ↓reduceIte, Nat.reduceAdd, Nat.reduceSub, Nat.reduceLeDiff, Nat.reduceEqDiff, Nat.reduceMul, Nat.reduceLT, Int.reduceLT, Int.reduceLE, Int.reduceEq, CO.tmps, Opd.tmps, optT, Nat.reducePow, Nat.reduceDiv, Nat.reduceMod, f1, f2, f3, f4, f5, f6, f7, f8, T_pWrite, T_SameReg, gi, hE', hL2, k1, k2, getS_ns, ne_eq, not_false_eq_true, not_true_eq_false, decide_true, decide_false]
    exact ⟨fun q => Bt.dropB _ hh (decide_eq_decide.2 ⟨fun z => ⟨q, .inr ⟨hE, z⟩⟩, fun z => z.2.elim (fun w => absurd w.1 hE) fun w => w.2⟩), fun q => Bt.dropB _ hh (decide_eq_false fun z => q z.1).symm⟩
  ·cases e
 ·cases e
def jnB (hs : List Hd) (v : List Int) (ds : Dots) (hs' : List Hd) (v' : List Int) (ds' : Dots) (hw : List Hd) (vw : List Int) (dw : Dots) (er : Int) : Prop :=
 (checkG hs v ds = 0 ∧ checkG hs' v' ds' = 0) ∧ (joinO v v' ds ds').2.length ≤ 4096 ∧ ((¬ agreeP hs hs' ∧ er = 9 ∧ [] = hw ∧ [] = vw ∧ [] = dw) ∨ (agreeP hs hs' ∧ er = 0 ∧ jnL hs hs' v v' ds ds' = hw ∧ (joinO v v' ds ds').1 = vw ∧ (joinO v v' ds ds').2 = dw))
open Classical in
noncomputable def T_joins : List AV → List AB → Option (AV × List AB)
 | [.ag [l, s, t], .ag [l', s', t'], .ag [lw, sw, tw], .i .i64 er], h => (getS heldR h l).bind fun hs => (getS intR h s).bind fun v => (getS dotR h t).bind fun ds => (getS heldR h l').bind fun hs' => (getS intR h s').bind fun v' => (getS dotR h t').bind fun ds' => (getS heldR h lw).bind fun hw => (getS intR h sw).bind fun vw => (getS dotR h tw).bind fun dw =>
   if (hs.length ≤ 1000 ∧ hs'.length ≤ 1000) ∧ t.capOk = true ∧ t'.capOk = true ∧ jnB hs v ds hs' v' ds' hw vw dw er then some (.b true, h) else none
 | _, _ => none
theorem joins_spec : Spec Tryz.prog 36 T_joins := by
 intro args h v h' e
 unfold T_joins at e
 split at e
 ·rename_i l s t l' s' t' lw sw tw er
  obtain ⟨hs, hl, e⟩ := getS_bind e
  obtain ⟨xs, hv, e⟩ := getS_bind e
  obtain ⟨ds, hd, e⟩ := getS_bind e
  obtain ⟨hs', hl', e⟩ := getS_bind e
  obtain ⟨xs', hv', e⟩ := getS_bind e
  obtain ⟨ds', hd', e⟩ := getS_bind e
  obtain ⟨hw, hlw, e⟩ := getS_bind e
  obtain ⟨vw, hvw, e⟩ := getS_bind e
  obtain ⟨dw, hdw, e⟩ := getS_bind e
  split at e
  ·rename_i hc
   obtain ⟨⟨hL, hL'⟩, k1, k2, ⟨c1, c2⟩, g, hj⟩ := hc
   cases e
   refine FnAt.c (FnAt.run (by kernel_rfl) (T := ⟨[⟨12, T_pJoin, fun _ => []⟩, ⟨14, T_SameReg, fun _ => []⟩], []⟩) ⟨⟨pJoin_spec, SameReg_spec, trivial⟩, trivial⟩ Tryz.func36 sw36 fun ho hh => ?_)
   simp only [okL_cons, ok_ag, Bool.and_eq_true] at ho
   have f1 := hl.fx ho.1.1 (sz := 34) rfl
   have f2 := hv.fx ho.1.2.1 (sz := 1) rfl
   have f3 := hd.fx ho.1.2.2.1 (sz := 2) rfl
   have f4 := hl'.fx ho.2.1.1 (sz := 34) rfl
   have f5 := hv'.fx ho.2.1.2.1 (sz := 1) rfl
   have f6 := hd'.fx ho.2.1.2.2.1 (sz := 2) rfl
   have f7 := hlw.fx ho.2.2.1.1 (sz := 34) rfl
   have f8 := hvw.fx ho.2.2.1.2.1 (sz := 1) rfl
   have f9 := hdw.fx ho.2.2.1.2.2.1 (sz := 2) rfl
   have hL1 : (hs.length ≤ 10000) = True := eq_true (by omega)
   have hL2 : (hs'.length ≤ 10000) = True := eq_true (by omega)
   have g' := eq_true g
   have n0 := jnL_len hs hs' xs xs' ds ds'
   have nj := join_nf (checkG_rg.1 c1).nf (checkG_rg.1 c2).nf
   unfold w36
   rcases hj with ⟨j1, rfl, rfl, rfl, rfl⟩ | ⟨j1, rfl, rfl, rfl, rfl⟩
   ·have j1' := eq_false j1
    simp only [rep_0, rep_s, walkW, walkQ, walkX, if_true, if_false, ↓reduceIte, Nat.reduceAdd, Nat.reduceSub, Nat.reduceLeDiff, Nat.reduceEqDiff, Nat.reduceMul, Nat.reduceLT, Int.reduceLT, Int.reduceLE, Int.reduceEq, CO.tmps, Opd.tmps, optT, Nat.reducePow, Nat.reduceDiv, Nat.reduceMod, f1, f2, f3, f4, f5, f6, f7, f8, f9, T_pJoin, T_SameReg, c1, c2, j1', hL1, hL2, k1, k2, g', getS_ns, and_self, eq_self, ne_eq, not_false_eq_true, not_true_eq_false, decide_true, decide_false]
    exact Bt.dropB _ hh rfl
   ·have j1' := eq_true j1
    have n1 : ((jnL hs hs' xs xs' ds ds').length ≤ 1000000) = True := eq_true (by omega)
    have n2 : ((joinO xs xs' ds ds').1.length ≤ 1000000) = True := eq_true (by have := nj.rg.1; omega)
    have n3 : ((joinO xs xs' ds ds').2.length ≤ 1000000) = True := eq_true (by omega)
    simp only [rep_0, rep_s, walkW, walkQ, walkX, if_true, if_false, ↓reduceIte, Nat.reduceAdd, Nat.reduceSub, Nat.reduceLeDiff, Nat.reduceEqDiff, Nat.reduceMul, Nat.reduceLT, Int.reduceLT, Int.reduceLE, Int.reduceEq, CO.tmps, Opd.tmps, optT, Nat.reducePow, Nat.reduceDiv, Nat.reduceMod, f1, f2, f3, f4, f5, f6, f7, f8, f9, T_pJoin, T_SameReg, c1, c2, j1', hL1, hL2, k1, k2, g', n1, n2, n3, maxLen_ok, and_self, eq_self, ne_eq, not_false_eq_true, not_true_eq_false, decide_true, decide_false]
    exact Bt.dropB _ hh rfl
  ·cases e
 ·cases e
end Go.Proofs.YtcncpbcbedfakaaGreat
end
section
namespace Go.Proofs.YtcncpbcbedfakaaGreat
set_option maxRecDepth 100000
theorem checkG_nil {v : List Int} {ds : Dots} (c : checkR v ds = 0) : checkG [] v ds = 0 := checkG_rg.2 ⟨nf_check c, (check_fm c).2.1, List.Pairwise.nil, fun x h => by cases h⟩
theorem checkG_one {v : List Int} {ds : Dots} {x : Hd} (c : checkR v ds = 0) (h : rhasP v ds x.1) : checkG [x] v ds = 0 := checkG_rg.2 ⟨nf_check c, (check_fm c).2.1, List.pairwise_singleton _ _, fun y hy => by
 rw [List.mem_singleton.1 hy]
 exact (rhas_in (nf_check c).rg _).1 h⟩
theorem checkG_two {v : List Int} {ds : Dots} {x y : Hd} (c : checkR v ds = 0) (hx : rhasP v ds x.1) (hy : rhasP v ds y.1) (hxy : lessD x.1 y.1) : checkG [x, y] v ds = 0 := checkG_rg.2 ⟨nf_check c, (check_fm c).2.1, List.pairwise_cons.2 ⟨fun z hz => by rw [List.mem_singleton.1 hz]; exact hxy, List.pairwise_singleton _ _⟩, fun z hz => by
 rcases List.mem_cons.1 hz with rfl | hz
 ·exact (rhas_in (nf_check c).rg _).1 hx
 ·rw [List.mem_singleton.1 hz]
  exact (rhas_in (nf_check c).rg _).1 hy⟩
abbrev x4 : Hd := ((1, 1), dgB 4)
abbrev x5 : Hd := ((2, 1), dgB 5)
theorem m00 : fmO [0, 0] [] = ([], []) := by decide
theorem m10 : fmO [1, 0] [] = ([1], []) := by decide
theorem m01 : fmO [0, 1] [] = ([0, 1], []) := by decide
theorem m11 : fmO [1, 1] [] = ([1, 1], []) := by decide
theorem k00 : checkR [] [] = 0 := by decide
theorem k10 : checkR [1] [] = 0 := by decide
theorem k01 : checkR [0, 1] [] = 0 := by decide
theorem k11 : checkR [1, 1] [] = 0 := by decide
theorem r00 : rangedP [0, 0] [] := by decide
theorem r10 : rangedP [1, 0] [] := by decide
theorem r01 : rangedP [0, 1] [] := by decide
theorem r11 : rangedP [1, 1] [] := by decide
theorem g10 : checkG [x4] [1] [] = 0 := checkG_one k10 (by decide)
theorem g01 : checkG [x5] [0, 1] [] = 0 := checkG_one k01 (by decide)
theorem g11 : checkG [x4, x5] [1, 1] [] = 0 := checkG_two k11 (by decide) (by decide) (by decide)
theorem outL_none (v : List Int) (ds : Dots) : outL v ds [] = [] := rfl
theorem outL_yes {v : List Int} {ds : Dots} {x : Hd} {l : List Hd} (h : checkR v ds = 0 ∧ rhasP v ds x.1) : outL v ds (x :: l) = outL v ds l := by
 unfold outL
 rw [List.filter_cons, if_neg (by rw [decide_eq_true_eq]; exact not_not_intro h)]
theorem outL_no {v : List Int} {ds : Dots} {x : Hd} {l : List Hd} (h : ¬ (checkR v ds = 0 ∧ rhasP v ds x.1)) : outL v ds (x :: l) = x :: outL v ds l := by
 unfold outL
 rw [List.filter_cons, if_pos (decide_eq_true h)]
theorem lay_nil (x : Hd) : layG lessH [] x = [x] := rfl
theorem lay_gt {x y : Hd} {l : List Hd} (h : ¬ lessH x y) : layG lessH (y :: l) x = y :: layG lessH l x := by
 conv => lhs; unfold layG
 rw [if_neg h]
theorem a1 : wrB [] [] [] x4 [] [] [x4] [1] [] 0 := by
 have h : wrE [] [] [] x4.1 [] [] = 0 := wrE_ok (checkG_nil k00) (by decide) k00 (by decide) (by decide) (by decide) (by decide)
 refine ⟨h, .inl ⟨h, ?_, by decide, by decide⟩⟩
 unfold wrL
 rw [outL_none, lay_nil]
theorem a2 : wrB [x4] [1] [] x5 [1] [] [x5] [1, 1] [] 0 := by
 have h : wrE [x4] [1] [] x5.1 [1] [] = 0 := wrE_ok g10 (by decide) k10 (by decide) (by decide) (by decide) (by decide)
 refine ⟨h, .inl ⟨h, ?_, by decide, by decide⟩⟩
 unfold wrL
 rw [outL_yes (by decide), outL_none, lay_nil]
theorem b1 : wrB [x4] [1] [] x5 [] [] [x4, x5] [1, 1] [] 0 := by
 have h : wrE [x4] [1] [] x5.1 [] [] = 0 := wrE_ok g10 (by decide) k00 (by decide) (by decide) (by decide) (by decide)
 refine ⟨h, .inl ⟨h, ?_, by decide, by decide⟩⟩
 unfold wrL
 rw [outL_no (by decide), outL_none, lay_gt (by unfold lessH; decide), lay_nil]
theorem b2 : wrB [x4] [1] [] ((1, 1), dgB 5) [] [] [] [] [] 19 := by
 have h : wrE [x4] [1] [] (1, 1) [] [] = 19 := by
  unfold wrE
  rw [if_neg (not_not_intro g10), if_neg (by decide), if_neg (not_not_intro k00), if_pos (by decide)]
 exact ⟨h, .inr ⟨by show wrE [x4] [1] [] (1, 1) [] [] ≠ 0; rw [h]; decide, rfl, rfl, rfl⟩⟩
theorem b3 : wrB [] [] [] ((0, 1), dgB 4) [] [] [] [] [] 3 := by
 have h : wrE [] [] [] (0, 1) [] [] = 3 := by
  unfold wrE
  rw [if_neg (not_not_intro (checkG_nil k00)), if_pos (by decide)]
 exact ⟨h, .inr ⟨by show wrE [] [] [] (0, 1) [] [] ≠ 0; rw [h]; decide, rfl, rfl, rfl⟩⟩
theorem a3 : jnB [x4] [1] [] [x5] [0, 1] [] [x4, x5] [1, 1] [] 0 := by
 have g : agreeP [x4] [x5] := fun x hx y hy e => by
  rw [List.mem_singleton.1 hx, List.mem_singleton.1 hy] at e
  exact absurd e (by decide)
 refine ⟨⟨g10, g01⟩, by decide, .inr ⟨g, rfl, ?_, by decide, by decide⟩⟩
 refine (jnL_ext (checkG_rg.1 g10) (checkG_rg.1 g01) (checkG_rg.1 g11).rise fun x => ?_).symm
 have n1 : ¬ inC [0, 1] [] (1, 1) := fun q => absurd ((rhas_in (nf_check k01).rg _).2 q) (by decide)
 have n2 : ¬ inC [1] [] (2, 1) := fun q => absurd ((rhas_in (nf_check k10).rg _).2 q) (by decide)
 rw [jn_iff g]
 simp only [List.mem_cons, List.not_mem_nil, or_false]
 constructor
 ·rintro (rfl | rfl)
  ·exact .inr (.inl ⟨rfl, n1⟩)
  ·exact .inr (.inr ⟨rfl, n2⟩)
 ·rintro (⟨q, _⟩ | ⟨q, _⟩ | ⟨q, _⟩)
  ·exact .inl q
  ·exact .inl q
  ·exact .inr q
theorem a4 : jnB [x4] [1] [] [] [1] [] [] [1] [] 0 := by
 have g : agreeP [x4] [] := fun x hx y hy e => by cases hy
 refine ⟨⟨g10, checkG_nil k10⟩, by decide, .inr ⟨g, rfl, ?_, by decide, by decide⟩⟩
 refine (jnL_ext (checkG_rg.1 g10) (checkG_rg.1 (checkG_nil k10)) List.Pairwise.nil fun x => ?_).symm
 have n1 : inC [1] [] (1, 1) := (rhas_in (nf_check k10).rg _).1 (by decide)
 rw [jn_iff g]
 simp only [List.mem_cons, List.not_mem_nil, or_false, false_iff]
 rintro (⟨_, q⟩ | ⟨q, q2⟩ | ⟨q, _⟩)
 ·exact q
 ·subst q; exact q2 n1
 ·exact q
theorem b4 : jnB [x4] [1] [] [((1, 1), dgB 5)] [1] [] [] [] [] 9 := by
 refine ⟨⟨g10, checkG_one k10 (by decide)⟩, by decide, .inl ⟨fun g => ?_, rfl, rfl, rfl, rfl⟩⟩
 have := g x4 (.head _) ((1, 1), dgB 5) (.head _) rfl
 exact absurd this (by decide)
theorem c1 : outL [1] [] [x4] = [] ∧ joinO [1] [1] [] [] = ([1], []) := ⟨by rw [outL_yes (by decide), outL_none], by decide⟩
theorem c2 : outL [] [] [x4] = [x4] ∧ joinO [1] [] [] [] = ([1], []) := ⟨by rw [outL_no (by decide), outL_none], by decide⟩
theorem srt_two : sortP cmpG [dgB 5, dgB 4] = [dgB 4, dgB 5] := by
 have hp := sortP_perm sortI_swo [dgB 5, dgB 4]
 have hs := sortP_rise sortI_swo [dgB 5, dgB 4]
 have hl : ∀ l : List Dg, l.Perm [dgB 5, dgB 4] → l.Pairwise (fun x y => ¬ cmpG y x < 0) → l = [dgB 4, dgB 5] := fun l q r => by
  have ql := q.length_eq
  match l, ql with
  | [a, b], _ =>
   have r2 := (List.pairwise_cons.1 r).1 b (.head _)
   have ha : a ∈ [dgB 5, dgB 4] := q.mem_iff.1 (.head _)
   have hb : b ∈ [dgB 5, dgB 4] := q.mem_iff.1 (.tail _ (.head _))
   have h5 : dgB 5 ∈ [a, b] := q.mem_iff.2 (.head _)
   have h4 : dgB 4 ∈ [a, b] := q.mem_iff.2 (.tail _ (.head _))
   simp only [List.mem_cons, List.not_mem_nil, or_false] at ha hb h5 h4
   rcases ha with rfl | rfl
   ·rcases hb with rfl | rfl
    ·exact absurd h4 (by decide)
    ·exact absurd r2 (by decide)
   ·rcases hb with rfl | rfl
    ·rfl
    ·exact absurd h5 (by decide)
 exact hl _ hp hs
theorem srt_same : sortP cmpG [dgB 4, dgB 4] = [dgB 4, dgB 4] := by
 have hp := sortP_perm sortI_swo [dgB 4, dgB 4]
 have ql := hp.length_eq
 match sortP cmpG [dgB 4, dgB 4], hp, ql with
 | [a, b], hp, _ =>
  have ha : a ∈ [dgB 4, dgB 4] := hp.mem_iff.1 (.head _)
  have hb : b ∈ [dgB 4, dgB 4] := hp.mem_iff.1 (.tail _ (.head _))
  simp only [List.mem_cons, List.not_mem_nil, or_false, or_self] at ha hb
  rw [ha, hb]
theorem d1 : dgsL [((1, 1), dgB 5), ((2, 1), dgB 4)] = [dgB 4, dgB 5] := by
 unfold dgsL
 rw [show ([((1, 1), dgB 5), ((2, 1), dgB 4)] : List Hd).map (·.2) = [dgB 5, dgB 4] from rfl, srt_two]
 decide
theorem d2 : dgsL [x4, ((2, 1), dgB 4)] = [dgB 4] := by
 unfold dgsL
 rw [show ([x4, ((2, 1), dgB 4)] : List Hd).map (·.2) = [dgB 4, dgB 4] from rfl, srt_same]
 decide
theorem g54 : checkG [((1, 1), dgB 5), ((2, 1), dgB 4)] [1, 1] [] = 0 := checkG_two k11 (by decide) (by decide) (by decide)
theorem g44 : checkG [x4, ((2, 1), dgB 4)] [1, 1] [] = 0 := checkG_two k11 (by decide) (by decide) (by decide)
end Go.Proofs.YtcncpbcbedfakaaGreat
end
section
namespace Go.Proofs.YtcncpbcbedfakaaGreat
set_option maxRecDepth 100000
section
variable {l : List Hd} {v : List Int} {d : Dots}
theorem next_or (n : NF v d) (c : checkR v d = 0) {r : Int} (hr : 1 ≤ r ∧ r ≤ 16) : nextR v d r = ((0, 0), 10) ∨ ∃ k, nextR v d r = ((r, k), 0) ∧ dottedP (r, k) ∧ ¬ inC v d (r, k) := by
 have bd := maxR_bd v d n.rg r d.length (Nat.le_refl _)
 obtain ⟨t1, t2, t3⟩ := maxR_top n.rg r d.length (Nat.le_refl _)
 rw [List.take_length] at t2
 unfold nextR
 rw [if_neg (not_not_intro c), if_neg (by omega)]
 generalize maxR v d r d.length = N at *
 by_cases hf : N = 1048576
 ·rw [if_pos hf]; exact .inl rfl
 ·rw [if_neg hf]
  exact .inr ⟨N + 1, rfl, ⟨hr.1, hr.2, by simp only; omega, by simp only; omega⟩, fun q => q.2.elim (fun z => by simp only at z; omega) (fun z => by have := t2 _ z rfl; simp only at this; omega)⟩
theorem alone (a : RG l v d) (hl : d.length ≤ 4000) {x : Hd} (hd : dottedP x.1) (hx : ¬ inC v d x.1) :
  wrE l v d x.1 v d = 0 ∧ wrL l v d x = [x] ∧ joinO v v d d = (v, d) ∧ RG [x] (mkO v d x.1).1 (mkO v d x.1).2 := by
 have hj := join_sub a.nf a.nf fun e q => q
 have hm := mkO_len a.nf hd
 have hr : ¬ rhasP v d x.1 := fun q => hx ((rhas_in a.nf.rg _).1 q)
 have hw : wrL l v d x = [x] := by
  have e : outL v d l = [] := by
   rw [outL_outG a.nf (by omega)]
   refine List.eq_nil_iff_forall_not_mem.2 fun y hy => ?_
   exact (outG_mem.1 hy).2 (a.sn y (outG_mem.1 hy).1)
  unfold wrL
  rw [e]
  rfl
 have hg := wr_rg a a.nf (by omega) hd hx (by rw [hj]; show (mkO v d x.1).2.length ≤ 4096; omega)
 rw [hj, hw] at hg
 exact ⟨wrE_ok (checkG_rg.2 a) hd (a.nf.check (by omega)) hr hr (by rw [hj]; show d.length ≤ 4096; omega) (by rw [hj]; show (mkO v d x.1).2.length ≤ 4096; omega), hw, hj, hg⟩
theorem two (n : NF v d) {x y : Hd} (hd : dottedP x.1) (hd2 : dottedP y.1) (hx : ¬ inC v d x.1) (hy : ¬ inC v d y.1) (hxy : lessD x.1 y.1) {A B : List Int × Dots} (hA : mkO v d x.1 = A) (hB : mkO v d y.1 = B) (a : RG [x] A.1 A.2) (b : RG [y] B.1 B.2) :
  agreeP [x] [y] ∧ agreeP [y] [x] ∧ jnL [x] [y] A.1 B.1 A.2 B.2 = [x, y] ∧ jnL [y] [x] B.1 A.1 B.2 A.2 = [x, y] ∧ joinO B.1 A.1 B.2 A.2 = joinO A.1 B.1 A.2 B.2 := by
 have ne : x.1 ≠ y.1 := fun e => lessD_irrefl _ (by rw [e] at hxy; exact hxy)
 have g : agreeP [x] [y] := fun p hp q hq e => by
  rw [List.mem_singleton.1 hp, List.mem_singleton.1 hq] at e
  exact absurd e ne
 have nA : ∀ e, inC A.1 A.2 e ↔ inC v d e ∨ e = x.1 := fun e => by rw [← hA]; exact mk_mem n hd e
 have nB : ∀ e, inC B.1 B.2 e ↔ inC v d e ∨ e = y.1 := fun e => by rw [← hB]; exact mk_mem n hd2 e
 have n1 : ¬ inC B.1 B.2 x.1 := fun q => ((nB _).1 q).elim hx ne
 have n2 : ¬ inC A.1 A.2 y.1 := fun q => ((nA _).1 q).elim hy fun e => ne e.symm
 have j : [x, y] = jnL [x] [y] A.1 B.1 A.2 B.2 := jnL_ext a b (List.pairwise_cons.2 ⟨fun z hz => by rw [List.mem_singleton.1 hz]; exact hxy, List.pairwise_singleton _ _⟩) fun z => by
  rw [jn_iff g]
  simp only [List.mem_cons, List.not_mem_nil, or_false]
  constructor
  ·rintro (rfl | rfl)
   ·exact .inr (.inl ⟨rfl, n1⟩)
   ·exact .inr (.inr ⟨rfl, n2⟩)
  ·rintro (⟨q, _⟩ | ⟨q, _⟩ | ⟨q, _⟩)
   ·exact .inl q
   ·exact .inl q
   ·exact .inr q
 exact ⟨g, g.symm, j.symm, by rw [jnL_comm a b g]; exact j.symm, join_comm a.nf b.nf⟩
end
theorem cpI_two (a b : Dg) : cpI [a, b] = if b = a then [a] else [a, b] := by
 show a :: (if b = a then [] else [b]) = _
 split <;> rfl
theorem dgsL_one (x : Hd) : dgsL [x] = [x.2] := by
 have hp := sortP_perm sortI_swo [x.2]
 unfold dgsL
 rw [show ([x] : List Hd).map (·.2) = [x.2] from rfl, List.perm_singleton.1 hp]
 exact cpI_short (by simp)
theorem dgsL_two (x y : Hd) : 1 < (dgsL [x, y]).length ↔ x.2 ≠ y.2 := by
 have hp := sortP_perm sortI_swo [x.2, y.2]
 unfold dgsL
 rw [show ([x, y] : List Hd).map (·.2) = [x.2, y.2] from rfl]
 have ql := hp.length_eq
 match sortP cmpG [x.2, y.2], hp, ql with
 | [a, b], hp, _ =>
  have ha : a ∈ [x.2, y.2] := hp.mem_iff.1 (.head _)
  have hb : b ∈ [x.2, y.2] := hp.mem_iff.1 (.tail _ (.head _))
  have hx : x.2 ∈ [a, b] := hp.mem_iff.2 (.head _)
  have hy : y.2 ∈ [a, b] := hp.mem_iff.2 (.tail _ (.head _))
  simp only [List.mem_cons, List.not_mem_nil, or_false] at ha hb hx hy
  rw [cpI_two]
  by_cases e : b = a
  ·rw [if_pos e]
   have e2 : x.2 = y.2 := by
    rw [e, or_self] at hx hy
    rw [hx, hy]
   exact ⟨fun q => absurd q (by simp), fun q => absurd e2 q⟩
  ·rw [if_neg e]
   refine ⟨fun _ q => e ?_, fun _ => by simp⟩
   rw [q, or_self] at ha hb
   rw [ha, hb]
end Go.Proofs.YtcncpbcbedfakaaGreat
end
section
namespace Go.Proofs.YtcncpbcbedfakaaGreat
set_option maxRecDepth 100000
set_option maxHeartbeats 8000000
set_option linter.unusedSimpArgs false
theorem over_two (zs l m : List AV) (k : Nat) (h : zs.length = l.length + m.length) (hk : k = l.length) : over (over zs 0 l) k m = l ++ m := by
 subst hk
 have e1 : (l ++ zs.drop l.length).take l.length = l := List.take_left' rfl
 have e2 : (l ++ zs.drop l.length).drop (l.length + m.length) = [] := List.drop_eq_nil_of_le (by rw [List.length_append, List.length_drop]; omega)
 simp only [over, List.take_zero, List.nil_append, Nat.zero_add, e1, e2, List.append_nil]
def T_true : List AV → List AB → Option (AV × List AB)
 | [], h => some (.b true, h)
 | _, _ => none
theorem lit1 {h : List AB} (L : List AB) (k : Nat) (x : Hd) (q : ownC L k = some (heldR.f x)) : getS heldR (h ++ L) (.sl (h.length + k) 0 1 1 none) = some [x] :=
 (Rd_ownT (r := heldR) (n := 1) (l := [x]) (by rw [q]; simp [Row.cells]) (by unfold maxLen; simp) (by simp)).get
theorem lit2 {h : List AB} (L : List AB) (k : Nat) (x y : Hd) (q : ownC L k = some (heldR.f x ++ heldR.f y)) : getS heldR (h ++ L) (.sl (h.length + k) 0 2 2 none) = some [x, y] :=
 (Rd_ownT (r := heldR) (n := 2) (l := [x, y]) (by rw [q]; simp [Row.cells]) (by unfold maxLen; simp) (by simp)).get
theorem awake_spec : Spec Tryz.prog 10 T_true := by
 intro args h v h' e
 unfold T_true at e
 split at e
 ·cases e
  refine FnAt.c (FnAt.frz0 fun hz => ?_)
  generalize h.map AB.freeze = h at *
  refine FnAt.run (by kernel_rfl) (T := ⟨[⟨34, T_dot16, fun _ => []⟩, ⟨32, T_held16, fun _ => []⟩, ⟨31, T_of16, fun _ => []⟩, ⟨35, T_seen16, fun _ => []⟩, ⟨33, T_writes, fun _ => []⟩, ⟨36, T_joins, fun _ => []⟩], []⟩) ⟨⟨dot16_spec, held16_spec, of16_spec, seen16_spec, writes_spec, joins_spec, trivial⟩, trivial⟩ Tryz.func10 sw10 fun ho hh => ?_
  have l1 := fun (L : List AB) k q => lit1 (h := h) L k ((1, 1), dgB 4) q
  have l2 := fun (L : List AB) k q => lit1 (h := h) L k ((2, 1), dgB 5) q
  have l3 := fun (L : List AB) k q => lit2 (h := h) L k ((1, 1), dgB 4) ((2, 1), dgB 5) q
  have ex1 := eq_true a1
  have ex2 := eq_true a2
  have ex3 := eq_true a3
  have ex4 := eq_true a4
  simp only [x4, x5] at ex1 ex2 ex3 ex4
  have u0 : (0 ≤ maxLen) = True := eq_true (by unfold maxLen; omega)
  have u1 : (1 ≤ maxLen) = True := eq_true (by unfold maxLen; omega)
  have u2 : (2 ≤ maxLen) = True := eq_true (by unfold maxLen; omega)
  have b4 : ((0 : Int) ≤ 4 ∧ (4 : Int) < 256) = True := eq_true (by decide)
  have b5 : ((0 : Int) ≤ 5 ∧ (5 : Int) < 256) = True := eq_true (by decide)
  unfold w10
  simp only [rep_0, rep_s, walkW, walkQ, walkX, if_true, if_false, ↓reduceIte, Nat.reduceAdd, Nat.reduceSub, Nat.reduceLeDiff, Nat.reduceEqDiff, Nat.reduceMul, Nat.reduceLT, Int.reduceLT, Int.reduceLE, Int.reduceEq, CO.tmps, Opd.tmps, optT, Nat.reducePow, Nat.reduceDiv, Nat.reduceMod, T_dot16, T_held16, T_of16, T_seen16, T_writes, T_joins, ex1, ex2, ex3, ex4, l1, l2, l3, getS_ns, rsl_capOk, rsl_get, u0, u1, u2, Nat.zero_add, beq_self_eq_true, and_self, eq_self, ne_eq, not_false_eq_true, not_true_eq_false, decide_true, decide_false, b4, b5, r00, r10, r01, r11, m00, m10, m01, m11, nsSl, slSl, held_all1, held_len, held_take, over_at, over_two, over_len, held_ok, List.all_append, List.length_cons, List.length_nil, HOk_own hh, mask_ownC hz, mask_ownQ hz, mask_ownQ0 hz]
  exact Bt.dropB _ hh rfl
 ·cases e
theorem litI {h : List AB} (L : List AB) (k : Nat) (x y : Dg) (q : ownC L k = some (idR.f x ++ idR.f y)) : getS idR (h ++ L) (.sl (h.length + k) 0 2 2 none) = some [x, y] :=
 (Rd_ownT (r := idR) (n := 2) (l := [x, y]) (by rw [q]; simp [Row.cells]) (by unfold maxLen; simp) (by simp)).get
theorem RegisterKnown_spec : Spec Tryz.prog 5 T_known := by
 intro args h v h' e
 unfold T_known at e
 split at e
 ·cases e
  refine FnAt.c (FnAt.frz0 fun hz => ?_)
  generalize h.map AB.freeze = h at *
  refine FnAt.run (by kernel_rfl) (T := ⟨[⟨34, T_dot16, fun _ => []⟩, ⟨32, T_held16, fun _ => []⟩, ⟨31, T_of16, fun _ => []⟩, ⟨35, T_seen16, fun _ => []⟩, ⟨33, T_writes, fun _ => []⟩, ⟨36, T_joins, fun _ => []⟩, ⟨10, T_true, fun _ => []⟩, ⟨20, T_pClear, fun _ => []⟩, ⟨14, T_SameReg, fun _ => []⟩, ⟨22, T_IDs, fun _ => []⟩, ⟨23, T_SameIDs, fun _ => []⟩, ⟨25, T_Torn, fun _ => []⟩], []⟩) ⟨⟨dot16_spec, held16_spec, of16_spec, seen16_spec, writes_spec, joins_spec, awake_spec, pClear_spec, SameReg_spec, IDs_spec, SameIDs_spec, Torn_spec, trivial⟩, trivial⟩ Tryz.func5 sw5 fun ho hh => ?_
  have l1 := fun (L : List AB) k q => lit1 (h := h) L k ((1, 1), dgB 4) q
  have l2 := fun (L : List AB) k q => lit1 (h := h) L k ((1, 1), dgB 5) q
  have l3 := fun (L : List AB) k q => lit2 (h := h) L k ((1, 1), dgB 4) ((2, 1), dgB 5) q
  have l4 := fun (L : List AB) k q => lit2 (h := h) L k ((1, 1), dgB 5) ((2, 1), dgB 4) q
  have l5 := fun (L : List AB) k q => lit2 (h := h) L k ((1, 1), dgB 4) ((2, 1), dgB 4) q
  have l6 := fun (L : List AB) k q => litI (h := h) L k (dgB 4) (dgB 5) q
  rw [dgB_f (by decide), dgB_f (by decide)] at l6
  simp only [rep_0, rep_s, List.cons_append, List.nil_append] at l6
  have ex1 := eq_true b1
  have ex2 := eq_true b2
  have ex3 := eq_true b3
  have ex4 := eq_true b4
  have ex5 := c1
  have ex6 := c2
  have ex7 := d2
  have ex8 := g10
  have ex9 := g44
  simp only [x4, x5] at ex1 ex2 ex3 ex4 ex5 ex6 ex7 ex8 ex9
  have u0 : (0 ≤ maxLen) = True := eq_true (by unfold maxLen; omega)
  have u1 : (1 ≤ maxLen) = True := eq_true (by unfold maxLen; omega)
  have u2 : (2 ≤ maxLen) = True := eq_true (by unfold maxLen; omega)
  have b4 : ((0 : Int) ≤ 4 ∧ (4 : Int) < 256) = True := eq_true (by decide)
  have b5 : ((0 : Int) ≤ 5 ∧ (5 : Int) < 256) = True := eq_true (by decide)
  unfold w5
  simp only [rep_0, rep_s, walkW, walkQ, walkX, if_true, if_false, ↓reduceIte, Nat.reduceAdd, Nat.reduceSub, Nat.reduceLeDiff, Nat.reduceEqDiff, Nat.reduceMul, Nat.reduceLT, Int.reduceLT, Int.reduceLE, Int.reduceEq, CO.tmps, Opd.tmps, optT, Nat.reducePow, Nat.reduceDiv, Nat.reduceMod, T_dot16, T_held16, T_of16, T_seen16, T_writes, T_joins, T_true, T_pClear, T_SameReg, T_IDs, T_SameIDs, T_Torn, ex1, ex2, ex3, ex4, ex5.1, ex5.2, ex6.1, ex6.2, ex7, ex8, ex9, d1, g54, k00, k10, l1, l2, l3, l4, l5, l6, getS_ns, rsl_capOk, rsl_get, u0, u1, u2, Nat.zero_add, beq_self_eq_true, and_self, eq_self, ne_eq, not_false_eq_true, not_true_eq_false, decide_true, decide_false, b4, b5, r00, r10, r01, r11, m00, m10, m01, m11, nsSl, slSl, held_all1, held_len, held_take, over_at, over_two, over_len, held_ok, List.all_append, List.length_cons, List.length_nil, HOk_own hh, mask_ownC hz, mask_ownQ hz, mask_ownQ0 hz]
  exact Bt.dropB _ hh rfl
 ·cases e
end Go.Proofs.YtcncpbcbedfakaaGreat
end
