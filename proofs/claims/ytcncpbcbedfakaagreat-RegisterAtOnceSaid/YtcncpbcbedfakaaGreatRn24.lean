/- Part 24 of what the laws' proofs rest on. No condition. -/
import Derived.Test.YtcncpbcbedfakaaGreatRn23
set_option linter.all false
section
namespace Go.Proofs.YtcncpbcbedfakaaGreat
open Go.Shelf
def sortRen49 : Go.Shelf.Ren := ⟨fun | 6 => 49 | 15 => 88 | 14 => 87 | 28 => 127 | 29 => 128 | 20 => 119 | 21 => 120 | 22 => 121 | 23 => 122 | 24 => 123 | 25 => 124 | 26 => 125 | 27 => 126 | 46 => 148 | 47 => 149 | 48 => 150 | 49 => 151 | 50 => 152 | 57 => 169 | n => n, fun | 22 => 22 | 24 => 54 | 25 => 83 | 3 => 3 | 39 => 119 | 0 => 0 | 53 => 151 | 55 => 153 | 4 => 4 | 46 => 145 | 45 => 144 | 50 => 135 | 5 => 5 | 9 => 9 | 66 => 164 | 70 => 168 | 76 => 183 | 77 => 184 | n => n, fun | n => n⟩
theorem sortLays49 : Go.Proofs.SlLaysF0.n6 Tryz.prog sortRen49 := {
 mixed := by kernel_rfl
 f6 := ⟨Tryz.f49.name, by decide, Tryz.func49.trans (congrArg some (by kernel_rfl))⟩
 f14 := ⟨Tryz.f87.name, by decide, Tryz.func87.trans (congrArg some (by kernel_rfl))⟩
 f15 := Tryz.func88.trans (congrArg some (by kernel_rfl))
 f20 := ⟨Tryz.f119.name, by decide, Tryz.func119.trans (congrArg some (by kernel_rfl))⟩
 f21 := ⟨Tryz.f120.name, by decide, Tryz.func120.trans (congrArg some (by kernel_rfl))⟩
 f22 := ⟨Tryz.f121.name, by decide, Tryz.func121.trans (congrArg some (by kernel_rfl))⟩
 f23 := ⟨Tryz.f122.name, by decide, Tryz.func122.trans (congrArg some (by kernel_rfl))⟩
 f24 := ⟨Tryz.f123.name, by decide, Tryz.func123.trans (congrArg some (by kernel_rfl))⟩
 f25 := ⟨Tryz.f124.name, by decide, Tryz.func124.trans (congrArg some (by kernel_rfl))⟩
 f26 := ⟨Tryz.f125.name, by decide, Tryz.func125.trans (congrArg some (by kernel_rfl))⟩
 f27 := ⟨Tryz.f126.name, by decide, Tryz.func126.trans (congrArg some (by kernel_rfl))⟩
 f28 := Tryz.func127.trans (congrArg some (by kernel_rfl))
 f29 := Tryz.func128.trans (congrArg some (by kernel_rfl))
 f46 := ⟨Tryz.f148.name, by decide, Tryz.func148.trans (congrArg some (by kernel_rfl))⟩
 f47 := Tryz.func149.trans (congrArg some (by kernel_rfl))
 f48 := Tryz.func150.trans (congrArg some (by kernel_rfl))
 f49 := ⟨Tryz.f151.name, by decide, Tryz.func151.trans (congrArg some (by kernel_rfl))⟩
 f50 := ⟨Tryz.f152.name, by decide, Tryz.func152.trans (congrArg some (by kernel_rfl))⟩
 f57 := ⟨Tryz.f169.name, by decide, Tryz.func169.trans (congrArg some (by kernel_rfl))⟩
 t0 := Tryz.underlying0
 a0 := Tryz.isAgg0
 z0 := Tryz.sizeOf0
 v0 := Tryz.zeroValue0
 t3 := Tryz.underlying3
 a3 := Tryz.isAgg3
 z3 := Tryz.sizeOf3
 v3 := Tryz.zeroValue3
 t4 := Tryz.underlying4
 a4 := Tryz.isAgg4
 z4 := Tryz.sizeOf4
 v4 := Tryz.zeroValue4
 t5 := Tryz.underlying5
 a5 := Tryz.isAgg5
 z5 := Tryz.sizeOf5
 v5 := Tryz.zeroValue5
 t9 := Tryz.underlying9
 a9 := Tryz.isAgg9
 z9 := Tryz.sizeOf9
 v9 := Tryz.zeroValue9
 t22 := Tryz.underlying22
 a22 := Tryz.isAgg22
 z22 := Tryz.sizeOf22
 v22 := Tryz.zeroValue22
 t25 := Tryz.underlying83
 a25 := Tryz.isAgg83
 z25 := Tryz.sizeOf83
 v25 := Tryz.zeroValue83
 t39 := Tryz.underlying119
 a39 := Tryz.isAgg119
 z39 := Tryz.sizeOf119
 v39 := Tryz.zeroValue119
 t45 := Tryz.underlying144
 a45 := Tryz.isAgg144
 z45 := Tryz.sizeOf144
 v45 := Tryz.zeroValue144
 t46 := Tryz.underlying145
 a46 := Tryz.isAgg145
 z46 := Tryz.sizeOf145
 v46 := Tryz.zeroValue145
 t50 := Tryz.underlying135
 a50 := Tryz.isAgg135
 z50 := Tryz.sizeOf135
 v50 := Tryz.zeroValue135
 t53 := Tryz.underlying151
 a53 := Tryz.isAgg151
 z53 := Tryz.sizeOf151
 v53 := Tryz.zeroValue151
 t55 := Tryz.underlying153
 a55 := Tryz.isAgg153
 z55 := Tryz.sizeOf153
 v55 := Tryz.zeroValue153
 t66 := Tryz.underlying164
 a66 := Tryz.isAgg164
 z66 := Tryz.sizeOf164
 v66 := Tryz.zeroValue164
 t70 := Tryz.underlying168
 a70 := Tryz.isAgg168
 z70 := Tryz.sizeOf168
 v70 := Tryz.zeroValue168
 t76 := Tryz.underlying183
 a76 := Tryz.isAgg183
 z76 := Tryz.sizeOf183
 v76 := Tryz.zeroValue183
 t77 := Tryz.underlying184
 a77 := Tryz.isAgg184
 z77 := Tryz.sizeOf184
 v77 := Tryz.zeroValue184 }
end Go.Proofs.YtcncpbcbedfakaaGreat
end
section
namespace Go.Proofs.YtcncpbcbedfakaaGreat
open Go.Sort
set_option maxRecDepth 100000
set_option maxHeartbeats 4000000
set_option linter.unusedSimpArgs false
instance : Inhabited Hd := ⟨heldR.d⟩
def cfH (x y : Hd) : Int := cmpD x.1 y.1
theorem sortH_swo : SWO (ltOf cfH) := ⟨fun x => sort_swo.irrefl x.1, fun x y z => sort_swo.trans x.1 y.1 z.1, fun x y z => sort_swo.ntrans x.1 y.1 z.1⟩
theorem pahead_cmps : Cmps Tryz.prog 50 heldR cfH := fun x y h => pahead_spec _ _ _ _ (by simp only [T_pahead, getH_f, Option.bind_some]; rfl)
theorem held_one1 (x : Hd) : ∀ v ∈ heldR.enc x, v.oneCell' = true := fun v hv => by
 obtain ⟨a, ha, rfl⟩ := List.mem_map.1 (show v ∈ (heldR.f x).map AV.val from hv)
 rw [heldR_f] at ha
 rcases List.mem_cons.1 ha with rfl | ha
 ·rfl
 ·rcases List.mem_cons.1 ha with rfl | ha
  ·rfl
  ·obtain ⟨b, _, rfl⟩ := List.mem_map.1 (show a ∈ x.2.l.map u8A from ha)
   rfl
open Classical in
noncomputable def T_SortH : List AV → List AB → Option (AV × List AB)
 | [s, .f (.func 50) [] []], h => (getS heldR h s).bind fun l => match idOf s with
   | [id] => if l.length ≤ 1000000 ∧ s = rsl heldR id l ∧ h[id]? = some (resB heldR true l) then some (.tu [], h.set id (resB heldR true (sortP cfH l))) else none
   | _ => none
 | _, _ => none
theorem SortH_spec : Spec Tryz.prog 49 T_SortH := by
 intro args h v h' e
 unfold T_SortH at e
 split at e
 ·rename_i s
  obtain ⟨l, hs, e⟩ := getS_bind e
  split at e
  ·rename_i id hid
   split at e
   ·rename_i hc
    cases e
    obtain ⟨h1, rfl, h3⟩ := hc
    exact sort_fnP (r := heldR) sortLays49 Tryz.isAgg54 Tryz.sizeOf54 sortH_swo pahead_cmps held_fl held_one1 l h3 h1
   ·cases e
  ·cases e
 ·cases e
theorem sortH_rise {l : List Hd} (hd : l.Pairwise fun x y => x.1 ≠ y.1) : (sortP cfH l).Pairwise lessH :=
 srt_rise (sortP_perm sortH_swo l) ((sortP_rise sortH_swo l).imp fun {x y} h q => h (by unfold cfH; rw [cmpD_lt]; exact q)) hd
theorem sortH_mem (l : List Hd) (x : Hd) : x ∈ sortP cfH l ↔ x ∈ l := (sortP_perm sortH_swo l).mem_iff
theorem sortH_len (l : List Hd) : (sortP cfH l).length = l.length := sortP_len sortH_swo l
theorem lessH_tri {x y : Hd} (h : x.1 ≠ y.1) : lessH x y ∨ lessH y x := by
 rcases lessD_tri x.1 y.1 with q | q | q
 ·exact .inl q
 ·exact absurd q h
 ·exact .inr q
theorem sortH_lay {o : List Hd} {x : Hd} (ho : o.Pairwise lessH) (hx : ∀ y ∈ o, y.1 ≠ x.1) : sortP cfH (o ++ [x]) = layG lessH o x := by
 refine ris_ext lessH_ord (sortH_rise (List.pairwise_append.2 ⟨rise_ne ho, List.pairwise_singleton _ _, fun y hy z hz => ?_⟩)) (layG_rise lessH_ord ho fun y hy => lessH_tri (hx y hy)) fun y => ?_
 ·rw [List.mem_singleton.1 hz]
  exact hx y hy
 ·rw [sortH_mem, layG_mem, List.mem_append, List.mem_singleton, or_comm]
open Classical in
noncomputable def getI (a : AV) : Option Dg := if e : ∃ y, a = .ag (idR.f y) then some e.choose else none
theorem getI_f (y : Dg) : getI (.ag (idR.f y)) = some y := by
 have e : ∃ z, AV.ag (idR.f y) = .ag (idR.f z) := ⟨y, rfl⟩
 unfold getI
 rw [dif_pos e]
 have h := e.choose_spec
 rw [AV.ag.injEq] at h
 rw [← idR.inj _ _ h]
theorem getI_bind {β : Type} {a : AV} {f : Dg → Option β} {b : β} (e : (getI a).bind f = some b) : ∃ y, a = .ag (idR.f y) ∧ f y = some b := by
 unfold getI at e
 split at e
 ·rename_i h
  exact ⟨h.choose, h.choose_spec, e⟩
 ·cases e
noncomputable def mkO (v : List Int) (ds : Dots) (d : Int × Int) : List Int × Dots := fmO v (ds ++ [d])
noncomputable def wrE (hs : List Hd) (v : List Int) (ds : Dots) (d : Int × Int) (v' : List Int) (ds' : Dots) : Int :=
 if checkG hs v ds ≠ 0 then checkG hs v ds else if ¬ dottedP d then 3 else if checkR v' ds' ≠ 0 then checkR v' ds' else if rhasP v ds d ∨ rhasP v' ds' d then 19
 else if ¬ (joinO v v' ds ds').2.length ≤ 4096 then 10 else if ¬ (mkO (joinO v v' ds ds').1 (joinO v v' ds ds').2 d).2.length ≤ 4096 then 10 else 0
theorem wrE_0 {hs : List Hd} {v : List Int} {ds : Dots} {d : Int × Int} {v' : List Int} {ds' : Dots} (h : wrE hs v ds d v' ds' = 0) : checkG hs v ds = 0 ∧ dottedP d ∧ checkR v' ds' = 0 ∧ ¬ rhasP v ds d ∧ ¬ rhasP v' ds' d ∧ (joinO v v' ds ds').2.length ≤ 4096 ∧ (mkO (joinO v v' ds ds').1 (joinO v v' ds ds').2 d).2.length ≤ 4096 := by
 unfold wrE at h
 split at h
 ·rename_i c; exact absurd h c
 ·rename_i c1
  split at h
  ·simp at h
  ·rename_i c2
   split at h
   ·rename_i c; exact absurd h c
   ·rename_i c3
    split at h
    ·simp at h
    ·rename_i c4
     split at h
     ·simp at h
     ·rename_i c5
      split at h
      ·simp at h
      ·rename_i c6
       exact ⟨Decidable.not_not.1 c1, Decidable.not_not.1 c2, Decidable.not_not.1 c3, fun q => c4 (.inl q), fun q => c4 (.inr q), Decidable.not_not.1 c5, Decidable.not_not.1 c6⟩
noncomputable def wrL (hs : List Hd) (v' : List Int) (ds' : Dots) (x : Hd) : List Hd := layG lessH (outL v' ds' hs) x
theorem wrL_len (hs : List Hd) (v' : List Int) (ds' : Dots) (x : Hd) : (wrL hs v' ds' x).length ≤ hs.length + 1 := by
 unfold wrL
 rw [layG_len]
 have := outL_le v' ds' hs
 omega
theorem outL_outG {v : List Int} {ds : Dots} (h : NF v ds) (hl : ds.length ≤ 4096) (l : List Hd) : outL v ds l = outG v ds l := by
 unfold outL outG
 congr 1
 funext x
 refine decide_eq_decide.2 (not_congr ?_)
 rw [rhas_in h.rg, and_iff_right (h.check hl)]
theorem wr_sort {hs : List Hd} {v : List Int} {ds : Dots} {d : Int × Int} {v' : List Int} {ds' : Dots} (h : wrE hs v ds d v' ds' = 0) (i : Dg) : sortP cfH (outL v' ds' hs ++ [(d, i)]) = wrL hs v' ds' (d, i) := by
 obtain ⟨c1, _, _, c4, _⟩ := wrE_0 h
 have rg := checkG_rg.1 c1
 refine sortH_lay (rg.rise.filter _) fun y hy e => c4 ?_
 have := rg.sn y (List.mem_filter.1 hy).1
 rw [e] at this
 exact (rhas_in rg.nf.rg d).2 this
noncomputable def T_pWrite : List AV → List AB → Option (AV × List AB)
 | [.ag [l, s, t], .ag [.i .i64 a, .i .i64 b], x, .ag [s', t']], h => (getS heldR h l).bind fun hs => (getS intR h s).bind fun v => (getS dotR h t).bind fun ds => (getS intR h s').bind fun v' => (getS dotR h t').bind fun ds' => (getI x).bind fun i =>
   if hs.length ≤ 100000 ∧ t.capOk = true ∧ t'.capOk = true then
    if wrE hs v ds (a, b) v' ds' ≠ 0 then some (.tu [.ag [.ns, .ns, .ns], .i .i64 (wrE hs v ds (a, b) v' ds')], h)
    else some (.tu [.ag [rsl heldR h.length (wrL hs v' ds' ((a, b), i)), rsl intR (h.length + 1) (mkO (joinO v v' ds ds').1 (joinO v v' ds ds').2 (a, b)).1, rsl dotR (h.length + 2) (mkO (joinO v v' ds ds').1 (joinO v v' ds ds').2 (a, b)).2], .i .i64 0],
     h ++ [resB heldR true (wrL hs v' ds' ((a, b), i)), resB intR true (mkO (joinO v v' ds ds').1 (joinO v v' ds ds').2 (a, b)).1, resB dotR true (mkO (joinO v v' ds ds').1 (joinO v v' ds ds').2 (a, b)).2])
   else none
 | _, _ => none
theorem pWrite_at {h : List AB} (hz : h.map AB.freeze = h) {l s t s' t' : AV} {a b : Int} {i : Dg} {hs : List Hd} {xs xs' : List Int} {ds ds' : Dots} (hl : Rd heldR h l hs) (hv : Rd intR h s xs) (hd : Rd dotR h t ds) (hv' : Rd intR h s' xs') (hd' : Rd dotR h t' ds') (hL : hs.length ≤ 100000) (k1 : t.capOk = true) (k2 : t'.capOk = true) (v : AV) (h' : List AB) (e : T_pWrite [.ag [l, s, t], .ag [.i .i64 a, .i .i64 b], .ag (idR.f i), .ag [s', t']] h = some (v, h')) :
  FnAt Tryz.prog 18 [.ag [l, s, t], .ag [.i .i64 a, .i .i64 b], .ag (idR.f i), .ag [s', t']] h v h' := by
 simp only [T_pWrite, hl.get, hv.get, hd.get, hv'.get, hd'.get, getI_f, Option.bind_some] at e
 rw [if_pos ⟨hL, k1, k2⟩] at e
 refine FnAt.run (by kernel_rfl) (T := ⟨[⟨27, T_pgCheck, fun _ => []⟩, ⟨59, T_chk checkR, fun _ => []⟩, ⟨58, T_cMake, fun _ => []⟩, ⟨39, T_rHas, fun _ => []⟩, ⟨48, T_cJoinA, fun _ => []⟩, ⟨46, T_unseen, fun _ => []⟩, ⟨60, T_Coll, fun _ => []⟩, ⟨49, T_SortH, fun _ => []⟩], []⟩) ⟨⟨pgCheck_spec, cCheck_spec, Make_spec, Has_spec, cJoinA_spec, unseen_spec, Coll_spec, SortH_spec, trivial⟩, trivial⟩ Tryz.func18 sw18 fun ho hh => ?_
 simp only [okL_cons, ok_ag, Bool.and_eq_true] at ho
 have f1 := hl.fx ho.1.1 (sz := 34) rfl
 have f2 := hv.fx ho.1.2.1 (sz := 1) rfl
 have f3 := hd.fx ho.1.2.2.1 (sz := 2) rfl
 have f4 := hv'.fx ho.2.2.2.1.1 (sz := 1) rfl
 have f5 := hd'.fx ho.2.2.2.1.2.1 (sz := 2) rfl
 have hL' : (hs.length ≤ 1000000) = True := eq_true (by omega)
 have hL2 : (hs.length ≤ 100000) = True := eq_true hL
 unfold w18
 by_cases c0 : checkG hs xs ds = 0
 case neg =>
  have hE : wrE hs xs ds (a, b) xs' ds' = checkG hs xs ds := by unfold wrE; rw [if_pos c0]
  rw [hE, if_pos c0] at e
  cases e
  have c0' := eq_false c0
  simp only [rep_0, rep_s, walkW, walkQ, walkX, if_true, if_false, ↓reduceIte, Nat.reduceAdd, Nat.reduceSub, Nat.reduceLeDiff, Nat.reduceEqDiff, Nat.reduceMul, Nat.reduceLT, Int.reduceLT, Int.reduceLE, Int.reduceEq, CO.tmps, Opd.tmps, optT, Nat.reducePow, Nat.reduceDiv, Nat.reduceMod, f1, f2, f3, f4, f5, T_pgCheck, c0', hL', id_all, id_len, id_take, over_at, not_false_eq_true, decide_true, HOk_own hh, mask_ownC hz, mask_ownQ hz, mask_ownQ0 hz]
  exact Bt.drop _ hh rfl (by simp only [ok_tu, okL_cons, okL_nil, ok_ag, ok_ns, ok_i, Bool.and_true])
 have rg1 : (rangedP [] [(a, b)]) = (dottedP (a, b)) := propext ⟨fun q => q.2.2 _ (.head _), fun q => ⟨Nat.zero_le _, by simp, by simpa using q⟩⟩
 have gu : ∀ (L : List AB) (k : Nat), ownC L k = some [.i .i64 a, .i .i64 b] → getS dotR (h ++ L) (.sl (h.length + k) 0 1 1 none) = some [(a, b)] := fun L k q => (Rd_ownT (r := dotR) (n := 1) (l := [(a, b)]) q (by unfold maxLen; simp) (by simp)).get
 have g00 : (([(a, b)] : Dots).length ≤ 100000) = True := eq_true (by simp)
 by_cases c1 : dottedP (a, b)
 case neg =>
  have hE : wrE hs xs ds (a, b) xs' ds' = 3 := by unfold wrE; rw [if_neg (not_not_intro c0), if_pos c1]
  rw [hE, if_pos (by decide)] at e
  cases e
  have c1' := eq_false c1
  simp only [rep_0, rep_s, walkW, walkQ, walkX, if_true, if_false, ↓reduceIte, Nat.reduceAdd, Nat.reduceSub, Nat.reduceLeDiff, Nat.reduceEqDiff, Nat.reduceMul, Nat.reduceLT, Int.reduceLT, Int.reduceLE, Int.reduceEq, CO.tmps, Opd.tmps, optT, Nat.reducePow, Nat.reduceDiv, Nat.reduceMod, f1, f2, f3, f4, f5, T_pgCheck, T_cMake, c0, c1', rg1, g00, gu, hL', id_all, id_len, id_take, over_at, ne_eq, not_false_eq_true, not_true_eq_false, decide_true, decide_false, HOk_own hh, mask_ownC hz, mask_ownQ hz, mask_ownQ0 hz]
  exact Bt.drop _ hh rfl (by simp only [ok_tu, okL_cons, okL_nil, ok_ag, ok_ns, ok_i, Bool.and_true])
 have c1' := eq_true c1
 have f00 : ((fmO [] [(a, b)]).2.length ≤ 4096) = True := eq_true (Nat.le_trans (fmO_len2 (by rw [rg1]; exact c1)) (by simp))
 by_cases c2 : checkR xs' ds' = 0
 case neg =>
  have hE : wrE hs xs ds (a, b) xs' ds' = checkR xs' ds' := by unfold wrE; rw [if_neg (not_not_intro c0), if_neg (not_not_intro c1), if_pos c2]
  rw [hE, if_pos c2] at e
  cases e
  have c2' := eq_false c2
  simp only [rep_0, rep_s, walkW, walkQ, walkX, if_true, if_false, ↓reduceIte, Nat.reduceAdd, Nat.reduceSub, Nat.reduceLeDiff, Nat.reduceEqDiff, Nat.reduceMul, Nat.reduceLT, Int.reduceLT, Int.reduceLE, Int.reduceEq, CO.tmps, Opd.tmps, optT, Nat.reducePow, Nat.reduceDiv, Nat.reduceMod, f1, f2, f3, f4, f5, T_pgCheck, T_chk, T_cMake, c0, c1', c2', rg1, g00, gu, f00, hL', id_all, id_len, id_take, over_at, ne_eq, not_false_eq_true, not_true_eq_false, decide_true, decide_false, HOk_own hh, mask_ownC hz, mask_ownQ hz, mask_ownQ0 hz]
  exact Bt.drop _ hh rfl (by simp only [ok_tu, okL_cons, okL_nil, ok_ag, ok_ns, ok_i, Bool.and_true])
 have cs := (checkG_0 c0).1
 by_cases c3 : rhasP xs ds (a, b) ∨ rhasP xs' ds' (a, b)
 ·have hE : wrE hs xs ds (a, b) xs' ds' = 19 := by unfold wrE; rw [if_neg (not_not_intro c0), if_neg (not_not_intro c1), if_neg (not_not_intro c2), if_pos c3]
  rw [hE, if_pos (by decide)] at e
  cases e
  by_cases c4 : rhasP xs ds (a, b)
  ·have c4' := eq_true c4
   simp only [rep_0, rep_s, walkW, walkQ, walkX, if_true, if_false, ↓reduceIte, Nat.reduceAdd, Nat.reduceSub, Nat.reduceLeDiff, Nat.reduceEqDiff, Nat.reduceMul, Nat.reduceLT, Int.reduceLT, Int.reduceLE, Int.reduceEq, CO.tmps, Opd.tmps, optT, Nat.reducePow, Nat.reduceDiv, Nat.reduceMod, f1, f2, f3, f4, f5, T_pgCheck, T_chk, T_cMake, T_rHas, c0, c1', c2, cs, c4', rg1, g00, gu, f00, hL', id_all, id_len, id_take, over_at, ne_eq, not_false_eq_true, not_true_eq_false, decide_true, decide_false, HOk_own hh, mask_ownC hz, mask_ownQ hz, mask_ownQ0 hz]
   exact Bt.drop _ hh rfl (by simp only [ok_tu, okL_cons, okL_nil, ok_ag, ok_ns, ok_i, Bool.and_true])
  ·have c4' := eq_false c4
   have c5' := eq_true (c3.resolve_left c4)
   simp only [rep_0, rep_s, walkW, walkQ, walkX, if_true, if_false, ↓reduceIte, Nat.reduceAdd, Nat.reduceSub, Nat.reduceLeDiff, Nat.reduceEqDiff, Nat.reduceMul, Nat.reduceLT, Int.reduceLT, Int.reduceLE, Int.reduceEq, CO.tmps, Opd.tmps, optT, Nat.reducePow, Nat.reduceDiv, Nat.reduceMod, f1, f2, f3, f4, f5, T_pgCheck, T_chk, T_cMake, T_rHas, c0, c1', c2, cs, c4', c5', rg1, g00, gu, f00, hL', id_all, id_len, id_take, over_at, ne_eq, not_false_eq_true, not_true_eq_false, decide_true, decide_false, HOk_own hh, mask_ownC hz, mask_ownQ hz, mask_ownQ0 hz]
   exact Bt.drop _ hh rfl (by simp only [ok_tu, okL_cons, okL_nil, ok_ag, ok_ns, ok_i, Bool.and_true])
 have c4' := eq_false (fun q => c3 (.inl q) : ¬ rhasP xs ds (a, b))
 have c5' := eq_false (fun q => c3 (.inr q) : ¬ rhasP xs' ds' (a, b))
 by_cases c6 : (joinO xs xs' ds ds').2.length ≤ 4096
 case neg =>
  have hE : wrE hs xs ds (a, b) xs' ds' = 10 := by unfold wrE; rw [if_neg (not_not_intro c0), if_neg (not_not_intro c1), if_neg (not_not_intro c2), if_neg c3, if_pos c6]
  rw [hE, if_pos (by decide)] at e
  cases e
  have c6' := eq_false c6
  simp only [rep_0, rep_s, walkW, walkQ, walkX, if_true, if_false, ↓reduceIte, Nat.reduceAdd, Nat.reduceSub, Nat.reduceLeDiff, Nat.reduceEqDiff, Nat.reduceMul, Nat.reduceLT, Int.reduceLT, Int.reduceLE, Int.reduceEq, CO.tmps, Opd.tmps, optT, Nat.reducePow, Nat.reduceDiv, Nat.reduceMod, f1, f2, f3, f4, f5, T_pgCheck, T_chk, T_cMake, T_rHas, T_cJoinA, c0, c1', c2, cs, c4', c5', c6', rg1, g00, gu, f00, hL', k1, k2, id_all, id_len, id_take, over_at, ne_eq, not_false_eq_true, not_true_eq_false, decide_true, decide_false, HOk_own hh, mask_ownC hz, mask_ownQ hz, mask_ownQ0 hz]
  exact Bt.drop _ hh rfl (by simp only [ok_tu, okL_cons, okL_nil, ok_ag, ok_ns, ok_i, Bool.and_true])
 have c6' := eq_true c6
 have na := join_nf (nf_check cs) (nf_check c2)
 have hmk : ∀ x, mkO (joinO xs xs' ds ds').1 (joinO xs xs' ds ds').2 x = fmO (joinO xs xs' ds ds').1 ((joinO xs xs' ds ds').2 ++ [x]) := fun _ => rfl
 have rgJ : rangedP (joinO xs xs' ds ds').1 ((joinO xs xs' ds ds').2 ++ [(a, b)]) = True := eq_true ⟨na.rg.1, na.rg.2.1, fun x hx => by
  rcases List.mem_append.1 hx with q | q
  ·exact na.rg.2.2 x q
  ·rw [List.mem_singleton.1 q]; exact c1⟩
 have lJ1 := na.rg.1
 have qi : ∀ (L : List AB) (a b : Nat), bxL L a = some l → ownC L b = some [s', t'] → qIn (h ++ L) (h.length + a) (h.length + b) = some (hs, xs', ds') := fun L a b b1 b2 => qIn_own b1 b2 (hl.app L).get (hv'.app L).get (hd'.app L).get
 have hap : (joinO xs xs' ds ds').2 = [] ∨ (joinO xs xs' ds ds').2 ≠ [] := Classical.em _
 generalize hJ : joinO xs xs' ds ds' = J at *
 obtain ⟨jv, jd⟩ := J
 dsimp only at *
 have g7 : ((jd ++ [(a, b)]).length ≤ 100000) = True := eq_true (by rw [List.length_append]; simp; omega)
 have g8 : (jd ++ [(a, b)]).length ≤ maxLen := by unfold maxLen; rw [List.length_append]; simp; omega
 have z3 : (1 * 16 ≤ 140737488355328 ∧ 1 ≤ maxLen) = True := eq_true ⟨by decide, by unfold maxLen; omega⟩
 have z4 : (1 * 48 ≤ 140737488355328 ∧ 1 ≤ maxLen) = True := eq_true ⟨by decide, by unfold maxLen; omega⟩
 have n1 : (jv.length ≤ maxLen) = True := eq_true (by unfold maxLen; omega)
 have gu2 : ∀ (L : List AB) (k : Nat), ownC L k = some (dotR.cells jd ++ [.i .i64 a, .i .i64 b]) → getS dotR (h ++ L) (.sl (h.length + k) 0 (jd.length + 1) (jd.length + 1) (some 2)) = some (jd ++ [(a, b)]) := fun L k q => by
  have := (Rd_ownT (h := h) (r := dotR) (n := jd.length + 1) (c := jd.length + 1) (kk := some 2) (l := jd ++ [(a, b)]) (L := L) (k := k) (by rw [q, cells_app]; rfl) g8 (by simp)).get
  rw [List.take_of_length_le (by simp)] at this
  exact this
 have fj := fun (q0 : jd.length ≠ 0) L k ys hb => appW_rslP (h := h) (p := h.length) rfl (r := dotR) (sz := 2) rfl L k jd 16 1 ys q0 hb (by decide) (by omega) (by unfold maxLen; omega)
 have lo := outL_le xs' ds' hs
 have so : wrE hs xs ds (a, b) xs' ds' = 0 → ∀ (L : List AB) (k : Nat), L[k]? = some (.blk true true (heldR.cells (outL xs' ds' hs) ++ (.i .i64 a :: .i .i64 b :: idR.f i))) → T_SortH [.sl (h.length + k) 0 ((outL xs' ds' hs).length + 1) ((outL xs' ds' hs).length + 1) (some 34), .f (.func 50) [] []] (h ++ L) = some (.tu [], h ++ L.set k (resB heldR true (wrL hs xs' ds' ((a, b), i)))) := fun hE L k q => by
  have e1 : AV.sl (h.length + k) 0 ((outL xs' ds' hs).length + 1) ((outL xs' ds' hs).length + 1) (some 34) = rsl heldR (h.length + k) (outL xs' ds' hs ++ [((a, b), i)]) := by rw [rsl_snoc]; rfl
  have e2 : AB.blk true true (heldR.cells (outL xs' ds' hs) ++ (.i .i64 a :: .i .i64 b :: idR.f i)) = resB heldR true (outL xs' ds' hs ++ [((a, b), i)]) := by rw [resB_snoc]; rfl
  rw [e1]
  rw [e2] at q
  have hn : (outL xs' ds' hs ++ [((a, b), i)]).length ≤ maxLen := by rw [List.length_append]; unfold maxLen; simp; omega
  have h2 : (h ++ L)[h.length + k]? = some (resB heldR true (outL xs' ds' hs ++ [((a, b), i)])) := by rw [own_at']; exact q
  have h1 := (rsl_rd h2 hn).get
  simp only [T_SortH, h1, Option.bind_some, idOf_rsl]
  rw [if_pos ⟨by rw [List.length_append]; simp; omega, rfl, h2⟩, wr_sort hE, set_own]
 have fo := fun (q0 : (outL xs' ds' hs).length ≠ 0) L k ys hb => appW_rslP (h := h) (p := h.length) rfl (r := heldR) (sz := 34) rfl L k (outL xs' ds' hs) 48 1 ys q0 hb (by decide) (by omega) (by unfold maxLen; omega)
 have gm := hmk (a, b)
 have hmE : wrE hs xs ds (a, b) xs' ds' = if (mkO jv jd (a, b)).2.length ≤ 4096 then 0 else 10 := by
  unfold wrE
  rw [if_neg (not_not_intro c0), if_neg (not_not_intro c1), if_neg (not_not_intro c2), if_neg c3, hJ, if_neg (not_not_intro c6)]
  by_cases q : (mkO jv jd (a, b)).2.length ≤ 4096
  ·rw [if_neg (not_not_intro q), if_pos q]
  ·rw [if_pos q, if_neg q]
 clear gm
 generalize hM : mkO jv jd (a, b) = M at *
 by_cases hB : jd = []
 ·subst hB
  have gmF : fmO jv [(a, b)] = M := hM
  have g7 : (([(a, b)] : Dots).length ≤ 100000) = True := g00
  have gu3 : ∀ (L : List AB) (k : Nat), ownC L k = some [.i .i64 a, .i .i64 b] → getS dotR (h ++ L) (.sl (h.length + k) 0 1 1 (some 2)) = some [(a, b)] := fun L k q => gu2 L k q
  rw [List.nil_append] at rgJ
  by_cases c7 : M.2.length ≤ 4096
  case neg =>
   rw [hmE, if_neg c7, if_pos (by decide)] at e
   cases e
   have c7' := eq_false c7
   simp only [rep_0, rep_s, walkW, walkQ, walkX, if_true, if_false, ↓reduceIte, Nat.reduceAdd, Nat.reduceSub, Nat.reduceLeDiff, Nat.reduceEqDiff, Nat.reduceMul, Nat.reduceLT, Int.reduceLT, Int.reduceLE, Int.reduceEq, CO.tmps, Opd.tmps, optT, Nat.reducePow, Nat.reduceDiv, Nat.reduceMod, f1, f2, f3, f4, f5, T_pgCheck, T_chk, T_cMake, T_rHas, T_cJoinA, hJ, c0, c1', c2, cs, c4', c5', c6', rg1, rgJ, g00, g7, n1, gu, f00, hL', k1, k2, gmF, T_unseen, T_Coll, qi, hl.isSl, hv'.isSl, hd'.isSl, hL2, len_avcons, len_avnil, apL_cons, apL_nil, id_ok, apS_nil, z3, gu3, c7', id_all, id_len, id_take, over_at, ne_eq, not_false_eq_true, not_true_eq_false, decide_true, decide_false, HOk_own hh, mask_ownC hz, mask_ownQ hz, mask_ownQ0 hz]
   exact Bt.drop _ hh rfl (by simp only [ok_tu, okL_cons, okL_nil, ok_ag, ok_ns, ok_i, Bool.and_true])
  have c7' := eq_true c7
  rw [if_pos c7] at hmE
  rw [hmE, if_neg (not_not_intro rfl)] at e
  cases e
  have so := so hmE
  have eW : ∀ id, AV.sl id 0 ((outL xs' ds' hs).length + 1) ((outL xs' ds' hs).length + 1) (some 34) = rsl heldR id (wrL hs xs' ds' ((a, b), i)) := fun id => by
   unfold rsl wrL
   rw [layG_len, if_neg (Nat.succ_ne_zero _)]
   rfl
  have eW1 : outL xs' ds' hs = [] → ∀ id, AV.sl id 0 1 1 (some 34) = rsl heldR id (wrL hs xs' ds' ((a, b), i)) := fun hO id => by
   have := eW id
   rw [hO] at this
   exact this
  by_cases hO : outL xs' ds' hs = []
  ·have so0 : ∀ (L : List AB) (k : Nat), L[k]? = some (.blk true true (.i .i64 a :: .i .i64 b :: idR.f i)) → T_SortH [.sl (h.length + k) 0 1 1 (some 34), .f (.func 50) [] []] (h ++ L) = some (.tu [], h ++ L.set k (resB heldR true (wrL hs xs' ds' ((a, b), i)))) := fun L k q => by
    have := so L k (by rw [hO]; exact q)
    rw [hO] at this
    exact this
   simp only [rep_0, rep_s, walkW, walkQ, walkX, if_true, if_false, ↓reduceIte, Nat.reduceAdd, Nat.reduceSub, Nat.reduceLeDiff, Nat.reduceEqDiff, Nat.reduceMul, Nat.reduceLT, Int.reduceLT, Int.reduceLE, Int.reduceEq, CO.tmps, Opd.tmps, optT, Nat.reducePow, Nat.reduceDiv, Nat.reduceMod, f1, f2, f3, f4, f5, T_pgCheck, T_chk, T_cMake, T_rHas, T_cJoinA, hJ, c0, c1', c2, cs, c4', c5', c6', rg1, rgJ, g00, g7, n1, gu, f00, hL', k1, k2, gmF, T_unseen, T_Coll, qi, hl.isSl, hv'.isSl, hd'.isSl, hL2, len_avcons, len_avnil, apL_cons, apL_nil, id_ok, apS_nil, z3, gu3, c7', hO, apS_nil, z4, so0, id_all, id_len, id_take, over_at, ne_eq, not_false_eq_true, not_true_eq_false, decide_true, decide_false, HOk_own hh, mask_ownC hz, mask_ownQ hz, mask_ownQ0 hz]
   simp only [eW1 hO]
   exact Bt.sel [21, 14, 15] hh (by decide) (by simp only [walkS, FrSel, BlkSel, AV.ren, renL, AV.ok, okL, Option.some.injEq, exists_eq_left', List.length_cons, List.length_nil, Nat.reduceAdd, Nat.reduceLT, reduceCtorEq, implies_true, exists_eq']) (by simp only [walkS, FrSel, BlkSel, AV.ren, renL, AV.ok, okL, Option.some.injEq, exists_eq_left', List.length_cons, List.length_nil, Nat.reduceAdd, Nat.reduceLT, reduceCtorEq, implies_true, exists_eq'])
  ·have hO' : (outL xs' ds' hs).length ≠ 0 := fun q => hO (List.eq_nil_of_length_eq_zero q)
   have gro : ∀ id, apS heldR id (outL xs' ds' hs) = rsl heldR id (outL xs' ds' hs) := fun id => apS_rsl _ hO'
   have fo := fo hO'
   simp only [rep_0, rep_s, walkW, walkQ, walkX, if_true, if_false, ↓reduceIte, Nat.reduceAdd, Nat.reduceSub, Nat.reduceLeDiff, Nat.reduceEqDiff, Nat.reduceMul, Nat.reduceLT, Int.reduceLT, Int.reduceLE, Int.reduceEq, CO.tmps, Opd.tmps, optT, Nat.reducePow, Nat.reduceDiv, Nat.reduceMod, f1, f2, f3, f4, f5, T_pgCheck, T_chk, T_cMake, T_rHas, T_cJoinA, hJ, c0, c1', c2, cs, c4', c5', c6', rg1, rgJ, g00, g7, n1, gu, f00, hL', k1, k2, gmF, T_unseen, T_Coll, qi, hl.isSl, hv'.isSl, hd'.isSl, hL2, len_avcons, len_avnil, apL_cons, apL_nil, id_ok, apS_nil, z3, gu3, c7', gro, fo, so, id_all, id_len, id_take, over_at, ne_eq, not_false_eq_true, not_true_eq_false, decide_true, decide_false, HOk_own hh, mask_ownC hz, mask_ownQ hz, mask_ownQ0 hz]
   simp only [eW]
   exact Bt.sel [21, 14, 15] hh (by decide) (by simp only [walkS, FrSel, BlkSel, AV.ren, renL, AV.ok, okL, Option.some.injEq, exists_eq_left', List.length_cons, List.length_nil, Nat.reduceAdd, Nat.reduceLT, reduceCtorEq, implies_true, exists_eq']) (by simp only [walkS, FrSel, BlkSel, AV.ren, renL, AV.ok, okL, Option.some.injEq, exists_eq_left', List.length_cons, List.length_nil, Nat.reduceAdd, Nat.reduceLT, reduceCtorEq, implies_true, exists_eq'])
 ·have q0 : jd.length ≠ 0 := fun q => hB (List.eq_nil_of_length_eq_zero q)
  have grj : ∀ id, apS dotR id jd = rsl dotR id jd := fun id => apS_rsl _ q0
  have fj := fj q0
  have gmF : fmO jv (jd ++ [(a, b)]) = M := hM
  by_cases c7 : M.2.length ≤ 4096
  case neg =>
   rw [hmE, if_neg c7, if_pos (by decide)] at e
   cases e
   have c7' := eq_false c7
   simp only [rep_0, rep_s, walkW, walkQ, walkX, if_true, if_false, ↓reduceIte, Nat.reduceAdd, Nat.reduceSub, Nat.reduceLeDiff, Nat.reduceEqDiff, Nat.reduceMul, Nat.reduceLT, Int.reduceLT, Int.reduceLE, Int.reduceEq, CO.tmps, Opd.tmps, optT, Nat.reducePow, Nat.reduceDiv, Nat.reduceMod, f1, f2, f3, f4, f5, T_pgCheck, T_chk, T_cMake, T_rHas, T_cJoinA, hJ, c0, c1', c2, cs, c4', c5', c6', rg1, rgJ, g00, g7, n1, gu, f00, hL', k1, k2, gmF, T_unseen, T_Coll, qi, hl.isSl, hv'.isSl, hd'.isSl, hL2, len_avcons, len_avnil, apL_cons, apL_nil, id_ok, grj, fj, gu2, c7', id_all, id_len, id_take, over_at, ne_eq, not_false_eq_true, not_true_eq_false, decide_true, decide_false, HOk_own hh, mask_ownC hz, mask_ownQ hz, mask_ownQ0 hz]
   exact Bt.drop _ hh rfl (by simp only [ok_tu, okL_cons, okL_nil, ok_ag, ok_ns, ok_i, Bool.and_true])
  have c7' := eq_true c7
  rw [if_pos c7] at hmE
  rw [hmE, if_neg (not_not_intro rfl)] at e
  cases e
  have so := so hmE
  have eW : ∀ id, AV.sl id 0 ((outL xs' ds' hs).length + 1) ((outL xs' ds' hs).length + 1) (some 34) = rsl heldR id (wrL hs xs' ds' ((a, b), i)) := fun id => by
   unfold rsl wrL
   rw [layG_len, if_neg (Nat.succ_ne_zero _)]
   rfl
  have eW1 : outL xs' ds' hs = [] → ∀ id, AV.sl id 0 1 1 (some 34) = rsl heldR id (wrL hs xs' ds' ((a, b), i)) := fun hO id => by
   have := eW id
   rw [hO] at this
   exact this
  by_cases hO : outL xs' ds' hs = []
  ·have so0 : ∀ (L : List AB) (k : Nat), L[k]? = some (.blk true true (.i .i64 a :: .i .i64 b :: idR.f i)) → T_SortH [.sl (h.length + k) 0 1 1 (some 34), .f (.func 50) [] []] (h ++ L) = some (.tu [], h ++ L.set k (resB heldR true (wrL hs xs' ds' ((a, b), i)))) := fun L k q => by
    have := so L k (by rw [hO]; exact q)
    rw [hO] at this
    exact this
   simp only [rep_0, rep_s, walkW, walkQ, walkX, if_true, if_false, ↓reduceIte, Nat.reduceAdd, Nat.reduceSub, Nat.reduceLeDiff, Nat.reduceEqDiff, Nat.reduceMul, Nat.reduceLT, Int.reduceLT, Int.reduceLE, Int.reduceEq, CO.tmps, Opd.tmps, optT, Nat.reducePow, Nat.reduceDiv, Nat.reduceMod, f1, f2, f3, f4, f5, T_pgCheck, T_chk, T_cMake, T_rHas, T_cJoinA, hJ, c0, c1', c2, cs, c4', c5', c6', rg1, rgJ, g00, g7, n1, gu, f00, hL', k1, k2, gmF, T_unseen, T_Coll, qi, hl.isSl, hv'.isSl, hd'.isSl, hL2, len_avcons, len_avnil, apL_cons, apL_nil, id_ok, grj, fj, gu2, c7', hO, apS_nil, z4, so0, id_all, id_len, id_take, over_at, ne_eq, not_false_eq_true, not_true_eq_false, decide_true, decide_false, HOk_own hh, mask_ownC hz, mask_ownQ hz, mask_ownQ0 hz]
   simp only [eW1 hO]
   exact Bt.sel [21, 14, 15] hh (by decide) (by simp only [walkS, FrSel, BlkSel, AV.ren, renL, AV.ok, okL, Option.some.injEq, exists_eq_left', List.length_cons, List.length_nil, Nat.reduceAdd, Nat.reduceLT, reduceCtorEq, implies_true, exists_eq']) (by simp only [walkS, FrSel, BlkSel, AV.ren, renL, AV.ok, okL, Option.some.injEq, exists_eq_left', List.length_cons, List.length_nil, Nat.reduceAdd, Nat.reduceLT, reduceCtorEq, implies_true, exists_eq'])
  ·have hO' : (outL xs' ds' hs).length ≠ 0 := fun q => hO (List.eq_nil_of_length_eq_zero q)
   have gro : ∀ id, apS heldR id (outL xs' ds' hs) = rsl heldR id (outL xs' ds' hs) := fun id => apS_rsl _ hO'
   have fo := fo hO'
   simp only [rep_0, rep_s, walkW, walkQ, walkX, if_true, if_false, ↓reduceIte, Nat.reduceAdd, Nat.reduceSub, Nat.reduceLeDiff, Nat.reduceEqDiff, Nat.reduceMul, Nat.reduceLT, Int.reduceLT, Int.reduceLE, Int.reduceEq, CO.tmps, Opd.tmps, optT, Nat.reducePow, Nat.reduceDiv, Nat.reduceMod, f1, f2, f3, f4, f5, T_pgCheck, T_chk, T_cMake, T_rHas, T_cJoinA, hJ, c0, c1', c2, cs, c4', c5', c6', rg1, rgJ, g00, g7, n1, gu, f00, hL', k1, k2, gmF, T_unseen, T_Coll, qi, hl.isSl, hv'.isSl, hd'.isSl, hL2, len_avcons, len_avnil, apL_cons, apL_nil, id_ok, grj, fj, gu2, c7', gro, fo, so, id_all, id_len, id_take, over_at, ne_eq, not_false_eq_true, not_true_eq_false, decide_true, decide_false, HOk_own hh, mask_ownC hz, mask_ownQ hz, mask_ownQ0 hz]
   simp only [eW]
   exact Bt.sel [21, 14, 15] hh (by decide) (by simp only [walkS, FrSel, BlkSel, AV.ren, renL, AV.ok, okL, Option.some.injEq, exists_eq_left', List.length_cons, List.length_nil, Nat.reduceAdd, Nat.reduceLT, reduceCtorEq, implies_true, exists_eq']) (by simp only [walkS, FrSel, BlkSel, AV.ren, renL, AV.ok, okL, Option.some.injEq, exists_eq_left', List.length_cons, List.length_nil, Nat.reduceAdd, Nat.reduceLT, reduceCtorEq, implies_true, exists_eq'])
theorem pWrite_spec : Spec Tryz.prog 18 T_pWrite := by
 intro args h v h' e
 unfold T_pWrite at e
 split at e
 ·rename_i l s t a b x s' t'
  obtain ⟨hs, hl, e⟩ := getS_bind e
  obtain ⟨xs, hv, e⟩ := getS_bind e
  obtain ⟨ds, hd, e⟩ := getS_bind e
  obtain ⟨xs', hv', e⟩ := getS_bind e
  obtain ⟨ds', hd', e⟩ := getS_bind e
  obtain ⟨i, hx, e2⟩ := getI_bind e
  clear e
  subst hx
  split at e2
  ·rename_i hL
   split at e2
   ·rename_i c
    cases e2
    refine FnAt.c (FnAt.frz0 fun hz => pWrite_at hz hl.frz hv.frz hd.frz hv'.frz hd'.frz hL.1 hL.2.1 hL.2.2 _ _ ?_)
    simp only [T_pWrite, hl.frz.get, hv.frz.get, hd.frz.get, hv'.frz.get, hd'.frz.get, getI_f, Option.bind_some]
    rw [if_pos hL, if_pos c]
   ·rename_i c
    cases e2
    refine FnAt.c (FnAt.frz fun hz => pWrite_at hz hl.frz hv.frz hd.frz hv'.frz hd'.frz hL.1 hL.2.1 hL.2.2 _ _ ?_)
    simp only [T_pWrite, hl.frz.get, hv.frz.get, hd.frz.get, hv'.frz.get, hd'.frz.get, getI_f, Option.bind_some, List.length_map]
    rw [if_pos hL, if_neg c]
  ·cases e2
 ·cases e
end Go.Proofs.YtcncpbcbedfakaaGreat
end
section
namespace Go.Proofs.YtcncpbcbedfakaaGreat
set_option maxRecDepth 100000
set_option maxHeartbeats 4000000
set_option linter.unusedSimpArgs false
def T_turn : List AV → List AB → Option (AV × List AB)
 | [.p id 0], h => match h[id]? with
  | some (.blk false true [a, b, c, d, e, f]) => if a.isSl = true ∧ b.isSl = true ∧ c.isSl = true ∧ d.isSl = true ∧ e.isSl = true ∧ f.isSl = true then some (.tu [], bxc h id [d, e, f, a, b, c]) else none
  | _ => none
 | _, _ => none
theorem turn_spec : Spec Tryz.prog 47 T_turn := by
 intro args h v h' e
 unfold T_turn at e
 split at e
 ·rename_i id
  split at e
  ·rename_i a b c d e' f hb
   split at e
   ·rename_i hs
    cases e
    obtain ⟨s1, s2, s3, s4, s5, s6⟩ := hs
    have hid := (List.getElem?_eq_some_iff.1 hb).1
    refine FnAt.c (FnAt.run (by kernel_rfl) (T := ⟨[], []⟩) ⟨trivial, trivial⟩ Tryz.func47 sw47 fun ho hh => ?_)
    have ok := hh id _ hb
    simp only [AB.ok, okL_cons, okL_nil, Bool.and_eq_true, Bool.and_true] at ok
    obtain ⟨o1, o2, o3, o4, o5, o6⟩ := ok
    have e0 : h ++ [] = bxc h id [a, b, c, d, e', f] ++ [] := by rw [bxc_same hb]
    rw [e0]
    have up : ∀ (t : AV), t.ok (fun i => decide (i < h.length)) = true → (∀ c lo hi anc past, t.ok (qOk (h.length + c) lo hi anc past) = true) ∧ ∀ c, t.ok (fun i => decide (i < h.length + c)) = true := fun t ht => ⟨fun c lo hi anc past => AV.ok_mono (fun i q => qOk_lt (by simp only [decide_eq_true_eq] at q; omega)) t ht, fun c => AV.ok_mono (fun i q => by simp only [decide_eq_true_eq] at q ⊢; omega) t ht⟩
    have u := And.intro (up _ o1) (And.intro (up _ o2) (And.intro (up _ o3) (And.intro (up _ o4) (And.intro (up _ o5) (up _ o6)))))
    have q1 : ∀ c lo hi anc past, qOk (h.length + c) lo hi anc past id = true := fun c lo hi anc past => qOk_lt (by omega)
    have q2 : ∀ c, (id < h.length + c) = True := fun c => eq_true (by omega)
    have hidz : id < (h.map AB.freeze).length := by rw [List.length_map]; exact hid
    unfold w47
    simp only [rep_0, rep_s, walkW, walkD, walkM, if_true, if_false, reduceIte, Nat.reduceAdd, Nat.reduceSub, Nat.reduceLeDiff, Nat.reduceEqDiff, Nat.reduceMul, Nat.reduceLT, Int.reduceLT, Int.reduceLE, Int.reduceEq, CO.tmps, Opd.tmps, optT, Nat.reducePow, Nat.reduceDiv, Nat.reduceMod, bxc_lda hid, bxc_sta hid, bxc_sta hidz, HOk_bxc hid hh, mask_bxc rfl hid, merge_bxc hid, getD_bxc hidz, bxc_app_len, bxc_drop, bxc_len, List.length_map, q1, q2, u, sl_one s1, sl_one s2, sl_one s3, sl_one s4, sl_one s5, sl_one s6]
    exact Bt.eq rfl (List.append_nil _)
   ·cases e
  ·cases e
 ·cases e
theorem rdBlk_getH {h : List AB} {i : Nat} {c : List AV} {x : Hd} (e : rdBlk h i = some c) (hx : getH (.ag c) = some x) : rdBlk h i = some (heldR.f x) := by
 unfold getH at hx
 split at hx
 ·rename_i q
  cases hx
  have := q.choose_spec
  rw [AV.ag.injEq] at this
  rw [e, ← this]
 ·cases hx
noncomputable def T_jn1 : List AV → List AB → Option (AV × List AB)
 | [y, .p i 0], h => (rdBlk h i).bind fun c => (getH (.ag c)).bind fun x => (getH y).bind fun z => some (.b (decide (z.1 = x.1)), h)
 | _, _ => none
theorem jn1_spec : Spec Tryz.prog 44 T_jn1 := by
 intro args h v h' e
 unfold T_jn1 at e
 split at e
 ·rename_i y i
  obtain ⟨c, hc, e⟩ := Option.bind_eq_some_iff.1 e
  obtain ⟨x, hx, e⟩ := Option.bind_eq_some_iff.1 e
  obtain ⟨z, hy, e2⟩ := getH_bind e
  clear e
  subst hy
  cases e2
  have f1 := rdBlk_fx (rdBlk_getH hc hx)
  refine FnAt.c (FnAt.run (by kernel_rfl) (T := ⟨[], []⟩) ⟨trivial, trivial⟩ Tryz.func44 sw44 fun ho hh => ?_)
  have kd : ∀ z : Hd, (heldR.f z).take 2 = [.i .i64 z.1.1, .i .i64 z.1.2] := fun _ => rfl
  unfold w44
  simp only [rep_0, rep_s, walkW, walkQ, walkX, if_true, if_false, ↓reduceIte, Nat.reduceAdd, Nat.reduceSub, Nat.reduceLeDiff, Nat.reduceEqDiff, Nat.reduceMul, Nat.reduceLT, Int.reduceLT, Int.reduceLE, Int.reduceEq, CO.tmps, Opd.tmps, optT, Nat.reducePow, Nat.reduceDiv, Nat.reduceMod, f1, kd, held_all1, held_len, eqcG]
  exact Bt.dropB _ hh (decide_eq_decide.2 ⟨fun q => Prod.ext q.1 q.2, fun q => by rw [q]; exact ⟨rfl, rfl⟩⟩)
 ·cases e
noncomputable def T_idxJ : List AV → List AB → Option (AV × List AB)
 | [s, .f (.func 44) [] [.p i 0]], h => (rdBlk h i).bind fun c => (getH (.ag c)).bind fun x => (getS heldR h s).bind fun l => some (.i .i64 (idx (fun y : Hd => y.1 = x.1) l), h)
 | _, _ => none
theorem idxJ_spec : Spec Tryz.prog 43 T_idxJ := by
 intro args h v h' e
 unfold T_idxJ at e
 split at e
 ·rename_i s i
  obtain ⟨c, hc, e⟩ := Option.bind_eq_some_iff.1 e
  obtain ⟨x, hx0, e⟩ := Option.bind_eq_some_iff.1 e
  obtain ⟨l, hx, e⟩ := getS_bind e
  cases e
  have hb := rdBlk_getH hc hx0
  refine FnAt.c (FnAt.run (by kernel_rfl) (T := ⟨[⟨44, T_jn1, fun _ => []⟩], []⟩) ⟨⟨jn1_spec, trivial⟩, trivial⟩ Tryz.func43 sw43 fun ho hh => ?_)
  simp only [okL_cons, Bool.and_eq_true] at ho
  have f1 := hx.fx ho.1 (sz := 34) rfl
  have k0 : ∀ y, rdBlk (h ++ y) i = some (heldR.f x) := (rdBlk_fx hb).1
  unfold w43
  simp only [rep_0, rep_s, walkW, walkX, if_true, if_false, reduceIte, Nat.reduceAdd, Nat.reduceSub, Nat.reduceLeDiff, Nat.reduceEqDiff, Nat.reduceMul, Nat.reduceLT, Int.reduceLT, Int.reduceLE, Int.reduceEq, f1]
  refine W_loopF (S := Nat) (fun j => l.length - j) (fun j => [s, .f (.func 44) [] [.p i 0]] ++ tp 5 ++ [.i .i64 l.length, .i .i64 j] ++ tp 10) (fun j => j ≤ l.length ∧ idx (fun y : Hd => y.1 = x.1) l = idxFrom (fun y : Hd => y.1 = x.1) (l.drop j) j) 0 ⟨Nat.zero_le _, rfl⟩ (by simp only [walkW, walkX, if_true, if_false, reduceIte, Nat.reduceAdd, Nat.reduceSub, Nat.reduceLeDiff, Nat.reduceEqDiff, Nat.reduceMul, Nat.reduceLT, Int.reduceLT, Int.reduceLE, Int.reduceEq]) fun j hj => ?_
  simp only [walkW, walkX, if_true, if_false, reduceIte, Nat.reduceAdd, Nat.reduceSub, Nat.reduceLeDiff, Nat.reduceEqDiff, Nat.reduceMul, Nat.reduceLT, Int.reduceLT, Int.reduceLE, Int.reduceEq, f1]
  refine ⟨fun h2 => ?_, fun h2 => ?_⟩
  ·have e1 : IntKind.i64.wrap ((j : Int) + 1) = ((j + 1 : Nat) : Int) := wrap_in (by have := hx.2; unfold maxLen at this; unfold In64; omega)
   have e2 := idx_drop (fun y : Hd => y.1 = x.1) heldR.d j h2
   simp only [walkW, walkX, if_true, if_false, reduceIte, Nat.reduceAdd, Nat.reduceSub, Nat.reduceLeDiff, Nat.reduceEqDiff, Nat.reduceMul, Nat.reduceLT, Int.reduceLT, Int.reduceLE, Int.reduceEq, f1, h2, e1, T_jn1, getH_f, k0]
   refine ⟨fun h3 => Bt.eq (by rw [hj.2, e2, if_pos h3]) (List.append_nil h), fun h3 => ⟨j + 1, ⟨h2, ?_⟩, by omega, Wk.refl _⟩⟩
   rw [hj.2, e2, if_neg h3]
  ·exact Bt.eq (by rw [hj.2, List.drop_eq_nil_of_le (by omega)]; rfl) (List.append_nil h)
 ·cases e
end Go.Proofs.YtcncpbcbedfakaaGreat
end
