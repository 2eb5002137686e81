/- Part 19 of what the laws' proofs rest on. No condition. -/
import Derived.Test.YtcncpbcbedfakaaGreatRn18
set_option linter.all false
section
namespace Go.Proofs.YtcncpbcbedfakaaGreat
set_option maxRecDepth 100000
set_option maxHeartbeats 4000000
set_option linter.unusedSimpArgs false
open Classical in
noncomputable def T_Sort : List AV → List AB → Option (AV × List AB)
 | [s, .f (.func 99) [] []], h => (getS dotR h s).bind fun l => match idOf s with
   | [id] => if l.length ≤ 1000000 ∧ s = rsl dotR id l ∧ h[id]? = some (resB dotR true l) then some (.tu [], h.set id (resB dotR true (srtD l))) else none
   | _ => none
 | _, _ => none
def boxL : List AB → Nat → Option (AV × AV)
 | .blk false true [v, d] :: _, 0 => if v.isSl = true ∧ d.isSl = true then some (v, d) else none
 | _, 0 => none
 | [], _ => none
 | _ :: L, k + 1 => boxL L k
theorem boxL_0 (v d : AV) (L : List AB) : boxL (.blk false true [v, d] :: L) 0 = if v.isSl = true ∧ d.isSl = true then some (v, d) else none := _root_.id rfl
theorem boxL_s (B : AB) (L : List AB) (k : Nat) : boxL (B :: L) (k + 1) = boxL L k := by
 cases B with
 | blk fl m xs => cases fl <;> cases m <;> (match xs with | [] => rfl | [_] => rfl | [_, _] => rfl | _ :: _ :: _ :: _ => rfl)
 | _ => rfl
theorem boxL_eq : ∀ (L : List AB) (k : Nat), boxOf L k = boxL L k
 | [], k => by cases k <;> simp [boxOf, boxL]
 | B :: L, 0 => by
  unfold boxOf boxL
  simp only [List.getElem?_cons_zero]
  split <;> split <;> simp_all
 | B :: L, k + 1 => by
  rw [boxL_s, ← boxL_eq L k]
  unfold boxOf
  simp only [List.getElem?_cons_succ]
theorem boxOf_own (h L : List AB) (k : Nat) : boxOf (h ++ L) (h.length + k) = boxL L k := by
 rw [← boxL_eq]
 unfold boxOf
 rw [List.getElem?_append_right (by omega), Nat.add_sub_cancel_left]
theorem bx2_own (h L : List AB) (k : Nat) (v d : AV) : bx2 (h ++ L) (h.length + k) v d = h ++ L.set k (.blk false true [v, d]) := by
 unfold bx2
 rw [List.set_append_right _ _ (by omega), Nat.add_sub_cancel_left]
theorem own_at' (h L : List AB) (k : Nat) : (h ++ L)[h.length + k]? = L[k]? := by rw [List.getElem?_append_right (by omega), Nat.add_sub_cancel_left]
noncomputable def T_cMake : List AV → List AB → Option (AV × List AB)
 | [s, t], h => (getS intR h s).bind fun v => (getS dotR h t).bind fun ds => if ds.length ≤ 100000 then
   if rangedP v ds then
    if (fmO v ds).2.length ≤ 4096 then some (.tu [.ag [rsl intR h.length (fmO v ds).1, rsl dotR (h.length + 1) (fmO v ds).2], .i .i64 0], h ++ [resB intR true (fmO v ds).1, resB dotR true (fmO v ds).2])
    else some (.tu [.ag [.ns, .ns], .i .i64 10], h)
   else some (.tu [.ag [.ns, .ns], .i .i64 3], h)
  else none
 | _, _ => none
theorem leaf_cutA {h L : List AB} {a b : Nat} {V : List Int} {D : Dots} {e : AV} {n : Nat} (hh : HOk h) (hn : n ≤ V.length) (he : e.ok (fun i => decide (i < h.length + 2)) = true) (hre : ∀ f, e.ren f = e) (hab : a ≠ b) (ha : L[a]? = some (resB intR true V)) (hb : L[b]? = some (resB dotR true D)) :
  Bt Tryz.prog h.length [.tu [.ag [cutS (rsl intR (h.length + a) V) n, apS dotR (h.length + b) D], e]] (h ++ L) [.tu [.ag [rsl intR h.length (V.take n), apS dotR (h.length + 1) D], e]] (h ++ [resB intR true (V.take n), resB dotR true D]) := by
 have s1 : Bt Tryz.prog h.length [.tu [.ag [cutS (rsl intR (h.length + a) V) n, apS dotR (h.length + b) D], e]] (h ++ L) [.tu [.ag [cutS (rsl intR (h.length + 0) V) n, apS dotR (h.length + 1) D], e]] (h ++ [resB intR true V, resB dotR true D]) := by
  refine Bt.sel [a, b] hh (by simp [hab]) (by simp only [BlkSel, ha, hb, BWk_resB, Option.some.injEq, exists_eq_left', and_true]) ?_
  refine ⟨.inr ⟨?_, ?_⟩, trivial⟩
  ·simp only [AV.ok, okL, Bool.and_eq_true, Bool.and_true]
   exact ⟨⟨cutS_okr _ _ _ (by simp), apS_ok _ _ _ (by simp)⟩, he⟩
  ·simp only [AV.ren, renL, cutS_ren, apS_ren, hre]
   rw [selN_new, selN_new]
   exact Wk.refl _
 refine s1.trans ?_
 have s2 := Bt.take (P := Tryz.prog) (p := h.length) (fr := [.tu [.ag [cutS (rsl intR (h.length + 0) V) n, apS dotR (h.length + 1) D], e]]) (h := h ++ [resB intR true V, resB dotR true D]) (i := h.length + 0) (n := n) (m := true) (l := V) (by rw [own_at']; rfl) hn
 rw [List.set_append_right _ _ (by omega), Nat.add_sub_cancel_left] at s2
 refine s2.trans (Bt.wk ⟨?_, trivial⟩)
 intro ρ c hv
 cases hv with
 | tu l cs hl hv =>
  refine .tu _ cs hl fun j x c hx hc => ?_
  match j, hx with
  | 0, hx =>
   cases hx
   have h0 := hv 0 _ c rfl hc
   cases h0 with
   | ag l2 cs2 hl2 hv2 =>
    refine .ag _ cs2 hl2 fun j x c hx hc => ?_
    match j, hx with
    | 0, hx => cases hx; exact cutS_wk (r := intR) _ hn _ _ (hv2 0 _ c rfl hc)
    | 1, hx => cases hx; exact hv2 1 _ c rfl hc
  | 1, hx => cases hx; exact hv 1 _ c rfl hc
theorem leaf_ap {h : List AB} {H : List AB} {V : AV} {id : Nat} {D : Dots} {e : AV} : Bt Tryz.prog h.length [.tu [.ag [V, apS dotR id D], e]] H [.tu [.ag [V, rsl dotR id D], e]] H := Bt.wk ⟨by
 intro ρ c hv
 cases hv with
 | tu l cs hl hv =>
  refine .tu _ cs hl fun j x c hx hc => ?_
  match j, hx with
  | 0, hx =>
   cases hx
   have h0 := hv 0 _ c rfl hc
   cases h0 with
   | ag l2 cs2 hl2 hv2 =>
    refine .ag _ cs2 hl2 fun j x c hx hc => ?_
    match j, hx with
    | 0, hx => cases hx; exact hv2 0 _ c rfl hc
    | 1, hx => cases hx; exact apS_wk (r := dotR) _ _ _ _ (hv2 1 _ c rfl hc)
  | 1, hx => cases hx; exact hv 1 _ c rfl hc, trivial⟩
theorem leaf_cut {h L : List AB} {a b : Nat} {V : List Int} {D : Dots} {e : AV} {n : Nat} (hh : HOk h) (hn : n ≤ V.length) (he : e.ok (fun i => decide (i < h.length + 2)) = true) (hre : ∀ f, e.ren f = e) (hab : a ≠ b) (ha : L[a]? = some (resB intR true V)) (hb : L[b]? = some (resB dotR true D)) :
  Bt Tryz.prog h.length [.tu [.ag [cutS (rsl intR (h.length + a) V) n, apS dotR (h.length + b) D], e]] (h ++ L) [.tu [.ag [rsl intR h.length (V.take n), rsl dotR (h.length + 1) D], e]] (h ++ [resB intR true (V.take n), resB dotR true D]) := (leaf_cutA hh hn he hre hab ha hb).trans leaf_ap
theorem ranged_nil {v : List Int} {ds : Dots} (h : rangedP v ds) : (∀ n ∈ vjoin [] v, n ≤ 1048576) ∧ (vjoin [] v).length ≤ 16 ∧ (∀ r, vAt (vjoin [] v) r = vAt v r) := by
 refine ⟨fun n hn => ?_, by rw [vjoin_len]; have := h.1; simp; omega, fun r => ?_⟩
 ·simp only [vjoin, jn, List.mem_map, List.mem_range] at hn
  obtain ⟨i, _, rfl⟩ := hn
  rw [vAt_nil]
  have := vAt_le v (fun n hn => (h.2.1 n hn).2) ((i + 1 : Nat) : Int)
  omega
 ·rw [vAt_vjoin, vAt_nil]
  have := vAt_ge v r
  omega
theorem absR_len : ∀ (l : Dots) (s : AbS), (absR s l).1.length ≤ max s.1.length 16 ∧ (absR s l).2.length ≤ s.2.length + l.length
 | [], s => ⟨by simp only [absR, List.foldl_nil]; omega, by simp only [absR, List.foldl_nil]; omega⟩
 | d :: l, s => by
  have h1 := absD_len s d
  have h2 := absR_len l (absD s d)
  simp only [absR, List.foldl_cons, List.length_cons] at h2 ⊢
  omega
theorem cMake_spec (hS : Spec Tryz.prog 98 T_Sort) : Spec Tryz.prog 58 T_cMake := by
 intro args h v h' e
 unfold T_cMake at e
 split at e
 ·rename_i s t
  obtain ⟨vs, hs, e⟩ := getS_bind e
  obtain ⟨ds, ht, e⟩ := getS_bind e
  split at e
  ·rename_i hl
   by_cases hr : rangedP vs ds
   ·rw [if_pos hr] at e
    have gr : rangedP vs ds = True := eq_true hr
    obtain ⟨n1, n2, n3⟩ := ranged_nil hr
    have hfm := bld_fm (x := vjoin [] vs) (ds := ds) hr n2 (vjoin_pos [] vs) n3
    have l16 := hr.1
    have gd : ∀ d ∈ srtD ds, dottedP d := fun d hd => hr.2.2 d ((srtD_mem ds d).1 hd)
    have gc : ((vjoin [] vs).length ≤ 100000 ∧ (srtD ds).length ≤ 100000 ∧ (∀ n ∈ vjoin [] vs, n ≤ 1048576) ∧ ∀ d ∈ srtD ds, dottedP d) = True := eq_true ⟨by omega, by rw [srtD_len]; exact hl, n1, gd⟩
    have g1 : (ds.length ≤ 1000000) = True := eq_true (by omega)
    have g2 : (vs.length ≤ 1000000) = True := eq_true (by omega)
    have g3 : (ds.length ≤ maxLen) = True := eq_true (by unfold maxLen; omega)
    have g4 : ((srtD ds).length ≤ maxLen) = True := eq_true (by rw [srtD_len]; unfold maxLen; omega)
    have g5 : ((vjoin [] vs).length ≤ maxLen) = True := eq_true (by unfold maxLen; omega)
    have hfm1 : (fmO vs ds).1 = (absR (vjoin [] vs, []) (srtD ds)).1.take (topI (absR (vjoin [] vs, []) (srtD ds)).1 (absR (vjoin [] vs, []) (srtD ds)).1.length) := by
     rw [← hfm]
     exact trimV_top _ _ (Nat.le_refl _)
    have hfm2 : (fmO vs ds).2 = (absR (vjoin [] vs, []) (srtD ds)).2 := by rw [← hfm]; rfl
    have htr := trimV_top (absR (vjoin [] vs, []) (srtD ds)).1 (absR (vjoin [] vs, []) (srtD ds)).1.length (Nat.le_refl _)
    have hti := topI_le (absR (vjoin [] vs, []) (srtD ds)).1 (absR (vjoin [] vs, []) (srtD ds)).1.length
    rw [hfm1, hfm2] at e
    have g0 : (([] : List Int).length ≤ 1000000) = True := eq_true (Nat.zero_le _)
    have gsr : ∀ id, rsl dotR id ds = rsl dotR id (srtD ds) := fun id => by unfold rsl; rw [srtD_len]
    have gA : ((absR (vjoin [] vs, []) (srtD ds)).1.length ≤ maxLen) = True := eq_true (by have := (absR_len (srtD ds) (vjoin [] vs, [])).1; simp only at this; unfold maxLen; omega)
    have gB : ((absR (vjoin [] vs, []) (srtD ds)).2.length ≤ maxLen) = True := eq_true (by have := (absR_len (srtD ds) (vjoin [] vs, [])).2; rw [srtD_len] at this; simp only [List.length_nil] at this; unfold maxLen; omega)
    have hlen : (trimV (absR (vjoin [] vs, []) (srtD ds)).1 (absR (vjoin [] vs, []) (srtD ds)).1.length).length = topI (absR (vjoin [] vs, []) (srtD ds)).1 (absR (vjoin [] vs, []) (srtD ds)).1.length := by
     rw [htr, List.length_take]
     omega
    have FA : FnAt Tryz.prog 58 [s, t] h v h' := by
     refine FnAt.run (by kernel_rfl) (T := ⟨[⟨96, T_ranged, fun _ => []⟩, ⟨97, T_CloneDots, fun _ => []⟩, ⟨98, T_Sort, fun _ => []⟩, ⟨83, T_first, fun _ => []⟩, ⟨84, T_dots, fun _ => []⟩, ⟨85, T_trimmed, fun _ => []⟩, ⟨86, T_done, fun _ => []⟩], []⟩) ⟨⟨ranged_spec, CloneDots_spec, hS, first_spec, dots_spec, trimmed_spec, done_spec, trivial⟩, trivial⟩ Tryz.func58 sw58 fun ho hh => ?_
     simp only [okL_cons, ok_ag, Bool.and_eq_true] at ho
     have f1 := hs.fx ho.1 (sz := 1) rfl
     have f2 := ht.fx ho.2.1 (sz := 2) rfl
     unfold w58
     by_cases hq : (absR (vjoin [] vs, []) (srtD ds)).1 = vjoin [] vs
     ·have gq := eq_true hq
      simp only [rep_0, rep_s, walkW, walkX, if_true, if_false, reduceIte, Nat.reduceAdd, Nat.reduceSub, Nat.reduceLeDiff, Nat.reduceEqDiff, Nat.reduceMul, Nat.reduceLT, Int.reduceLT, Int.reduceLE, Int.reduceEq, f1, f2, T_ranged, gr, T_CloneDots, T_Sort, T_first, g1, g2, g3, g4, g5, gc, gq, gA, gB, g0, boxOf_own, boxL_0, boxL_s, bx2_own, own_at', idOf_rsl, rsl_isSl, apS_isSl, AV.isNs, rsl_capOk, nsSl, cutS_rsl]
      simp only [walkW, walkX, if_true, if_false, reduceIte, Nat.reduceAdd, Nat.reduceSub, Nat.reduceLeDiff, Nat.reduceEqDiff, Nat.reduceMul, Nat.reduceLT, Int.reduceLT, Int.reduceLE, Int.reduceEq, gsr, T_dots, T_trimmed, T_done, g1, g2, g3, g4, g5, gc, gq, gA, gB, boxOf_own, boxL_0, boxL_s, bx2_own, own_at', idOf_rsl, rsl_isSl, apS_isSl, AV.isNs, rsl_capOk, nsSl, cutS_rsl]
      refine ⟨fun q => q.elim, ?_⟩
      by_cases h6 : (fmO vs ds).2.length ≤ 4096
      ·have g6 : ((4096 : Int) < ((absR (vjoin [] vs, []) (srtD ds)).2.length : Int)) = False := eq_false (by rw [← hfm2]; omega)
       rw [hfm2] at h6
       rw [if_pos h6] at e
       cases e
       simp only [walkW, walkX, if_true, if_false, reduceIte, Nat.reduceAdd, Nat.reduceSub, Nat.reduceLeDiff, Nat.reduceEqDiff, Nat.reduceMul, Nat.reduceLT, Int.reduceLT, Int.reduceLE, Int.reduceEq, g6, cutS_one, cutS_cells, cutS_known]
       rw [hq] at hlen hti ⊢
       rw [hlen]
       refine leaf_cut (a := 3) (b := 4) hh hti ?_ (fun _ => ?_) (by decide) ?_ ?_ <;> rfl
      ·have g6 : ((4096 : Int) < ((absR (vjoin [] vs, []) (srtD ds)).2.length : Int)) = True := eq_true (by rw [← hfm2]; omega)
       rw [hfm2] at h6
       rw [if_neg h6] at e
       cases e
       simp only [walkW, walkX, if_true, if_false, reduceIte, Nat.reduceAdd, Nat.reduceSub, Nat.reduceLeDiff, Nat.reduceEqDiff, Nat.reduceMul, Nat.reduceLT, Int.reduceLT, Int.reduceLE, Int.reduceEq, g6, cutS_one, cutS_cells, cutS_known]
       exact Bt.drop _ hh rfl (by simp [AV.ok, okL])
     ·have gq := eq_false hq
      simp only [rep_0, rep_s, walkW, walkX, if_true, if_false, reduceIte, Nat.reduceAdd, Nat.reduceSub, Nat.reduceLeDiff, Nat.reduceEqDiff, Nat.reduceMul, Nat.reduceLT, Int.reduceLT, Int.reduceLE, Int.reduceEq, f1, f2, T_ranged, gr, T_CloneDots, T_Sort, T_first, g1, g2, g3, g4, g5, gc, gq, gA, gB, g0, boxOf_own, boxL_0, boxL_s, bx2_own, own_at', idOf_rsl, rsl_isSl, apS_isSl, AV.isNs, rsl_capOk, nsSl, cutS_rsl]
      simp only [walkW, walkX, if_true, if_false, reduceIte, Nat.reduceAdd, Nat.reduceSub, Nat.reduceLeDiff, Nat.reduceEqDiff, Nat.reduceMul, Nat.reduceLT, Int.reduceLT, Int.reduceLE, Int.reduceEq, gsr, T_dots, T_trimmed, T_done, g1, g2, g3, g4, g5, gc, gq, gA, gB, boxOf_own, boxL_0, boxL_s, bx2_own, own_at', idOf_rsl, rsl_isSl, apS_isSl, AV.isNs, rsl_capOk, nsSl, cutS_rsl]
      refine ⟨fun q => q.elim, ?_⟩
      by_cases h6 : (fmO vs ds).2.length ≤ 4096
      ·have g6 : ((4096 : Int) < ((absR (vjoin [] vs, []) (srtD ds)).2.length : Int)) = False := eq_false (by rw [← hfm2]; omega)
       rw [hfm2] at h6
       rw [if_pos h6] at e
       cases e
       simp only [walkW, walkX, if_true, if_false, reduceIte, Nat.reduceAdd, Nat.reduceSub, Nat.reduceLeDiff, Nat.reduceEqDiff, Nat.reduceMul, Nat.reduceLT, Int.reduceLT, Int.reduceLE, Int.reduceEq, g6, cutS_one, cutS_cells, cutS_known]
       rw [hlen]
       refine leaf_cut (a := 4) (b := 5) hh hti ?_ (fun _ => ?_) (by decide) ?_ ?_ <;> rfl
      ·have g6 : ((4096 : Int) < ((absR (vjoin [] vs, []) (srtD ds)).2.length : Int)) = True := eq_true (by rw [← hfm2]; omega)
       rw [hfm2] at h6
       rw [if_neg h6] at e
       cases e
       simp only [walkW, walkX, if_true, if_false, reduceIte, Nat.reduceAdd, Nat.reduceSub, Nat.reduceLeDiff, Nat.reduceEqDiff, Nat.reduceMul, Nat.reduceLT, Int.reduceLT, Int.reduceLE, Int.reduceEq, g6, cutS_one, cutS_cells, cutS_known]
       exact Bt.drop _ hh rfl (by simp [AV.ok, okL])
    exact FA.c
   ·rw [if_neg hr] at e
    have gr : rangedP vs ds = False := eq_false hr
    cases e
    refine FnAt.c (FnAt.run (by kernel_rfl) (T := ⟨[⟨96, T_ranged, fun _ => []⟩], []⟩) ⟨⟨ranged_spec, trivial⟩, trivial⟩ Tryz.func58 sw58 fun ho hh => ?_)
    simp only [okL_cons, ok_ag, Bool.and_eq_true] at ho
    have f1 := hs.fx ho.1 (sz := 1) rfl
    have f2 := ht.fx ho.2.1 (sz := 2) rfl
    unfold w58
    simp only [rep_0, rep_s, walkW, walkX, if_true, if_false, reduceIte, Nat.reduceAdd, Nat.reduceSub, Nat.reduceLeDiff, Nat.reduceEqDiff, Nat.reduceMul, Nat.reduceLT, Int.reduceLT, Int.reduceLE, Int.reduceEq, f1, f2, T_ranged, gr]
    exact ⟨Bt.drop _ hh rfl (by simp [AV.ok, okL]), fun q => q⟩
  ·cases e
 ·cases e
end Go.Proofs.YtcncpbcbedfakaaGreat
end
section
namespace Go.Proofs.YtcncpbcbedfakaaGreat
set_option maxRecDepth 100000
set_option maxHeartbeats 4000000
set_option linter.unusedSimpArgs false
section
variable {P : Program} {h : List AB} {id n : Nat}
end
theorem HOk_dead {h : List AB} (hh : HOk h) (i : Nat) : HOk (h.set i .dead) := by
 intro j B hB
 rw [List.length_set]
 rw [List.getElem?_set] at hB
 split at hB
 ·split at hB
  ·cases hB
   rfl
  ·cases hB
 ·exact hh j B hB
end Go.Proofs.YtcncpbcbedfakaaGreat
end
section
namespace Go.Proofs.YtcncpbcbedfakaaGreat
set_option maxRecDepth 100000
set_option maxHeartbeats 4000000
set_option linter.unusedSimpArgs false
def rAt (v : List Int) (r : Int) : Int := if r < 1 ∨ (v.length : Int) < r then 0 else v.getD (r - 1).toNat 0
noncomputable def T_rfirst : List AV → List AB → Option (AV × List AB)
 | [.ag [s, t], .i .i64 r], h => (getS intR h s).bind fun v => (getS dotR h t).bind fun _ => some (.i .i64 (rAt v r), h)
 | _, _ => none
def rhasP (v : List Int) (ds : Dots) (d : Int × Int) : Prop := (1 ≤ d.2 ∧ d.2 ≤ rAt v d.1) ∨ d ∈ ds
instance (v : List Int) (ds : Dots) (d : Int × Int) : Decidable (rhasP v ds d) := by unfold rhasP; infer_instance
noncomputable def T_rhas : List AV → List AB → Option (AV × List AB)
 | [.ag [s, t], .ag [.i .i64 a, .i .i64 b]], h => (getS intR h s).bind fun v => (getS dotR h t).bind fun ds => some (.b (decide (rhasP v ds (a, b))), h)
 | _, _ => none
noncomputable def T_rHas : List AV → List AB → Option (AV × List AB)
 | [.ag [s, t], .ag [.i .i64 a, .i .i64 b]], h => (getS intR h s).bind fun v => (getS dotR h t).bind fun ds => some (.b (decide (checkR v ds = 0 ∧ rhasP v ds (a, b))), h)
 | _, _ => none
end Go.Proofs.YtcncpbcbedfakaaGreat
end
section
namespace Go.Proofs.YtcncpbcbedfakaaGreat
set_option maxRecDepth 100000
set_option maxHeartbeats 4000000
set_option linter.unusedSimpArgs false
def maxR (v : List Int) (ds : Dots) (r : Int) : Nat → Int
 | 0 => rAt v r
 | i + 1 => if (ds.getD i dotR.d).1 = r then max (maxR v ds r i) (ds.getD i dotR.d).2 else maxR v ds r i
def nextR (v : List Int) (ds : Dots) (r : Int) : (Int × Int) × Int :=
 if checkR v ds ≠ 0 then ((0, 0), checkR v ds) else if r < 1 ∨ 16 < r then ((0, 0), 3)
 else if maxR v ds r ds.length = 1048576 then ((0, 0), 10) else ((r, maxR v ds r ds.length + 1), 0)
theorem rAt_bd (v : List Int) (h : ∀ n ∈ v, 0 ≤ n ∧ n ≤ 1048576) (r : Int) : 0 ≤ rAt v r ∧ rAt v r ≤ 1048576 := by
 unfold rAt
 split
 ·omega
 ·rw [List.getD_eq_getElem?_getD]
  cases e : v[(r - 1).toNat]? with
  | none => simp
  | some x => exact h x (List.mem_of_getElem? e)
theorem maxR_bd (v : List Int) (ds : Dots) (h : rangedP v ds) (r : Int) : ∀ i, i ≤ ds.length → 0 ≤ maxR v ds r i ∧ maxR v ds r i ≤ 1048576
 | 0, _ => rAt_bd v h.2.1 r
 | i + 1, hi => by
  have h1 := maxR_bd v ds h r i (Nat.le_of_succ_le hi)
  have h2 := h.2.2 (ds.getD i dotR.d) (by rw [List.getD_eq_getElem?_getD, List.getElem?_eq_getElem hi]; exact List.getElem_mem hi)
  obtain ⟨_, _, h3, h4⟩ := h2
  unfold maxR
  split <;> omega
noncomputable def T_rNext : List AV → List AB → Option (AV × List AB)
 | [.ag [s, t], .i .i64 r], h => (getS intR h s).bind fun v => (getS dotR h t).bind fun ds => some (.tu [.ag [.i .i64 (nextR v ds r).1.1, .i .i64 (nextR v ds r).1.2], .i .i64 (nextR v ds r).2], h)
 | _, _ => none
end Go.Proofs.YtcncpbcbedfakaaGreat
end
section
namespace Go.Proofs.YtcncpbcbedfakaaGreat
set_option maxRecDepth 100000
set_option maxHeartbeats 4000000
set_option linter.unusedSimpArgs false
def joinL (v v' : List Int) (n : Nat) : List Int := (List.range n).map fun i => max (rAt v ((i + 1 : Nat) : Int)) (rAt v' ((i + 1 : Nat) : Int))
theorem joinL_len (v v' : List Int) (n : Nat) : (joinL v v' n).length = n := by simp [joinL]
theorem joinL_bd (v v' : List Int) (h : ∀ n ∈ v, 0 ≤ n ∧ n ≤ 1048576) (h' : ∀ n ∈ v', 0 ≤ n ∧ n ≤ 1048576) (n : Nat) : ∀ x ∈ joinL v v' n, 0 ≤ x ∧ x ≤ 1048576 := fun x hx => by
 obtain ⟨i, -, rfl⟩ := List.mem_map.1 hx
 have h1 := rAt_bd v h ((i + 1 : Nat) : Int)
 have h2 := rAt_bd v' h' ((i + 1 : Nat) : Int)
 omega
theorem joinL_ranged {v v' : List Int} {ds ds' : Dots} (h : rangedP v ds) (h' : rangedP v' ds') : rangedP (joinL v v' 16) (ds ++ ds') :=
 ⟨by rw [joinL_len]; omega, joinL_bd v v' h.2.1 h'.2.1 16, fun d hd => (List.mem_append.1 hd).elim (h.2.2 d) (h'.2.2 d)⟩
end Go.Proofs.YtcncpbcbedfakaaGreat
end
section
namespace Go.Proofs.YtcncpbcbedfakaaGreat
set_option maxRecDepth 100000
set_option maxHeartbeats 4000000
set_option linter.unusedSimpArgs false
noncomputable def T_SameHelds : List AV → List AB → Option (AV × List AB)
 | [a, b], h => (getS heldR h a).bind fun xs => (getS heldR h b).bind fun ys => some (.b (decide (xs = ys)), h)
 | _, _ => none
theorem SameHelds_spec : Spec Tryz.prog 42 T_SameHelds := by
 intro args h v h' e
 unfold T_SameHelds at e
 split at e
 ·rename_i a b
  obtain ⟨xs, ha, e⟩ := getS_bind e
  obtain ⟨ys, hb, e⟩ := getS_bind e
  cases e
  refine FnAt.c (FnAt.frz0 fun hz => ?_)
  replace ha := ha.frz
  replace hb := hb.frz
  generalize h.map AB.freeze = h at *
  refine FnAt.run (by kernel_rfl) (T := ⟨[], []⟩) ⟨trivial, trivial⟩ Tryz.func42 sw42 fun ho hh => ?_
  simp only [okL_cons, Bool.and_eq_true] at ho
  have fa := ha.fx ho.1 (sz := 34) rfl
  have fb := hb.fx ho.2.1 (sz := 34) rfl
  unfold w42
  simp only [rep_0, rep_s, walkW, walkX, if_true, if_false, reduceIte, Nat.reduceAdd, Nat.reduceSub, Nat.reduceLeDiff, Nat.reduceEqDiff, Nat.reduceMul, Nat.reduceLT, Int.reduceLT, Int.reduceLE, Int.reduceEq, fa, fb]
  refine W_loopF (S := Nat) (fun i => xs.length - i) (fun i => [a, b] ++ tp 3 ++ [.b (decide (xs.length = ys.length ∧ xs.take i = ys.take i)), .i .i64 i] ++ tp 24) (fun i => xs.length = ys.length → i ≤ xs.length) 0 (fun _ => Nat.zero_le _) (by simp only [walkW, walkX, if_true, if_false, reduceIte, Nat.reduceAdd, Nat.reduceSub, Nat.reduceLeDiff, Nat.reduceEqDiff, Nat.reduceMul, Nat.reduceLT, Int.reduceLT, Int.reduceLE, Int.reduceEq, List.take_zero]) fun i hi => ?_
  simp only [walkW, walkX, if_true, if_false, reduceIte, Nat.reduceAdd, Nat.reduceSub, Nat.reduceLeDiff, Nat.reduceEqDiff, Nat.reduceMul, Nat.reduceLT, Int.reduceLT, Int.reduceLE, Int.reduceEq, fa, fb]
  refine ⟨fun h1 => ⟨fun h2 => ?_, fun h2 => ?_⟩, fun h1 => ?_⟩
  ·have h3 : i < ys.length := by omega
   have e1 : IntKind.i64.wrap ((i : Int) + 1) = ((i + 1 : Nat) : Int) := wrap_in (by have := ha.2; unfold maxLen at this; unfold In64; omega)
   simp only [walkW, walkQ, walkX, if_true, if_false, ↓reduceIte, Nat.reduceAdd, Nat.reduceSub, Nat.reduceLeDiff, Nat.reduceEqDiff, Nat.reduceMul, Nat.reduceLT, Int.reduceLT, Int.reduceLE, Int.reduceEq, CO.tmps, Opd.tmps, optT, Nat.reducePow, Nat.reduceDiv, Nat.reduceMod, fa, fb, h2, h3, eqc_held, held_ok, Nat.zero_lt_one, e1]
   refine ⟨i + 1, fun _ => h2, by omega, ?_, Wk.refl _⟩
   have e2 : (xs.length = ys.length ∧ xs.take (i + 1) = ys.take (i + 1)) = (xs.getD i heldR.d = ys.getD i heldR.d) := propext (by rw [and_iff_right h1.1]; exact take_both _ h2 h3 h1.2)
   simp only [e2, Wk_refl]
  ·exact Bt.eq (by simp only [AV.b.injEq, decide_eq_decide]; exact take_all (by omega)) (List.append_nil h)
  ·exact Bt.eq (by simp only [AV.b.injEq, decide_eq_decide]; exact iff_of_false h1 (take_not h1)) (List.append_nil h)
 ·cases e
noncomputable def T_SameIDs : List AV → List AB → Option (AV × List AB)
 | [a, b], h => (getS idR h a).bind fun xs => (getS idR h b).bind fun ys => some (.b (decide (xs = ys)), h)
 | _, _ => none
theorem SameIDs_spec : Spec Tryz.prog 23 T_SameIDs := by
 intro args h v h' e
 unfold T_SameIDs at e
 split at e
 ·rename_i a b
  obtain ⟨xs, ha, e⟩ := getS_bind e
  obtain ⟨ys, hb, e⟩ := getS_bind e
  cases e
  refine FnAt.c (FnAt.frz0 fun hz => ?_)
  replace ha := ha.frz
  replace hb := hb.frz
  generalize h.map AB.freeze = h at *
  refine FnAt.run (by kernel_rfl) (T := ⟨[], []⟩) ⟨trivial, trivial⟩ Tryz.func23 sw23 fun ho hh => ?_
  simp only [okL_cons, Bool.and_eq_true] at ho
  have fa := ha.fx ho.1 (sz := 32) rfl
  have fb := hb.fx ho.2.1 (sz := 32) rfl
  unfold w23
  simp only [rep_0, rep_s, walkW, walkX, if_true, if_false, reduceIte, Nat.reduceAdd, Nat.reduceSub, Nat.reduceLeDiff, Nat.reduceEqDiff, Nat.reduceMul, Nat.reduceLT, Int.reduceLT, Int.reduceLE, Int.reduceEq, fa, fb]
  refine W_loopF (S := Nat) (fun i => xs.length - i) (fun i => [a, b] ++ tp 3 ++ [.b (decide (xs.length = ys.length ∧ xs.take i = ys.take i)), .i .i64 i] ++ tp 24) (fun i => xs.length = ys.length → i ≤ xs.length) 0 (fun _ => Nat.zero_le _) (by simp only [walkW, walkX, if_true, if_false, reduceIte, Nat.reduceAdd, Nat.reduceSub, Nat.reduceLeDiff, Nat.reduceEqDiff, Nat.reduceMul, Nat.reduceLT, Int.reduceLT, Int.reduceLE, Int.reduceEq, List.take_zero]) fun i hi => ?_
  simp only [walkW, walkX, if_true, if_false, reduceIte, Nat.reduceAdd, Nat.reduceSub, Nat.reduceLeDiff, Nat.reduceEqDiff, Nat.reduceMul, Nat.reduceLT, Int.reduceLT, Int.reduceLE, Int.reduceEq, fa, fb]
  refine ⟨fun h1 => ⟨fun h2 => ?_, fun h2 => ?_⟩, fun h1 => ?_⟩
  ·have h3 : i < ys.length := by omega
   have e1 : IntKind.i64.wrap ((i : Int) + 1) = ((i + 1 : Nat) : Int) := wrap_in (by have := ha.2; unfold maxLen at this; unfold In64; omega)
   simp only [walkW, walkQ, walkX, if_true, if_false, ↓reduceIte, Nat.reduceAdd, Nat.reduceSub, Nat.reduceLeDiff, Nat.reduceEqDiff, Nat.reduceMul, Nat.reduceLT, Int.reduceLT, Int.reduceLE, Int.reduceEq, CO.tmps, Opd.tmps, optT, Nat.reducePow, Nat.reduceDiv, Nat.reduceMod, fa, fb, h2, h3, eqc_id, id_ok, Nat.zero_lt_one, e1]
   refine ⟨i + 1, fun _ => h2, by omega, ?_, Wk.refl _⟩
   have e2 : (xs.length = ys.length ∧ xs.take (i + 1) = ys.take (i + 1)) = (xs.getD i idR.d = ys.getD i idR.d) := propext (by rw [and_iff_right h1.1]; exact take_both _ h2 h3 h1.2)
   simp only [e2, Wk_refl]
  ·exact Bt.eq (by simp only [AV.b.injEq, decide_eq_decide]; exact take_all (by omega)) (List.append_nil h)
  ·exact Bt.eq (by simp only [AV.b.injEq, decide_eq_decide]; exact iff_of_false h1 (take_not h1)) (List.append_nil h)
 ·cases e
noncomputable def T_SameReg : List AV → List AB → Option (AV × List AB)
 | [.ag [l, v, d], .ag [l', v', d']], h => (getS heldR h l).bind fun hs => (getS intR h v).bind fun xs => (getS dotR h d).bind fun ds => (getS heldR h l').bind fun hs' => (getS intR h v').bind fun xs' => (getS dotR h d').bind fun ds' =>
   some (.b (decide (hs = hs' ∧ xs = xs' ∧ ds = ds')), h)
 | _, _ => none
noncomputable def T_CopyReg : List AV → List AB → Option (AV × List AB)
 | [.ag [l, v, d]], h => (getS heldR h l).bind fun hs => (getS intR h v).bind fun xs => (getS dotR h d).bind fun ds => if hs.length ≤ 1000000 ∧ xs.length ≤ 1000000 ∧ ds.length ≤ 1000000 then
   some (.ag [rsl heldR h.length hs, rsl intR (h.length + 1) xs, rsl dotR (h.length + 2) ds], h ++ [resB heldR true hs, resB intR true xs, resB dotR true ds]) else none
 | _, _ => none
noncomputable def T_LongReg : List AV → List AB → Option (AV × List AB)
 | [.ag [l, s, t]], h => (getS heldR h l).bind fun hs => (getS intR h s).bind fun v => (getS dotR h t).bind fun ds => some (.b (decide (20 < hs.length ∨ 20 < v.length ∨ 30 < ds.length)), h)
 | _, _ => none
end Go.Proofs.YtcncpbcbedfakaaGreat
end
section
namespace Go.Proofs.YtcncpbcbedfakaaGreat
set_option maxRecDepth 100000
set_option maxHeartbeats 4000000
set_option linter.unusedSimpArgs false
theorem SameReg_spec : Spec Tryz.prog 14 T_SameReg := by
 intro args h v h' e
 unfold T_SameReg at e
 split at e
 ·rename_i l s t l' s' t'
  obtain ⟨hs, hl, e⟩ := getS_bind e
  obtain ⟨xs, hv, e⟩ := getS_bind e
  obtain ⟨ds, hd, e⟩ := getS_bind e
  obtain ⟨hs', hl', e⟩ := getS_bind e
  obtain ⟨xs', hv', e⟩ := getS_bind e
  obtain ⟨ds', hd', e⟩ := getS_bind e
  cases e
  refine FnAt.c (FnAt.run (by kernel_rfl) (T := ⟨[⟨42, T_SameHelds, fun _ => []⟩, ⟨30, T_SameCloud, fun _ => []⟩], []⟩) ⟨⟨SameHelds_spec, SameCloud_spec, trivial⟩, trivial⟩ Tryz.func14 sw14 fun ho hh => ?_)
  simp only [okL_cons, ok_ag, Bool.and_eq_true] at ho
  have f1 := hl.fx ho.1.1 (sz := 34) rfl
  have f2 := hv.fx ho.1.2.1 (sz := 1) rfl
  have f3 := hd.fx ho.1.2.2.1 (sz := 2) rfl
  have f4 := hl'.fx ho.2.1.1 (sz := 34) rfl
  have f5 := hv'.fx ho.2.1.2.1 (sz := 1) rfl
  have f6 := hd'.fx ho.2.1.2.2.1 (sz := 2) rfl
  unfold w14
  simp only [rep_0, rep_s, walkW, walkQ, walkX, if_true, if_false, ↓reduceIte, Nat.reduceAdd, Nat.reduceSub, Nat.reduceLeDiff, Nat.reduceEqDiff, Nat.reduceMul, Nat.reduceLT, Int.reduceLT, Int.reduceLE, Int.reduceEq, CO.tmps, Opd.tmps, optT, Nat.reducePow, Nat.reduceDiv, Nat.reduceMod, f1, f2, f3, f4, f5, f6, T_SameHelds, T_SameCloud]
  refine ⟨fun h1 => Bt.dropB _ hh (by simp [h1]), fun h1 => Bt.dropB _ hh (by simp [h1])⟩
 ·cases e
theorem LongReg_spec : Spec Tryz.prog 9 T_LongReg := by
 intro args h v h' e
 unfold T_LongReg at e
 split at e
 ·rename_i l s t
  obtain ⟨hs, hl, e⟩ := getS_bind e
  obtain ⟨xs, hv, e⟩ := getS_bind e
  obtain ⟨ds, hd, e⟩ := getS_bind e
  cases e
  refine FnAt.c (FnAt.run (by kernel_rfl) (T := ⟨[⟨16, T_Long, fun _ => []⟩], []⟩) ⟨⟨Long_spec, trivial⟩, trivial⟩ Tryz.func9 sw9 fun ho hh => ?_)
  simp only [okL_cons, ok_ag, Bool.and_eq_true] at ho
  have f1 := hl.fx ho.1.1 (sz := 34) rfl
  have f2 := hv.fx ho.1.2.1 (sz := 1) rfl
  have f3 := hd.fx ho.1.2.2.1 (sz := 2) rfl
  unfold w9
  simp only [rep_0, rep_s, walkW, walkQ, walkX, if_true, if_false, ↓reduceIte, Nat.reduceAdd, Nat.reduceSub, Nat.reduceLeDiff, Nat.reduceEqDiff, Nat.reduceMul, Nat.reduceLT, Int.reduceLT, Int.reduceLE, Int.reduceEq, CO.tmps, Opd.tmps, optT, Nat.reducePow, Nat.reduceDiv, Nat.reduceMod, f1, f2, f3, T_Long]
  refine ⟨fun q => Bt.dropB _ hh (decide_eq_true (.inl (by omega))).symm, fun q => Bt.dropB _ hh (decide_eq_decide.2 ?_)⟩
  omega
 ·cases e
end Go.Proofs.YtcncpbcbedfakaaGreat
end
