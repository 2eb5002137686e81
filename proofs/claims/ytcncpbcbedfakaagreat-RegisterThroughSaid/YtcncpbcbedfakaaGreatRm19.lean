/- Part 19 of what the laws' proofs rest on. No condition. -/
import Derived.Test.YtcncpbcbedfakaaGreatRm18
set_option linter.all false
section
namespace Go.Proofs.YtcncpbcbedfakaaGreat
set_option maxRecDepth 100000
set_option maxHeartbeats 4000000
set_option linter.unusedSimpArgs false
open Classical in
noncomputable def T_Sort : List AV → List AB → Option (AV × List AB)
 | [s, .f (.func 99) [] []], h => (getS dotR h s).bind fun l => match idOf s with
   | [id] => if l.length ≤ 1000000 ∧ s = rsl dotR id l ∧ h[id]? = some (resB dotR true l) then some (.tu [], h.set id (resB dotR true (srtD l))) else none
   | _ => none
 | _, _ => none
def boxL : List AB → Nat → Option (AV × AV)
 | .blk false true [v, d] :: _, 0 => if v.isSl = true ∧ d.isSl = true then some (v, d) else none
 | _, 0 => none
 | [], _ => none
 | _ :: L, k + 1 => boxL L k
theorem boxL_0 (v d : AV) (L : List AB) : boxL (.blk false true [v, d] :: L) 0 = if v.isSl = true ∧ d.isSl = true then some (v, d) else none := _root_.id rfl
theorem boxL_s (B : AB) (L : List AB) (k : Nat) : boxL (B :: L) (k + 1) = boxL L k := by
 cases B with
 | blk fl m xs => cases fl <;> cases m <;> (match xs with | [] => rfl | [_] => rfl | [_, _] => rfl | _ :: _ :: _ :: _ => rfl)
 | _ => rfl
theorem boxL_eq : ∀ (L : List AB) (k : Nat), boxOf L k = boxL L k
 | [], k => by cases k <;> simp [boxOf, boxL]
 | B :: L, 0 => by
  unfold boxOf boxL
  simp only [List.getElem?_cons_zero]
  split <;> split <;> simp_all
 | B :: L, k + 1 => by
  rw [boxL_s, ← boxL_eq L k]
  unfold boxOf
  simp only [List.getElem?_cons_succ]
theorem boxOf_own (h L : List AB) (k : Nat) : boxOf (h ++ L) (h.length + k) = boxL L k := by
 rw [← boxL_eq]
 unfold boxOf
 rw [List.getElem?_append_right (by omega), Nat.add_sub_cancel_left]
theorem bx2_own (h L : List AB) (k : Nat) (v d : AV) : bx2 (h ++ L) (h.length + k) v d = h ++ L.set k (.blk false true [v, d]) := by
 unfold bx2
 rw [List.set_append_right _ _ (by omega), Nat.add_sub_cancel_left]
theorem own_at' (h L : List AB) (k : Nat) : (h ++ L)[h.length + k]? = L[k]? := by rw [List.getElem?_append_right (by omega), Nat.add_sub_cancel_left]
noncomputable def T_cMake : List AV → List AB → Option (AV × List AB)
 | [s, t], h => (getS intR h s).bind fun v => (getS dotR h t).bind fun ds => if ds.length ≤ 100000 then
   if rangedP v ds then
    if (fmO v ds).2.length ≤ 4096 then some (.tu [.ag [rsl intR h.length (fmO v ds).1, rsl dotR (h.length + 1) (fmO v ds).2], .i .i64 0], h ++ [resB intR true (fmO v ds).1, resB dotR true (fmO v ds).2])
    else some (.tu [.ag [.ns, .ns], .i .i64 10], h)
   else some (.tu [.ag [.ns, .ns], .i .i64 3], h)
  else none
 | _, _ => none
theorem leaf_cutA {h L : List AB} {a b : Nat} {V : List Int} {D : Dots} {e : AV} {n : Nat} (hh : HOk h) (hn : n ≤ V.length) (he : e.ok (fun i => decide (i < h.length + 2)) = true) (hre : ∀ f, e.ren f = e) (hab : a ≠ b) (ha : L[a]? = some (resB intR true V)) (hb : L[b]? = some (resB dotR true D)) :
  Bt Tryz.prog h.length [.tu [.ag [cutS (rsl intR (h.length + a) V) n, apS dotR (h.length + b) D], e]] (h ++ L) [.tu [.ag [rsl intR h.length (V.take n), apS dotR (h.length + 1) D], e]] (h ++ [resB intR true (V.take n), resB dotR true D]) := by
 have s1 : Bt Tryz.prog h.length [.tu [.ag [cutS (rsl intR (h.length + a) V) n, apS dotR (h.length + b) D], e]] (h ++ L) [.tu [.ag [cutS (rsl intR (h.length + 0) V) n, apS dotR (h.length + 1) D], e]] (h ++ [resB intR true V, resB dotR true D]) := by
  refine Bt.sel [a, b] hh (by simp [hab]) (by simp only [BlkSel, ha, hb, BWk_resB, Option.some.injEq, exists_eq_left', and_true]) ?_
  refine ⟨.inr ⟨?_, ?_⟩, trivial⟩
  ·simp only [AV.ok, okL, Bool.and_eq_true, Bool.and_true]
   exact ⟨⟨cutS_okr _ _ _ (by simp), apS_ok _ _ _ (by simp)⟩, he⟩
  ·simp only [AV.ren, renL, cutS_ren, apS_ren, hre]
   rw [selN_new, selN_new]
   exact Wk.refl _
 refine s1.trans ?_
 have s2 := Bt.take (P := Tryz.prog) (p := h.length) (fr := [.tu [.ag [cutS (rsl intR (h.length + 0) V) n, apS dotR (h.length + 1) D], e]]) (h := h ++ [resB intR true V, resB dotR true D]) (i := h.length + 0) (n := n) (m := true) (l := V) (by rw [own_at']; rfl) hn
 rw [List.set_append_right _ _ (by omega), Nat.add_sub_cancel_left] at s2
 refine s2.trans (Bt.wk ⟨?_, trivial⟩)
 intro ρ c hv
 cases hv with
 | tu l cs hl hv =>
  refine .tu _ cs hl fun j x c hx hc => ?_
  match j, hx with
  | 0, hx =>
   cases hx
   have h0 := hv 0 _ c rfl hc
   cases h0 with
   | ag l2 cs2 hl2 hv2 =>
    refine .ag _ cs2 hl2 fun j x c hx hc => ?_
    match j, hx with
    | 0, hx => cases hx; exact cutS_wk (r := intR) _ hn _ _ (hv2 0 _ c rfl hc)
    | 1, hx => cases hx; exact hv2 1 _ c rfl hc
  | 1, hx => cases hx; exact hv 1 _ c rfl hc
theorem leaf_ap {h : List AB} {H : List AB} {V : AV} {id : Nat} {D : Dots} {e : AV} : Bt Tryz.prog h.length [.tu [.ag [V, apS dotR id D], e]] H [.tu [.ag [V, rsl dotR id D], e]] H := Bt.wk ⟨by
 intro ρ c hv
 cases hv with
 | tu l cs hl hv =>
  refine .tu _ cs hl fun j x c hx hc => ?_
  match j, hx with
  | 0, hx =>
   cases hx
   have h0 := hv 0 _ c rfl hc
   cases h0 with
   | ag l2 cs2 hl2 hv2 =>
    refine .ag _ cs2 hl2 fun j x c hx hc => ?_
    match j, hx with
    | 0, hx => cases hx; exact hv2 0 _ c rfl hc
    | 1, hx => cases hx; exact apS_wk (r := dotR) _ _ _ _ (hv2 1 _ c rfl hc)
  | 1, hx => cases hx; exact hv 1 _ c rfl hc, trivial⟩
theorem leaf_cut {h L : List AB} {a b : Nat} {V : List Int} {D : Dots} {e : AV} {n : Nat} (hh : HOk h) (hn : n ≤ V.length) (he : e.ok (fun i => decide (i < h.length + 2)) = true) (hre : ∀ f, e.ren f = e) (hab : a ≠ b) (ha : L[a]? = some (resB intR true V)) (hb : L[b]? = some (resB dotR true D)) :
  Bt Tryz.prog h.length [.tu [.ag [cutS (rsl intR (h.length + a) V) n, apS dotR (h.length + b) D], e]] (h ++ L) [.tu [.ag [rsl intR h.length (V.take n), rsl dotR (h.length + 1) D], e]] (h ++ [resB intR true (V.take n), resB dotR true D]) := (leaf_cutA hh hn he hre hab ha hb).trans leaf_ap
theorem ranged_nil {v : List Int} {ds : Dots} (h : rangedP v ds) : (∀ n ∈ vjoin [] v, n ≤ 1048576) ∧ (vjoin [] v).length ≤ 16 ∧ (∀ r, vAt (vjoin [] v) r = vAt v r) := by
 refine ⟨fun n hn => ?_, by rw [vjoin_len]; have := h.1; simp; omega, fun r => ?_⟩
 ·simp only [vjoin, jn, List.mem_map, List.mem_range] at hn
  obtain ⟨i, _, rfl⟩ := hn
  rw [vAt_nil]
  have := vAt_le v (fun n hn => (h.2.1 n hn).2) ((i + 1 : Nat) : Int)
  omega
 ·rw [vAt_vjoin, vAt_nil]
  have := vAt_ge v r
  omega
theorem absR_len : ∀ (l : Dots) (s : AbS), (absR s l).1.length ≤ max s.1.length 16 ∧ (absR s l).2.length ≤ s.2.length + l.length
 | [], s => ⟨by simp only [absR, List.foldl_nil]; omega, by simp only [absR, List.foldl_nil]; omega⟩
 | d :: l, s => by
  have h1 := absD_len s d
  have h2 := absR_len l (absD s d)
  simp only [absR, List.foldl_cons, List.length_cons] at h2 ⊢
  omega
theorem cMake_spec (hS : Spec Tryz.prog 98 T_Sort) : Spec Tryz.prog 58 T_cMake := by
 intro args h v h' e
 unfold T_cMake at e
 split at e
 ·rename_i s t
  obtain ⟨vs, hs, e⟩ := getS_bind e
  obtain ⟨ds, ht, e⟩ := getS_bind e
  split at e
  ·rename_i hl
   by_cases hr : rangedP vs ds
   ·rw [if_pos hr] at e
    have gr : rangedP vs ds = True := eq_true hr
    obtain ⟨n1, n2, n3⟩ := ranged_nil hr
    have hfm := bld_fm (x := vjoin [] vs) (ds := ds) hr n2 (vjoin_pos [] vs) n3
    have l16 := hr.1
    have gd : ∀ d ∈ srtD ds, dottedP d := fun d hd => hr.2.2 d ((srtD_mem ds d).1 hd)
    have gc : ((vjoin [] vs).length ≤ 100000 ∧ (srtD ds).length ≤ 100000 ∧ (∀ n ∈ vjoin [] vs, n ≤ 1048576) ∧ ∀ d ∈ srtD ds, dottedP d) = True := eq_true ⟨by omega, by rw [srtD_len]; exact hl, n1, gd⟩
    have g1 : (ds.length ≤ 1000000) = True := eq_true (by omega)
    have g2 : (vs.length ≤ 1000000) = True := eq_true (by omega)
    have g3 : (ds.length ≤ maxLen) = True := eq_true (by unfold maxLen; omega)
    have g4 : ((srtD ds).length ≤ maxLen) = True := eq_true (by rw [srtD_len]; unfold maxLen; omega)
    have g5 : ((vjoin [] vs).length ≤ maxLen) = True := eq_true (by unfold maxLen; omega)
    have hfm1 : (fmO vs ds).1 = (absR (vjoin [] vs, []) (srtD ds)).1.take (topI (absR (vjoin [] vs, []) (srtD ds)).1 (absR (vjoin [] vs, []) (srtD ds)).1.length) := by
     rw [← hfm]
     exact trimV_top _ _ (Nat.le_refl _)
    have hfm2 : (fmO vs ds).2 = (absR (vjoin [] vs, []) (srtD ds)).2 := by rw [← hfm]; rfl
    have htr := trimV_top (absR (vjoin [] vs, []) (srtD ds)).1 (absR (vjoin [] vs, []) (srtD ds)).1.length (Nat.le_refl _)
    have hti := topI_le (absR (vjoin [] vs, []) (srtD ds)).1 (absR (vjoin [] vs, []) (srtD ds)).1.length
    rw [hfm1, hfm2] at e
    have g0 : (([] : List Int).length ≤ 1000000) = True := eq_true (Nat.zero_le _)
    have gsr : ∀ id, rsl dotR id ds = rsl dotR id (srtD ds) := fun id => by unfold rsl; rw [srtD_len]
    have gA : ((absR (vjoin [] vs, []) (srtD ds)).1.length ≤ maxLen) = True := eq_true (by have := (absR_len (srtD ds) (vjoin [] vs, [])).1; simp only at this; unfold maxLen; omega)
    have gB : ((absR (vjoin [] vs, []) (srtD ds)).2.length ≤ maxLen) = True := eq_true (by have := (absR_len (srtD ds) (vjoin [] vs, [])).2; rw [srtD_len] at this; simp only [List.length_nil] at this; unfold maxLen; omega)
    have hlen : (trimV (absR (vjoin [] vs, []) (srtD ds)).1 (absR (vjoin [] vs, []) (srtD ds)).1.length).length = topI (absR (vjoin [] vs, []) (srtD ds)).1 (absR (vjoin [] vs, []) (srtD ds)).1.length := by
     rw [htr, List.length_take]
     omega
    have FA : FnAt Tryz.prog 58 [s, t] h v h' := by
     refine FnAt.run (by kernel_rfl) (T := ⟨[⟨96, T_ranged, fun _ => []⟩, ⟨97, T_CloneDots, fun _ => []⟩, ⟨98, T_Sort, fun _ => []⟩, ⟨83, T_first, fun _ => []⟩, ⟨84, T_dots, fun _ => []⟩, ⟨85, T_trimmed, fun _ => []⟩, ⟨86, T_done, fun _ => []⟩], []⟩) ⟨⟨ranged_spec, CloneDots_spec, hS, first_spec, dots_spec, trimmed_spec, done_spec, trivial⟩, trivial⟩ Tryz.func58 sw58 fun ho hh => ?_
     simp only [okL_cons, ok_ag, Bool.and_eq_true] at ho
     have f1 := hs.fx ho.1 (sz := 1) rfl
     have f2 := ht.fx ho.2.1 (sz := 2) rfl
     unfold w58
     by_cases hq : (absR (vjoin [] vs, []) (srtD ds)).1 = vjoin [] vs
     ·have gq := eq_true hq
      simp only [rep_0, rep_s, walkW, walkX, if_true, if_false, reduceIte, Nat.reduceAdd, Nat.reduceSub, Nat.reduceLeDiff, Nat.reduceEqDiff, Nat.reduceMul, Nat.reduceLT, Int.reduceLT, Int.reduceLE, Int.reduceEq, f1, f2, T_ranged, gr, T_CloneDots, T_Sort, T_first, g1, g2, g3, g4, g5, gc, gq, gA, gB, g0, boxOf_own, boxL_0, boxL_s, bx2_own, own_at', idOf_rsl, rsl_isSl, apS_isSl, AV.isNs, rsl_capOk, nsSl, cutS_rsl]
      simp only [walkW, walkX, if_true, if_false, reduceIte, Nat.reduceAdd, Nat.reduceSub, Nat.reduceLeDiff, Nat.reduceEqDiff, Nat.reduceMul, Nat.reduceLT, Int.reduceLT, Int.reduceLE, Int.reduceEq, gsr, T_dots, T_trimmed, T_done, g1, g2, g3, g4, g5, gc, gq, gA, gB, boxOf_own, boxL_0, boxL_s, bx2_own, own_at', idOf_rsl, rsl_isSl, apS_isSl, AV.isNs, rsl_capOk, nsSl, cutS_rsl]
      refine ⟨fun q => q.elim, ?_⟩
      by_cases h6 : (fmO vs ds).2.length ≤ 4096
      ·have g6 : ((4096 : Int) < ((absR (vjoin [] vs, []) (srtD ds)).2.length : Int)) = False := eq_false (by rw [← hfm2]; omega)
       rw [hfm2] at h6
       rw [if_pos h6] at e
       cases e
       simp only [walkW, walkX, if_true, if_false, reduceIte, Nat.reduceAdd, Nat.reduceSub, Nat.reduceLeDiff, Nat.reduceEqDiff, Nat.reduceMul, Nat.reduceLT, Int.reduceLT, Int.reduceLE, Int.reduceEq, g6, cutS_one, cutS_cells, cutS_known]
       rw [hq] at hlen hti ⊢
       rw [hlen]
       refine leaf_cut (a := 3) (b := 4) hh hti ?_ (fun _ => ?_) (by decide) ?_ ?_ <;> rfl
      ·have g6 : ((4096 : Int) < ((absR (vjoin [] vs, []) (srtD ds)).2.length : Int)) = True := eq_true (by rw [← hfm2]; omega)
       rw [hfm2] at h6
       rw [if_neg h6] at e
       cases e
       simp only [walkW, walkX, if_true, if_false, reduceIte, Nat.reduceAdd, Nat.reduceSub, Nat.reduceLeDiff, Nat.reduceEqDiff, Nat.reduceMul, Nat.reduceLT, Int.reduceLT, Int.reduceLE, Int.reduceEq, g6, cutS_one, cutS_cells, cutS_known]
       exact Bt.drop _ hh rfl (by simp [AV.ok, okL])
     ·have gq := eq_false hq
      simp only [rep_0, rep_s, walkW, walkX, if_true, if_false, reduceIte, Nat.reduceAdd, Nat.reduceSub, Nat.reduceLeDiff, Nat.reduceEqDiff, Nat.reduceMul, Nat.reduceLT, Int.reduceLT, Int.reduceLE, Int.reduceEq, f1, f2, T_ranged, gr, T_CloneDots, T_Sort, T_first, g1, g2, g3, g4, g5, gc, gq, gA, gB, g0, boxOf_own, boxL_0, boxL_s, bx2_own, own_at', idOf_rsl, rsl_isSl, apS_isSl, AV.isNs, rsl_capOk, nsSl, cutS_rsl]
      simp only [walkW, walkX, if_true, if_false, reduceIte, Nat.reduceAdd, Nat.reduceSub, Nat.reduceLeDiff, Nat.reduceEqDiff, Nat.reduceMul, Nat.reduceLT, Int.reduceLT, Int.reduceLE, Int.reduceEq, gsr, T_dots, T_trimmed, T_done, g1, g2, g3, g4, g5, gc, gq, gA, gB, boxOf_own, boxL_0, boxL_s, bx2_own, own_at', idOf_rsl, rsl_isSl, apS_isSl, AV.isNs, rsl_capOk, nsSl, cutS_rsl]
      refine ⟨fun q => q.elim, ?_⟩
      by_cases h6 : (fmO vs ds).2.length ≤ 4096
      ·have g6 : ((4096 : Int) < ((absR (vjoin [] vs, []) (srtD ds)).2.length : Int)) = False := eq_false (by rw [← hfm2]; omega)
       rw [hfm2] at h6
       rw [if_pos h6] at e
       cases e
       simp only [walkW, walkX, if_true, if_false, reduceIte, Nat.reduceAdd, Nat.reduceSub, Nat.reduceLeDiff, Nat.reduceEqDiff, Nat.reduceMul, Nat.reduceLT, Int.reduceLT, Int.reduceLE, Int.reduceEq, g6, cutS_one, cutS_cells, cutS_known]
       rw [hlen]
       refine leaf_cut (a := 4) (b := 5) hh hti ?_ (fun _ => ?_) (by decide) ?_ ?_ <;> rfl
      ·have g6 : ((4096 : Int) < ((absR (vjoin [] vs, []) (srtD ds)).2.length : Int)) = True := eq_true (by rw [← hfm2]; omega)
       rw [hfm2] at h6
       rw [if_neg h6] at e
       cases e
       simp only [walkW, walkX, if_true, if_false, reduceIte, Nat.reduceAdd, Nat.reduceSub, Nat.reduceLeDiff, Nat.reduceEqDiff, Nat.reduceMul, Nat.reduceLT, Int.reduceLT, Int.reduceLE, Int.reduceEq, g6, cutS_one, cutS_cells, cutS_known]
       exact Bt.drop _ hh rfl (by simp [AV.ok, okL])
    exact FA.c
   ·rw [if_neg hr] at e
    have gr : rangedP vs ds = False := eq_false hr
    cases e
    refine FnAt.c (FnAt.run (by kernel_rfl) (T := ⟨[⟨96, T_ranged, fun _ => []⟩], []⟩) ⟨⟨ranged_spec, trivial⟩, trivial⟩ Tryz.func58 sw58 fun ho hh => ?_)
    simp only [okL_cons, ok_ag, Bool.and_eq_true] at ho
    have f1 := hs.fx ho.1 (sz := 1) rfl
    have f2 := ht.fx ho.2.1 (sz := 2) rfl
    unfold w58
    simp only [rep_0, rep_s, walkW, walkX, if_true, if_false, reduceIte, Nat.reduceAdd, Nat.reduceSub, Nat.reduceLeDiff, Nat.reduceEqDiff, Nat.reduceMul, Nat.reduceLT, Int.reduceLT, Int.reduceLE, Int.reduceEq, f1, f2, T_ranged, gr]
    exact ⟨Bt.drop _ hh rfl (by simp [AV.ok, okL]), fun q => q⟩
  ·cases e
 ·cases e
end Go.Proofs.YtcncpbcbedfakaaGreat
end
section
namespace Go.Proofs.YtcncpbcbedfakaaGreat
set_option maxRecDepth 100000
set_option maxHeartbeats 4000000
set_option linter.unusedSimpArgs false
section
variable {P : Program} {h : List AB} {id n : Nat}
def topB (n : Nat) : AB := .blk true true (List.replicate n .top)
theorem Bt.top {p : Nat} {fr : List AV} {xs : List AV} (hi : h[id]? = some (.blk true true xs)) (hn : xs.length = n) : Bt P p fr h fr (h.set id (topB n)) := by
 refine Bt.less hi (fun ρ w b o m hb => ?_) (fun _ => rfl) (fun _ => rfl)
 obtain ⟨cs, e, fz, h1, h2, h3, _⟩ := hb
 refine ⟨cs, e, fz, h1, h2, by rw [List.length_replicate]; omega, fun k a c ha _ => ?_⟩
 rw [List.getElem?_replicate] at ha
 split at ha
 ·cases ha
  exact .top c
 ·cases ha
end
theorem HOk_dead {h : List AB} (hh : HOk h) (i : Nat) : HOk (h.set i .dead) := by
 intro j B hB
 rw [List.length_set]
 rw [List.getElem?_set] at hB
 split at hB
 ·split at hB
  ·cases hB
   rfl
  ·cases hB
 ·exact hh j B hB
end Go.Proofs.YtcncpbcbedfakaaGreat
end
section
namespace Go.Proofs.YtcncpbcbedfakaaGreat
set_option maxRecDepth 100000
set_option maxHeartbeats 4000000
set_option linter.unusedSimpArgs false
noncomputable def T_absent : List AV → List AB → Option (AV × List AB)
 | [.ag [.i .i64 a, .i .i64 b], .p i 0], h => match rdBlk h i with
  | some [s, t] => (getS intR h s).bind fun v => (getS dotR h t).bind fun ds => if ds.length ≤ 1000000 then some (.b (decide (¬ chasP v ds (a, b))), h) else none
  | _ => none
 | _, _ => none
theorem absent_spec : Spec Tryz.prog 80 T_absent := by
 intro args h v h' e
 unfold T_absent at e
 split at e
 ·rename_i a b i
  split at e
  ·rename_i s t hb
   obtain ⟨vs, hs, e⟩ := getS_bind e
   obtain ⟨ds, ht, e⟩ := getS_bind e
   split at e
   ·rename_i hl
    cases e
    refine FnAt.c (FnAt.run (by kernel_rfl) (T := ⟨[⟨78, T_chas, fun _ => []⟩], []⟩) ⟨⟨chas_spec, trivial⟩, trivial⟩ Tryz.func80 sw80 fun ho hh => ?_)
    have fb : ∀ x, ldV (h ++ x) (some 2) (.p i 0) = some (.ag [s, t]) := fun x => by
     have hi := rdBlk_lt hb
     have h2 : rdBlk (h ++ x) i = some [s, t] := by
      unfold rdBlk at hb ⊢
      rw [List.getElem?_append_left hi]
      exact hb
     simp only [ldV, h2, Option.bind_some]
     rfl
    unfold w80
    have k1 : ∀ x, getS intR (h ++ x) s = some vs := fun x => (hs.app x).get
    have k2 : ∀ x, getS dotR (h ++ x) t = some ds := fun x => (ht.app x).get
    simp only [rep_0, rep_s, walkW, walkX, if_true, if_false, reduceIte, Nat.reduceAdd, Nat.reduceSub, Nat.reduceLeDiff, Nat.reduceEqDiff, Nat.reduceMul, Nat.reduceLT, Int.reduceLT, Int.reduceLE, Int.reduceEq, fb, k1, k2, hl, T_chas]
    exact Bt.dropB _ hh (by simp)
   ·cases e
  ·cases e
 ·cases e
noncomputable def T_idxA : List AV → List AB → Option (AV × List AB)
 | [s, .f (.func 80) [] [.p i 0]], h => match rdBlk h i with
  | some [sb, tb] => (getS intR h sb).bind fun v => (getS dotR h tb).bind fun ds => (getS dotR h s).bind fun l => if ds.length ≤ 1000000 then some (.i .i64 (idx (fun d : Int × Int => ¬ chasP v ds d) l), h) else none
  | _ => none
 | _, _ => none
theorem idxA_spec : Spec Tryz.prog 114 T_idxA := by
 intro args h v h' e
 unfold T_idxA at e
 split at e
 ·rename_i s i
  split at e
  ·rename_i sb tb hb
   obtain ⟨vs, hs, e⟩ := getS_bind e
   obtain ⟨ds, ht, e⟩ := getS_bind e
   obtain ⟨l, hx, e⟩ := getS_bind e
   split at e
   ·rename_i hl
    cases e
    refine FnAt.c (FnAt.run (by kernel_rfl) (T := ⟨[⟨80, T_absent, fun _ => []⟩], []⟩) ⟨⟨absent_spec, trivial⟩, trivial⟩ Tryz.func114 sw114 fun ho hh => ?_)
    simp only [okL_cons, Bool.and_eq_true] at ho
    have f1 := hx.fx ho.1 (sz := 2) rfl
    have k0 : ∀ x, rdBlk (h ++ x) i = some [sb, tb] := (rdBlk_fx hb).1
    have k1 : ∀ x, getS intR (h ++ x) sb = some vs := fun x => (hs.app x).get
    have k2 : ∀ x, getS dotR (h ++ x) tb = some ds := fun x => (ht.app x).get
    unfold w114
    simp only [rep_0, rep_s, walkW, walkX, if_true, if_false, reduceIte, Nat.reduceAdd, Nat.reduceSub, Nat.reduceLeDiff, Nat.reduceEqDiff, Nat.reduceMul, Nat.reduceLT, Int.reduceLT, Int.reduceLE, Int.reduceEq, f1]
    refine W_loopF (S := Nat) (fun j => l.length - j) (fun j => [s, .f (.func 80) [] [.p i 0]] ++ tp 5 ++ [.i .i64 l.length, .i .i64 j] ++ tp 10) (fun j => j ≤ l.length ∧ idx (fun d : Int × Int => ¬ chasP vs ds d) l = idxFrom (fun d : Int × Int => ¬ chasP vs ds d) (l.drop j) j) 0 ⟨Nat.zero_le _, rfl⟩ (by simp only [walkW, walkX, if_true, if_false, reduceIte, Nat.reduceAdd, Nat.reduceSub, Nat.reduceLeDiff, Nat.reduceEqDiff, Nat.reduceMul, Nat.reduceLT, Int.reduceLT, Int.reduceLE, Int.reduceEq]) fun j hj => ?_
    simp only [walkW, walkX, if_true, if_false, reduceIte, Nat.reduceAdd, Nat.reduceSub, Nat.reduceLeDiff, Nat.reduceEqDiff, Nat.reduceMul, Nat.reduceLT, Int.reduceLT, Int.reduceLE, Int.reduceEq, f1]
    refine ⟨fun h2 => ?_, fun h2 => ?_⟩
    ·have e1 : IntKind.i64.wrap ((j : Int) + 1) = ((j + 1 : Nat) : Int) := wrap_in (by have := hx.2; unfold maxLen at this; unfold In64; omega)
     have e2 := idx_drop (fun d : Int × Int => ¬ chasP vs ds d) dotR.d j h2
     simp only [walkW, walkX, if_true, if_false, reduceIte, Nat.reduceAdd, Nat.reduceSub, Nat.reduceLeDiff, Nat.reduceEqDiff, Nat.reduceMul, Nat.reduceLT, Int.reduceLT, Int.reduceLE, Int.reduceEq, f1, h2, dotR_f, e1, T_absent, k0, k1, k2, hl, pr_eta]
     refine ⟨fun h3 => Bt.eq (by rw [hj.2, e2, if_pos h3]) (List.append_nil h), fun h3 => ⟨j + 1, ⟨h2, ?_⟩, by omega, Wk.refl _⟩⟩
     rw [hj.2, e2, if_neg h3]
    ·exact Bt.eq (by rw [hj.2, List.drop_eq_nil_of_le (by omega)]; rfl) (List.append_nil h)
   ·cases e
  ·cases e
 ·cases e
noncomputable def T_CFabs : List AV → List AB → Option (AV × List AB)
 | [s, .f (.func 80) [] [.p i 0]], h => match rdBlk h i with
  | some [sb, tb] => (getS intR h sb).bind fun v => (getS dotR h tb).bind fun ds => (getS dotR h s).bind fun l => if ds.length ≤ 1000000 then some (.b (decide (∃ d ∈ l, ¬ chasP v ds d)), h) else none
  | _ => none
 | _, _ => none
theorem CFabs_spec : Spec Tryz.prog 79 T_CFabs := by
 intro args h v h' e
 unfold T_CFabs at e
 split at e
 ·rename_i s i
  split at e
  ·rename_i sb tb hb
   obtain ⟨vs, hs, e⟩ := getS_bind e
   obtain ⟨ds, ht, e⟩ := getS_bind e
   obtain ⟨l, hx, e⟩ := getS_bind e
   split at e
   ·rename_i hl
    cases e
    refine FnAt.c (FnAt.run (by kernel_rfl) (T := ⟨[⟨114, T_idxA, fun _ => []⟩], []⟩) ⟨⟨idxA_spec, trivial⟩, trivial⟩ Tryz.func79 sw79 fun ho hh => ?_)
    simp only [okL_cons, Bool.and_eq_true] at ho
    have f1 := hx.fx ho.1 (sz := 2) rfl
    have k0 : ∀ x, rdBlk (h ++ x) i = some [sb, tb] := (rdBlk_fx hb).1
    have k1 : ∀ x, getS intR (h ++ x) sb = some vs := fun x => (hs.app x).get
    have k2 : ∀ x, getS dotR (h ++ x) tb = some ds := fun x => (ht.app x).get
    unfold w79
    simp only [rep_0, rep_s, walkW, walkX, if_true, if_false, reduceIte, Nat.reduceAdd, Nat.reduceSub, Nat.reduceLeDiff, Nat.reduceEqDiff, Nat.reduceMul, Nat.reduceLT, Int.reduceLT, Int.reduceLE, Int.reduceEq, f1, T_idxA, k0, k1, k2, hl]
    exact Bt.eq (by simp only [AV.b.injEq, decide_eq_decide]; exact idx_has (fun d : Int × Int => ¬ chasP vs ds d) l) (List.append_nil h)
   ·cases e
  ·cases e
 ·cases e
end Go.Proofs.YtcncpbcbedfakaaGreat
end
section
namespace Go.Proofs.YtcncpbcbedfakaaGreat
set_option maxRecDepth 100000
set_option maxHeartbeats 4000000
set_option linter.unusedSimpArgs false
def rAt (v : List Int) (r : Int) : Int := if r < 1 ∨ (v.length : Int) < r then 0 else v.getD (r - 1).toNat 0
noncomputable def T_rfirst : List AV → List AB → Option (AV × List AB)
 | [.ag [s, t], .i .i64 r], h => (getS intR h s).bind fun v => (getS dotR h t).bind fun _ => some (.i .i64 (rAt v r), h)
 | _, _ => none
def rhasP (v : List Int) (ds : Dots) (d : Int × Int) : Prop := (1 ≤ d.2 ∧ d.2 ≤ rAt v d.1) ∨ d ∈ ds
instance (v : List Int) (ds : Dots) (d : Int × Int) : Decidable (rhasP v ds d) := by unfold rhasP; infer_instance
noncomputable def T_rhas : List AV → List AB → Option (AV × List AB)
 | [.ag [s, t], .ag [.i .i64 a, .i .i64 b]], h => (getS intR h s).bind fun v => (getS dotR h t).bind fun ds => some (.b (decide (rhasP v ds (a, b))), h)
 | _, _ => none
noncomputable def T_rHas : List AV → List AB → Option (AV × List AB)
 | [.ag [s, t], .ag [.i .i64 a, .i .i64 b]], h => (getS intR h s).bind fun v => (getS dotR h t).bind fun ds => some (.b (decide (checkR v ds = 0 ∧ rhasP v ds (a, b))), h)
 | _, _ => none
end Go.Proofs.YtcncpbcbedfakaaGreat
end
section
namespace Go.Proofs.YtcncpbcbedfakaaGreat
set_option maxRecDepth 100000
set_option maxHeartbeats 4000000
set_option linter.unusedSimpArgs false
theorem rAt_bd (v : List Int) (h : ∀ n ∈ v, 0 ≤ n ∧ n ≤ 1048576) (r : Int) : 0 ≤ rAt v r ∧ rAt v r ≤ 1048576 := by
 unfold rAt
 split
 ·omega
 ·rw [List.getD_eq_getElem?_getD]
  cases e : v[(r - 1).toNat]? with
  | none => simp
  | some x => exact h x (List.mem_of_getElem? e)
end Go.Proofs.YtcncpbcbedfakaaGreat
end
section
namespace Go.Proofs.YtcncpbcbedfakaaGreat
set_option maxRecDepth 100000
set_option maxHeartbeats 4000000
set_option linter.unusedSimpArgs false
def joinL (v v' : List Int) (n : Nat) : List Int := (List.range n).map fun i => max (rAt v ((i + 1 : Nat) : Int)) (rAt v' ((i + 1 : Nat) : Int))
theorem joinL_len (v v' : List Int) (n : Nat) : (joinL v v' n).length = n := by simp [joinL]
theorem joinL_bd (v v' : List Int) (h : ∀ n ∈ v, 0 ≤ n ∧ n ≤ 1048576) (h' : ∀ n ∈ v', 0 ≤ n ∧ n ≤ 1048576) (n : Nat) : ∀ x ∈ joinL v v' n, 0 ≤ x ∧ x ≤ 1048576 := fun x hx => by
 obtain ⟨i, -, rfl⟩ := List.mem_map.1 hx
 have h1 := rAt_bd v h ((i + 1 : Nat) : Int)
 have h2 := rAt_bd v' h' ((i + 1 : Nat) : Int)
 omega
theorem joinL_ranged {v v' : List Int} {ds ds' : Dots} (h : rangedP v ds) (h' : rangedP v' ds') : rangedP (joinL v v' 16) (ds ++ ds') :=
 ⟨by rw [joinL_len]; omega, joinL_bd v v' h.2.1 h'.2.1 16, fun d hd => (List.mem_append.1 hd).elim (h.2.2 d) (h'.2.2 d)⟩
end Go.Proofs.YtcncpbcbedfakaaGreat
end
section
namespace Go.Proofs.YtcncpbcbedfakaaGreat
set_option maxRecDepth 100000
set_option maxHeartbeats 4000000
set_option linter.unusedSimpArgs false
noncomputable def T_SameHelds : List AV → List AB → Option (AV × List AB)
 | [a, b], h => (getS heldR h a).bind fun xs => (getS heldR h b).bind fun ys => some (.b (decide (xs = ys)), h)
 | _, _ => none
theorem SameHelds_spec : Spec Tryz.prog 42 T_SameHelds := by
 intro args h v h' e
 unfold T_SameHelds at e
 split at e
 ·rename_i a b
  obtain ⟨xs, ha, e⟩ := getS_bind e
  obtain ⟨ys, hb, e⟩ := getS_bind e
  cases e
  refine FnAt.c (FnAt.frz0 fun hz => ?_)
  replace ha := ha.frz
  replace hb := hb.frz
  generalize h.map AB.freeze = h at *
  refine FnAt.run (by kernel_rfl) (T := ⟨[], []⟩) ⟨trivial, trivial⟩ Tryz.func42 sw42 fun ho hh => ?_
  simp only [okL_cons, Bool.and_eq_true] at ho
  have fa := ha.fx ho.1 (sz := 34) rfl
  have fb := hb.fx ho.2.1 (sz := 34) rfl
  unfold w42
  simp only [rep_0, rep_s, walkW, walkX, if_true, if_false, reduceIte, Nat.reduceAdd, Nat.reduceSub, Nat.reduceLeDiff, Nat.reduceEqDiff, Nat.reduceMul, Nat.reduceLT, Int.reduceLT, Int.reduceLE, Int.reduceEq, fa, fb]
  refine W_loopF (S := Nat) (fun i => xs.length - i) (fun i => [a, b] ++ tp 3 ++ [.b (decide (xs.length = ys.length ∧ xs.take i = ys.take i)), .i .i64 i] ++ tp 24) (fun i => xs.length = ys.length → i ≤ xs.length) 0 (fun _ => Nat.zero_le _) (by simp only [walkW, walkX, if_true, if_false, reduceIte, Nat.reduceAdd, Nat.reduceSub, Nat.reduceLeDiff, Nat.reduceEqDiff, Nat.reduceMul, Nat.reduceLT, Int.reduceLT, Int.reduceLE, Int.reduceEq, List.take_zero]) fun i hi => ?_
  simp only [walkW, walkX, if_true, if_false, reduceIte, Nat.reduceAdd, Nat.reduceSub, Nat.reduceLeDiff, Nat.reduceEqDiff, Nat.reduceMul, Nat.reduceLT, Int.reduceLT, Int.reduceLE, Int.reduceEq, fa, fb]
  refine ⟨fun h1 => ⟨fun h2 => ?_, fun h2 => ?_⟩, fun h1 => ?_⟩
  ·have h3 : i < ys.length := by omega
   have e1 : IntKind.i64.wrap ((i : Int) + 1) = ((i + 1 : Nat) : Int) := wrap_in (by have := ha.2; unfold maxLen at this; unfold In64; omega)
   simp only [walkW, walkQ, walkX, if_true, if_false, ↓reduceIte, Nat.reduceAdd, Nat.reduceSub, Nat.reduceLeDiff, Nat.reduceEqDiff, Nat.reduceMul, Nat.reduceLT, Int.reduceLT, Int.reduceLE, Int.reduceEq, CO.tmps, Opd.tmps, optT, Nat.reducePow, Nat.reduceDiv, Nat.reduceMod, fa, fb, h2, h3, eqc_held, held_ok, Nat.zero_lt_one, e1]
   refine ⟨i + 1, fun _ => h2, by omega, ?_, Wk.refl _⟩
   have e2 : (xs.length = ys.length ∧ xs.take (i + 1) = ys.take (i + 1)) = (xs.getD i heldR.d = ys.getD i heldR.d) := propext (by rw [and_iff_right h1.1]; exact take_both _ h2 h3 h1.2)
   simp only [e2, Wk_refl]
  ·exact Bt.eq (by simp only [AV.b.injEq, decide_eq_decide]; exact take_all (by omega)) (List.append_nil h)
  ·exact Bt.eq (by simp only [AV.b.injEq, decide_eq_decide]; exact iff_of_false h1 (take_not h1)) (List.append_nil h)
 ·cases e
noncomputable def T_SameIDs : List AV → List AB → Option (AV × List AB)
 | [a, b], h => (getS idR h a).bind fun xs => (getS idR h b).bind fun ys => some (.b (decide (xs = ys)), h)
 | _, _ => none
theorem SameIDs_spec : Spec Tryz.prog 23 T_SameIDs := by
 intro args h v h' e
 unfold T_SameIDs at e
 split at e
 ·rename_i a b
  obtain ⟨xs, ha, e⟩ := getS_bind e
  obtain ⟨ys, hb, e⟩ := getS_bind e
  cases e
  refine FnAt.c (FnAt.frz0 fun hz => ?_)
  replace ha := ha.frz
  replace hb := hb.frz
  generalize h.map AB.freeze = h at *
  refine FnAt.run (by kernel_rfl) (T := ⟨[], []⟩) ⟨trivial, trivial⟩ Tryz.func23 sw23 fun ho hh => ?_
  simp only [okL_cons, Bool.and_eq_true] at ho
  have fa := ha.fx ho.1 (sz := 32) rfl
  have fb := hb.fx ho.2.1 (sz := 32) rfl
  unfold w23
  simp only [rep_0, rep_s, walkW, walkX, if_true, if_false, reduceIte, Nat.reduceAdd, Nat.reduceSub, Nat.reduceLeDiff, Nat.reduceEqDiff, Nat.reduceMul, Nat.reduceLT, Int.reduceLT, Int.reduceLE, Int.reduceEq, fa, fb]
  refine W_loopF (S := Nat) (fun i => xs.length - i) (fun i => [a, b] ++ tp 3 ++ [.b (decide (xs.length = ys.length ∧ xs.take i = ys.take i)), .i .i64 i] ++ tp 24) (fun i => xs.length = ys.length → i ≤ xs.length) 0 (fun _ => Nat.zero_le _) (by simp only [walkW, walkX, if_true, if_false, reduceIte, Nat.reduceAdd, Nat.reduceSub, Nat.reduceLeDiff, Nat.reduceEqDiff, Nat.reduceMul, Nat.reduceLT, Int.reduceLT, Int.reduceLE, Int.reduceEq, List.take_zero]) fun i hi => ?_
  simp only [walkW, walkX, if_true, if_false, reduceIte, Nat.reduceAdd, Nat.reduceSub, Nat.reduceLeDiff, Nat.reduceEqDiff, Nat.reduceMul, Nat.reduceLT, Int.reduceLT, Int.reduceLE, Int.reduceEq, fa, fb]
  refine ⟨fun h1 => ⟨fun h2 => ?_, fun h2 => ?_⟩, fun h1 => ?_⟩
  ·have h3 : i < ys.length := by omega
   have e1 : IntKind.i64.wrap ((i : Int) + 1) = ((i + 1 : Nat) : Int) := wrap_in (by have := ha.2; unfold maxLen at this; unfold In64; omega)
   simp only [walkW, walkQ, walkX, if_true, if_false, ↓reduceIte, Nat.reduceAdd, Nat.reduceSub, Nat.reduceLeDiff, Nat.reduceEqDiff, Nat.reduceMul, Nat.reduceLT, Int.reduceLT, Int.reduceLE, Int.reduceEq, CO.tmps, Opd.tmps, optT, Nat.reducePow, Nat.reduceDiv, Nat.reduceMod, fa, fb, h2, h3, eqc_id, id_ok, Nat.zero_lt_one, e1]
   refine ⟨i + 1, fun _ => h2, by omega, ?_, Wk.refl _⟩
   have e2 : (xs.length = ys.length ∧ xs.take (i + 1) = ys.take (i + 1)) = (xs.getD i idR.d = ys.getD i idR.d) := propext (by rw [and_iff_right h1.1]; exact take_both _ h2 h3 h1.2)
   simp only [e2, Wk_refl]
  ·exact Bt.eq (by simp only [AV.b.injEq, decide_eq_decide]; exact take_all (by omega)) (List.append_nil h)
  ·exact Bt.eq (by simp only [AV.b.injEq, decide_eq_decide]; exact iff_of_false h1 (take_not h1)) (List.append_nil h)
 ·cases e
noncomputable def T_SameReg : List AV → List AB → Option (AV × List AB)
 | [.ag [l, v, d], .ag [l', v', d']], h => (getS heldR h l).bind fun hs => (getS intR h v).bind fun xs => (getS dotR h d).bind fun ds => (getS heldR h l').bind fun hs' => (getS intR h v').bind fun xs' => (getS dotR h d').bind fun ds' =>
   some (.b (decide (hs = hs' ∧ xs = xs' ∧ ds = ds')), h)
 | _, _ => none
noncomputable def T_CopyReg : List AV → List AB → Option (AV × List AB)
 | [.ag [l, v, d]], h => (getS heldR h l).bind fun hs => (getS intR h v).bind fun xs => (getS dotR h d).bind fun ds => if hs.length ≤ 1000000 ∧ xs.length ≤ 1000000 ∧ ds.length ≤ 1000000 then
   some (.ag [rsl heldR h.length hs, rsl intR (h.length + 1) xs, rsl dotR (h.length + 2) ds], h ++ [resB heldR true hs, resB intR true xs, resB dotR true ds]) else none
 | _, _ => none
noncomputable def T_LongReg : List AV → List AB → Option (AV × List AB)
 | [.ag [l, s, t]], h => (getS heldR h l).bind fun hs => (getS intR h s).bind fun v => (getS dotR h t).bind fun ds => some (.b (decide (20 < hs.length ∨ 20 < v.length ∨ 30 < ds.length)), h)
 | _, _ => none
end Go.Proofs.YtcncpbcbedfakaaGreat
end
section
namespace Go.Proofs.YtcncpbcbedfakaaGreat
set_option maxRecDepth 100000
set_option maxHeartbeats 4000000
set_option linter.unusedSimpArgs false
theorem SameReg_spec : Spec Tryz.prog 14 T_SameReg := by
 intro args h v h' e
 unfold T_SameReg at e
 split at e
 ·rename_i l s t l' s' t'
  obtain ⟨hs, hl, e⟩ := getS_bind e
  obtain ⟨xs, hv, e⟩ := getS_bind e
  obtain ⟨ds, hd, e⟩ := getS_bind e
  obtain ⟨hs', hl', e⟩ := getS_bind e
  obtain ⟨xs', hv', e⟩ := getS_bind e
  obtain ⟨ds', hd', e⟩ := getS_bind e
  cases e
  refine FnAt.c (FnAt.run (by kernel_rfl) (T := ⟨[⟨42, T_SameHelds, fun _ => []⟩, ⟨30, T_SameCloud, fun _ => []⟩], []⟩) ⟨⟨SameHelds_spec, SameCloud_spec, trivial⟩, trivial⟩ Tryz.func14 sw14 fun ho hh => ?_)
  simp only [okL_cons, ok_ag, Bool.and_eq_true] at ho
  have f1 := hl.fx ho.1.1 (sz := 34) rfl
  have f2 := hv.fx ho.1.2.1 (sz := 1) rfl
  have f3 := hd.fx ho.1.2.2.1 (sz := 2) rfl
  have f4 := hl'.fx ho.2.1.1 (sz := 34) rfl
  have f5 := hv'.fx ho.2.1.2.1 (sz := 1) rfl
  have f6 := hd'.fx ho.2.1.2.2.1 (sz := 2) rfl
  unfold w14
  simp only [rep_0, rep_s, walkW, walkQ, walkX, if_true, if_false, ↓reduceIte, Nat.reduceAdd, Nat.reduceSub, Nat.reduceLeDiff, Nat.reduceEqDiff, Nat.reduceMul, Nat.reduceLT, Int.reduceLT, Int.reduceLE, Int.reduceEq, CO.tmps, Opd.tmps, optT, Nat.reducePow, Nat.reduceDiv, Nat.reduceMod, f1, f2, f3, f4, f5, f6, T_SameHelds, T_SameCloud]
  refine ⟨fun h1 => Bt.dropB _ hh (by simp [h1]), fun h1 => Bt.dropB _ hh (by simp [h1])⟩
 ·cases e
theorem LongReg_spec : Spec Tryz.prog 9 T_LongReg := by
 intro args h v h' e
 unfold T_LongReg at e
 split at e
 ·rename_i l s t
  obtain ⟨hs, hl, e⟩ := getS_bind e
  obtain ⟨xs, hv, e⟩ := getS_bind e
  obtain ⟨ds, hd, e⟩ := getS_bind e
  cases e
  refine FnAt.c (FnAt.run (by kernel_rfl) (T := ⟨[⟨16, T_Long, fun _ => []⟩], []⟩) ⟨⟨Long_spec, trivial⟩, trivial⟩ Tryz.func9 sw9 fun ho hh => ?_)
  simp only [okL_cons, ok_ag, Bool.and_eq_true] at ho
  have f1 := hl.fx ho.1.1 (sz := 34) rfl
  have f2 := hv.fx ho.1.2.1 (sz := 1) rfl
  have f3 := hd.fx ho.1.2.2.1 (sz := 2) rfl
  unfold w9
  simp only [rep_0, rep_s, walkW, walkQ, walkX, if_true, if_false, ↓reduceIte, Nat.reduceAdd, Nat.reduceSub, Nat.reduceLeDiff, Nat.reduceEqDiff, Nat.reduceMul, Nat.reduceLT, Int.reduceLT, Int.reduceLE, Int.reduceEq, CO.tmps, Opd.tmps, optT, Nat.reducePow, Nat.reduceDiv, Nat.reduceMod, f1, f2, f3, T_Long]
  refine ⟨fun q => Bt.dropB _ hh (decide_eq_true (.inl (by omega))).symm, fun q => Bt.dropB _ hh (decide_eq_decide.2 ?_)⟩
  omega
 ·cases e
end Go.Proofs.YtcncpbcbedfakaaGreat
end
section
namespace Go.Proofs.YtcncpbcbedfakaaGreat
set_option maxRecDepth 100000
set_option maxHeartbeats 4000000
set_option linter.unusedSimpArgs false
def leqRowC (v v' : List Int) (ds' : Dots) (r : Nat) : Prop := ∀ n, vAt v' ((r + 1 : Nat) : Int) < n → n ≤ v.getD r 0 → chasP v' ds' (((r + 1 : Nat) : Int), n)
def leqC (v : List Int) (ds : Dots) (v' : List Int) (ds' : Dots) : Prop := (∀ r, r < v.length → leqRowC v v' ds' r) ∧ ∀ d ∈ ds, chasP v' ds' d
noncomputable instance (v : List Int) (ds : Dots) (v' : List Int) (ds' : Dots) : Decidable (leqC v ds v' ds') := Classical.propDecidable _
noncomputable def T_cLeq (chk : List Int → Dots → Int) : List AV → List AB → Option (AV × List AB)
 | [.ag [s, t], .ag [s', t']], h => (getS intR h s).bind fun v => (getS dotR h t).bind fun ds => (getS intR h s').bind fun v' => (getS dotR h t').bind fun ds' =>
   some (.tu [.b (decide (chk v ds = 0 ∧ chk v' ds' = 0 ∧ leqC v ds v' ds')), .i .i64 (if chk v ds = 0 then chk v' ds' else chk v ds)], h)
 | _, _ => none
theorem cLeq_spec (chk : List Int → Dots → Int) (h0 : ∀ v ds, chk v ds = 0 → rangedP v ds ∧ ds.length ≤ 4096) (hC : Spec Tryz.prog 59 (T_chk chk)) : Spec Tryz.prog 38 (T_cLeq chk) := by
 intro args h v h' e
 unfold T_cLeq at e
 split at e
 ·rename_i s t s' t'
  obtain ⟨vs, hs, e⟩ := getS_bind e
  obtain ⟨ds, ht, e⟩ := getS_bind e
  obtain ⟨vs', hs', e⟩ := getS_bind e
  obtain ⟨ds', ht', e⟩ := getS_bind e
  cases e
  refine FnAt.c (FnAt.run (by kernel_rfl) (T := ⟨[⟨76, T_cboth chk, fun _ => []⟩, ⟨77, T_At, fun _ => []⟩, ⟨78, T_chas, fun _ => []⟩, ⟨79, T_CFabs, fun _ => []⟩], []⟩) ⟨⟨cboth_spec chk hC, at_spec, chas_spec, CFabs_spec, trivial⟩, trivial⟩ Tryz.func38 sw38 fun ho hh => ?_)
  simp only [okL_cons, ok_ag, Bool.and_eq_true] at ho
  have f1 := hs.fx ho.1.1 (sz := 1) rfl
  have f2 := ht.fx ho.1.2.1 (sz := 2) rfl
  have f3 := hs'.fx ho.2.1.1 (sz := 1) rfl
  have f4 := ht'.fx ho.2.1.2.1 (sz := 2) rfl
  by_cases hq : chk vs ds = 0 ∧ chk vs' ds' = 0
  ·obtain ⟨c1, c2⟩ := hq
   have cb : (if chk vs ds = 0 then chk vs' ds' else chk vs ds) = 0 := by rw [if_pos c1]; exact c2
   obtain ⟨a1, a2⟩ := h0 _ _ c1
   obtain ⟨b1, b2⟩ := h0 _ _ c2
   have hl : (ds'.length ≤ 1000000) = True := eq_true (by omega)
   have yes : leqC vs ds vs' ds' → decide (chk vs ds = 0 ∧ chk vs' ds' = 0 ∧ leqC vs ds vs' ds') = true := fun q => decide_eq_true ⟨c1, c2, q⟩
   have nay : ¬ leqC vs ds vs' ds' → decide (chk vs ds = 0 ∧ chk vs' ds' = 0 ∧ leqC vs ds vs' ds') = false := fun q => decide_eq_false fun z => q z.2.2
   unfold w38
   simp only [rep_0, rep_s, walkW, walkX, if_true, if_false, reduceIte, Nat.reduceAdd, Nat.reduceSub, Nat.reduceLeDiff, Nat.reduceEqDiff, Nat.reduceMul, Nat.reduceLT, Int.reduceLT, Int.reduceLE, Int.reduceEq, f1, f2, f3, f4, T_cboth, T_At, T_chas, cb]
   refine ⟨fun q => q.elim, ?_⟩
   refine W_loopF (S := Nat) (fun k => vs.length - k) (fun k => tp 2 ++ [.p (h.length + 0) 0, .p (h.length + 1) 0] ++ tp 13 ++ [s, .i .i64 vs.length, .i .i64 k] ++ tp 28) (fun k => k ≤ vs.length ∧ ∀ r : Nat, r < k → leqRowC vs vs' ds' r) 0 ⟨Nat.zero_le _, fun r hr => absurd hr (Nat.not_lt_zero _)⟩ (by simp only [walkW, walkX, if_true, if_false, reduceIte, Nat.reduceAdd, Nat.reduceSub, Nat.reduceLeDiff, Nat.reduceEqDiff, Nat.reduceMul, Nat.reduceLT, Int.reduceLT, Int.reduceLE, Int.reduceEq]) fun k hk => ?_
   have l16 := a1.1
   have e1 : IntKind.i64.wrap ((k : Int) + 1) = ((k + 1 : Nat) : Int) := wrap_in (by have := hk.1; unfold In64; omega)
   have bA := vAt_le vs' (fun n hn => (b1.2.1 n hn).2) ((k + 1 : Nat) : Int)
   have bB := vAt_ge0 vs' ((k + 1 : Nat) : Int)
   by_cases g1 : k < vs.length
   ·have bC : vs.getD k 0 ≤ 1048576 := by
     rw [List.getD_eq_getElem?_getD, List.getElem?_eq_getElem g1]
     exact (a1.2.1 _ (List.getElem_mem g1)).2
    have e2 : IntKind.i64.wrap (vAt vs' ((k + 1 : Nat) : Int) + 1) = vAt vs' ((k + 1 : Nat) : Int) + 1 := wrap_in (by unfold In64; omega)
    have e9 : intR.d = (0 : Int) := rfl
    simp only [walkW, walkX, if_true, if_false, reduceIte, Nat.reduceAdd, Nat.reduceSub, Nat.reduceLeDiff, Nat.reduceEqDiff, Nat.reduceMul, Nat.reduceLT, Int.reduceLT, Int.reduceLE, Int.reduceEq, f1, f2, f3, f4, T_At, g1, e1, e2, e9, intR_f]
    refine ⟨?_, fun q => q.elim⟩
    refine W_loopF (S := Int) (fun n => (1048577 - n).toNat) (fun n => tp 2 ++ [.p (h.length + 0) 0, .p (h.length + 1) 0] ++ tp 3 ++ [.i .i64 k, .i .i64 (vs.getD k 0), .i .i64 n] ++ tp 7 ++ [s, .i .i64 vs.length, .i .i64 k] ++ tp 28) (fun n => vAt vs' ((k + 1 : Nat) : Int) < n ∧ n ≤ 1048577 ∧ ∀ m, vAt vs' ((k + 1 : Nat) : Int) < m → m < n → chasP vs' ds' (((k + 1 : Nat) : Int), m)) (vAt vs' ((k + 1 : Nat) : Int) + 1) ⟨by omega, by omega, fun m h1 h2 => absurd h2 (by omega)⟩ (by simp only [walkW, walkX, if_true, if_false, reduceIte, Nat.reduceAdd, Nat.reduceSub, Nat.reduceLeDiff, Nat.reduceEqDiff, Nat.reduceMul, Nat.reduceLT, Int.reduceLT, Int.reduceLE, Int.reduceEq]) fun n hn => ?_
    obtain ⟨n1, n2, n3⟩ := hn
    have e3 : IntKind.i64.wrap (n + 1) = n + 1 := wrap_in (by unfold In64; omega)
    simp only [walkW, walkX, if_true, if_false, reduceIte, Nat.reduceAdd, Nat.reduceSub, Nat.reduceLeDiff, Nat.reduceEqDiff, Nat.reduceMul, Nat.reduceLT, Int.reduceLT, Int.reduceLE, Int.reduceEq, f1, f2, f3, f4, T_At, T_chas, hl, e1, e3]
    refine ⟨fun g2 => ⟨fun g3 => Bt.drop _ hh (by rw [nay fun q => g3 (q.1 k g1 n n1 g2)]) rfl, fun g3 => ⟨n + 1, ⟨by omega, by omega, fun m h1 h2 => ?_⟩, by omega, Wk.refl _⟩⟩, fun g2 => ⟨k + 1, ⟨g1, fun r hr => ?_⟩, by omega, Wk.refl _⟩⟩
    ·by_cases hm : m = n
     ·rw [hm]
      exact Decidable.not_not.1 g3
     ·exact n3 m h1 (by omega)
    ·by_cases hr2 : r = k
     ·subst hr2
      exact fun m h1 h2 => n3 m h1 (by omega)
     ·exact hk.2 r (by omega)
   ·simp only [walkW, walkX, if_true, if_false, reduceIte, Nat.reduceAdd, Nat.reduceSub, Nat.reduceLeDiff, Nat.reduceEqDiff, Nat.reduceMul, Nat.reduceLT, Int.reduceLT, Int.reduceLE, Int.reduceEq, f1, f2, f3, f4, T_At, g1, T_CFabs]
    refine ⟨fun z => z, by omega, Bt.drop _ hh ?_ rfl⟩
    have hrow : ∀ r, r < vs.length → leqRowC vs vs' ds' r := fun r hr => hk.2 r (by have := hk.1; omega)
    have : (decide ¬∃ d, d ∈ ds ∧ ¬chasP vs' ds' d) = decide (chk vs ds = 0 ∧ chk vs' ds' = 0 ∧ leqC vs ds vs' ds') := decide_eq_decide.2 ⟨fun z => ⟨c1, c2, hrow, fun d hd => Decidable.byContradiction fun q => z ⟨d, hd, q⟩⟩, fun z ⟨d, hd, q⟩ => q (z.2.2.2 d hd)⟩
    rw [this]
  ·have cb : (if chk vs ds = 0 then chk vs' ds' else chk vs ds) ≠ 0 := by
    split
    ·rename_i c1
     exact fun c2 => hq ⟨c1, c2⟩
    ·assumption
   have no := decide_eq_false (p := chk vs ds = 0 ∧ chk vs' ds' = 0 ∧ leqC vs ds vs' ds') fun z => hq ⟨z.1, z.2.1⟩
   unfold w38
   simp only [rep_0, rep_s, walkW, walkX, if_true, if_false, reduceIte, Nat.reduceAdd, Nat.reduceSub, Nat.reduceLeDiff, Nat.reduceEqDiff, Nat.reduceMul, Nat.reduceLT, Int.reduceLT, Int.reduceLE, Int.reduceEq, f1, f2, f3, f4, T_cboth]
   exact ⟨fun _ => Bt.drop _ hh (by rw [no]) rfl, fun z => absurd cb z⟩
 ·cases e
end Go.Proofs.YtcncpbcbedfakaaGreat
end
section
namespace Go.Proofs.YtcncpbcbedfakaaGreat
set_option maxRecDepth 100000
set_option maxHeartbeats 4000000
set_option linter.unusedSimpArgs false
def leqRow (v v' : List Int) (ds' : Dots) (r : Int) : Prop := ∀ n, rAt v' r < n → n ≤ rAt v r → rhasP v' ds' (r, n)
def leqP (v : List Int) (ds : Dots) (v' : List Int) (ds' : Dots) : Prop := (∀ r : Nat, r < 16 → leqRow v v' ds' ((r + 1 : Nat) : Int)) ∧ ∀ d ∈ ds, rhasP v' ds' d
noncomputable instance (v : List Int) (ds : Dots) (v' : List Int) (ds' : Dots) : Decidable (leqP v ds v' ds') := Classical.propDecidable _
noncomputable def T_rLeq : List AV → List AB → Option (AV × List AB)
 | [.ag [s, t], .ag [s', t']], h => (getS intR h s).bind fun v => (getS dotR h t).bind fun ds => (getS intR h s').bind fun v' => (getS dotR h t').bind fun ds' =>
   some (.tu [.b (decide (checkR v ds = 0 ∧ checkR v' ds' = 0 ∧ leqP v ds v' ds')), .i .i64 (if checkR v ds = 0 then checkR v' ds' else checkR v ds)], h)
 | _, _ => none
end Go.Proofs.YtcncpbcbedfakaaGreat
end
