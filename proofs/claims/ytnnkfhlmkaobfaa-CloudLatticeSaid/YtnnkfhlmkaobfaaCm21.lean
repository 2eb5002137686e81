/- Part 21 of what the laws' proofs rest on. No condition. -/
import Derived.Test.YtnnkfhlmkaobfaaCm20
set_option linter.all false
section
namespace Go.Proofs.Ytnnkfhlmkaobfaa
set_option maxRecDepth 100000
set_option maxHeartbeats 4000000
set_option linter.unusedSimpArgs false
open Classical in
/-- slices.SortFunc by compare, of a slice that is all of an own block. -/
noncomputable def T_Sort : List AV → List AB → Option (AV × List AB)
  | [s, .f (.func 54) [] []], h => (getS dotR h s).bind fun l => match idOf s with
      | [id] => if l.length ≤ 1000000 ∧ s = rsl dotR id l ∧ h[id]? = some (resB dotR true l) then some (.tu [], h.set id (resB dotR true (srtD l))) else none
      | _ => none
  | _, _ => none
def boxL : List AB → Nat → Option (AV × AV)
  | .blk false true [v, d] :: _, 0 => if v.isSl = true ∧ d.isSl = true then some (v, d) else none
  | _, 0 => none
  | [], _ => none
  | _ :: L, k + 1 => boxL L k
theorem boxL_0 (v d : AV) (L : List AB) : boxL (.blk false true [v, d] :: L) 0 = if v.isSl = true ∧ d.isSl = true then some (v, d) else none := _root_.id rfl
theorem boxL_s (B : AB) (L : List AB) (k : Nat) : boxL (B :: L) (k + 1) = boxL L k := by
  cases B with
  | blk fl m xs => cases fl <;> cases m <;> (match xs with | [] => rfl | [_] => rfl | [_, _] => rfl | _ :: _ :: _ :: _ => rfl)
  | _ => rfl
theorem boxL_eq : ∀ (L : List AB) (k : Nat), boxOf L k = boxL L k
  | [], k => by cases k <;> simp [boxOf, boxL]
  | B :: L, 0 => by
    unfold boxOf boxL
    simp only [List.getElem?_cons_zero]
    split <;> split <;> simp_all
  | B :: L, k + 1 => by
    rw [boxL_s, ← boxL_eq L k]
    unfold boxOf
    simp only [List.getElem?_cons_succ]
theorem boxOf_own (h L : List AB) (k : Nat) : boxOf (h ++ L) (h.length + k) = boxL L k := by
  rw [← boxL_eq]
  unfold boxOf
  rw [List.getElem?_append_right (by omega), Nat.add_sub_cancel_left]
theorem bx2_own (h L : List AB) (k : Nat) (v d : AV) : bx2 (h ++ L) (h.length + k) v d = h ++ L.set k (.blk false true [v, d]) := by
  unfold bx2
  rw [List.set_append_right _ _ (by omega), Nat.add_sub_cancel_left]
theorem own_at' (h L : List AB) (k : Nat) : (h ++ L)[h.length + k]? = L[k]? := by rw [List.getElem?_append_right (by omega), Nat.add_sub_cancel_left]
noncomputable def T_cMake : List AV → List AB → Option (AV × List AB)
  | [s, t], h => (getS intR h s).bind fun v => (getS dotR h t).bind fun ds => if ds.length ≤ 100000 then
      if rangedP v ds then
        if (fmO v ds).2.length ≤ 4096 then some (.tu [.ag [rsl intR h.length (fmO v ds).1, rsl dotR (h.length + 1) (fmO v ds).2], .i .i64 0], h ++ [resB intR true (fmO v ds).1, resB dotR true (fmO v ds).2])
        else some (.tu [.ag [.ns, .ns], .i .i64 10], h)
      else some (.tu [.ag [.ns, .ns], .i .i64 3], h)
    else none
  | _, _ => none
theorem leaf_cut {h L : List AB} {a b : Nat} {V : List Int} {D : Dots} {e : AV} {n : Nat} (hh : HOk h) (hn : n ≤ V.length) (he : e.ok (fun i => decide (i < h.length + 2)) = true) (hre : ∀ f, e.ren f = e) (hab : a ≠ b) (ha : L[a]? = some (resB intR true V)) (hb : L[b]? = some (resB dotR true D)) :
    Bt Try.prog h.length [.tu [.ag [cutS (rsl intR (h.length + a) V) n, rsl dotR (h.length + b) D], e]] (h ++ L) [.tu [.ag [rsl intR h.length (V.take n), rsl dotR (h.length + 1) D], e]] (h ++ [resB intR true (V.take n), resB dotR true D]) := by
  have s1 : Bt Try.prog h.length [.tu [.ag [cutS (rsl intR (h.length + a) V) n, rsl dotR (h.length + b) D], e]] (h ++ L) [.tu [.ag [cutS (rsl intR (h.length + 0) V) n, rsl dotR (h.length + 1) D], e]] (h ++ [resB intR true V, resB dotR true D]) := by
    refine Bt.sel [a, b] hh (by simp [hab]) (by simp only [BlkSel, ha, hb, BWk_resB, Option.some.injEq, exists_eq_left', and_true]) ?_
    refine ⟨.inr ⟨?_, ?_⟩, trivial⟩
    · simp only [AV.ok, okL, Bool.and_eq_true, Bool.and_true]
      exact ⟨⟨cutS_okr _ _ _ (by simp), rsl_ok _ _ _ (by simp)⟩, he⟩
    · simp only [AV.ren, renL, cutS_ren, rsl_ren, hre]
      rw [selN_new, selN_new]
      exact Wk.refl _
  refine s1.trans ?_
  have s2 := Bt.take (P := Try.prog) (p := h.length) (fr := [.tu [.ag [cutS (rsl intR (h.length + 0) V) n, rsl dotR (h.length + 1) D], e]]) (h := h ++ [resB intR true V, resB dotR true D]) (i := h.length + 0) (n := n) (m := true) (l := V) (by rw [own_at']; rfl) hn
  rw [List.set_append_right _ _ (by omega), Nat.add_sub_cancel_left] at s2
  refine s2.trans (Bt.wk ⟨?_, trivial⟩)
  intro ρ c hv
  cases hv with
  | tu l cs hl hv =>
    refine .tu _ cs hl fun j x c hx hc => ?_
    match j, hx with
    | 0, hx =>
      cases hx
      have h0 := hv 0 _ c rfl hc
      cases h0 with
      | ag l2 cs2 hl2 hv2 =>
        refine .ag _ cs2 hl2 fun j x c hx hc => ?_
        match j, hx with
        | 0, hx => cases hx; exact cutS_wk (r := intR) _ hn _ _ (hv2 0 _ c rfl hc)
        | 1, hx => cases hx; exact hv2 1 _ c rfl hc
    | 1, hx => cases hx; exact hv 1 _ c rfl hc
theorem ranged_nil {v : List Int} {ds : Dots} (h : rangedP v ds) : (∀ n ∈ vjoin [] v, n ≤ 1048576) ∧ (vjoin [] v).length ≤ 16 ∧ (∀ r, vAt (vjoin [] v) r = vAt v r) := by
  refine ⟨fun n hn => ?_, by rw [vjoin_len]; have := h.1; simp; omega, fun r => ?_⟩
  · simp only [vjoin, jn, List.mem_map, List.mem_range] at hn
    obtain ⟨i, _, rfl⟩ := hn
    rw [vAt_nil]
    have := vAt_le v (fun n hn => (h.2.1 n hn).2) ((i + 1 : Nat) : Int)
    omega
  · rw [vAt_vjoin, vAt_nil]
    have := vAt_ge v r
    omega
theorem absR_len : ∀ (l : Dots) (s : AbS), (absR s l).1.length ≤ max s.1.length 16 ∧ (absR s l).2.length ≤ s.2.length + l.length
  | [], s => ⟨by simp only [absR, List.foldl_nil]; omega, by simp only [absR, List.foldl_nil]; omega⟩
  | d :: l, s => by
    have h1 := absD_len s d
    have h2 := absR_len l (absD s d)
    simp only [absR, List.foldl_cons, List.length_cons] at h2 ⊢
    omega
theorem cMake_spec (hS : Spec Try.prog 53 T_Sort) : Spec Try.prog 19 T_cMake := by
  intro args h v h' e
  unfold T_cMake at e
  split at e
  · rename_i s t
    obtain ⟨vs, hs, e⟩ := getS_bind e
    obtain ⟨ds, ht, e⟩ := getS_bind e
    split at e
    · rename_i hl
      by_cases hr : rangedP vs ds
      · rw [if_pos hr] at e
        have gr : rangedP vs ds = True := eq_true hr
        obtain ⟨n1, n2, n3⟩ := ranged_nil hr
        have hfm := bld_fm (x := vjoin [] vs) (ds := ds) hr n2 (vjoin_pos [] vs) n3
        have l16 := hr.1
        have gd : ∀ d ∈ srtD ds, dottedP d := fun d hd => hr.2.2 d ((srtD_mem ds d).1 hd)
        have gc : ((vjoin [] vs).length ≤ 100000 ∧ (srtD ds).length ≤ 100000 ∧ (∀ n ∈ vjoin [] vs, n ≤ 1048576) ∧ ∀ d ∈ srtD ds, dottedP d) = True := eq_true ⟨by omega, by rw [srtD_len]; exact hl, n1, gd⟩
        have g1 : (ds.length ≤ 1000000) = True := eq_true (by omega)
        have g2 : (vs.length ≤ 1000000) = True := eq_true (by omega)
        have g3 : (ds.length ≤ maxLen) = True := eq_true (by unfold maxLen; omega)
        have g4 : ((srtD ds).length ≤ maxLen) = True := eq_true (by rw [srtD_len]; unfold maxLen; omega)
        have g5 : ((vjoin [] vs).length ≤ maxLen) = True := eq_true (by unfold maxLen; omega)
        have hfm1 : (fmO vs ds).1 = (absR (vjoin [] vs, []) (srtD ds)).1.take (topI (absR (vjoin [] vs, []) (srtD ds)).1 (absR (vjoin [] vs, []) (srtD ds)).1.length) := by
          rw [← hfm]
          exact trimV_top _ _ (Nat.le_refl _)
        have hfm2 : (fmO vs ds).2 = (absR (vjoin [] vs, []) (srtD ds)).2 := by rw [← hfm]; rfl
        have htr := trimV_top (absR (vjoin [] vs, []) (srtD ds)).1 (absR (vjoin [] vs, []) (srtD ds)).1.length (Nat.le_refl _)
        have hti := topI_le (absR (vjoin [] vs, []) (srtD ds)).1 (absR (vjoin [] vs, []) (srtD ds)).1.length
        rw [hfm1, hfm2] at e
        have g0 : (([] : List Int).length ≤ 1000000) = True := eq_true (Nat.zero_le _)
        have gsr : ∀ id, rsl dotR id ds = rsl dotR id (srtD ds) := fun id => by unfold rsl; rw [srtD_len]
        have gA : ((absR (vjoin [] vs, []) (srtD ds)).1.length ≤ maxLen) = True := eq_true (by have := (absR_len (srtD ds) (vjoin [] vs, [])).1; simp only at this; unfold maxLen; omega)
        have gB : ((absR (vjoin [] vs, []) (srtD ds)).2.length ≤ maxLen) = True := eq_true (by have := (absR_len (srtD ds) (vjoin [] vs, [])).2; rw [srtD_len] at this; simp only [List.length_nil] at this; unfold maxLen; omega)
        have hlen : (trimV (absR (vjoin [] vs, []) (srtD ds)).1 (absR (vjoin [] vs, []) (srtD ds)).1.length).length = topI (absR (vjoin [] vs, []) (srtD ds)).1 (absR (vjoin [] vs, []) (srtD ds)).1.length := by
          rw [htr, List.length_take]
          omega
        have FA : FnAt Try.prog 19 [s, t] h v h' := by
          refine FnAt.run (by kernel_rfl) (T := ⟨[⟨51, T_ranged, fun _ => []⟩, ⟨52, T_CloneDots, fun _ => []⟩, ⟨53, T_Sort, fun _ => []⟩, ⟨38, T_first, fun _ => []⟩, ⟨39, T_dots, fun _ => []⟩, ⟨40, T_trimmed, fun _ => []⟩, ⟨41, T_done, fun _ => []⟩], []⟩) ⟨⟨ranged_spec, CloneDots_spec, hS, first_spec, dots_spec, trimmed_spec, done_spec, trivial⟩, trivial⟩ Try.func19 sw19 fun ho hh => ?_
          simp only [okL_cons, ok_ag, Bool.and_eq_true] at ho
          have f1 := hs.fx ho.1 (sz := 1) rfl
          have f2 := ht.fx ho.2.1 (sz := 2) rfl
          unfold w19
          by_cases hq : (absR (vjoin [] vs, []) (srtD ds)).1 = vjoin [] vs
          · have gq := eq_true hq
            simp only [rep_0, rep_s, walkW, ld_own, lda_own, st_own, sta_own, len_app, if_true, if_false, reduceIte, Nat.reduceAdd, Nat.reduceSub, Nat.reduceLeDiff, Nat.reduceEqDiff, Nat.reduceMul, Nat.reduceLT, Int.reduceLT, Int.reduceLE, Int.reduceEq, rsl_get, srcV_own, f1, f2, T_ranged, gr, T_CloneDots, T_Sort, T_first, g1, g2, g3, g4, g5, gc, gq, gA, gB, g0, boxOf_own, boxL_0, boxL_s, bx2_own, own_at', idOf_rsl, rsl_isSl, AV.isNs, rsl_capOk, nsSl, cutS_rsl]
            simp only [walkW, ld_own, lda_own, st_own, sta_own, len_app, if_true, if_false, reduceIte, Nat.reduceAdd, Nat.reduceSub, Nat.reduceLeDiff, Nat.reduceEqDiff, Nat.reduceMul, Nat.reduceLT, Int.reduceLT, Int.reduceLE, Int.reduceEq, rsl_get, srcV_own, gsr, T_dots, T_trimmed, T_done, g1, g2, g3, g4, g5, gc, gq, gA, gB, boxOf_own, boxL_0, boxL_s, bx2_own, own_at', idOf_rsl, rsl_isSl, AV.isNs, rsl_capOk, nsSl, cutS_rsl]
            refine ⟨fun q => q.elim, ?_⟩
            by_cases h6 : (fmO vs ds).2.length ≤ 4096
            · have g6 : ((4096 : Int) < ((absR (vjoin [] vs, []) (srtD ds)).2.length : Int)) = False := eq_false (by rw [← hfm2]; omega)
              rw [hfm2] at h6
              rw [if_pos h6] at e
              cases e
              simp only [walkW, ld_own, lda_own, st_own, sta_own, len_app, if_true, if_false, reduceIte, Nat.reduceAdd, Nat.reduceSub, Nat.reduceLeDiff, Nat.reduceEqDiff, Nat.reduceMul, Nat.reduceLT, Int.reduceLT, Int.reduceLE, Int.reduceEq, rsl_get, srcV_own, g6, cutS_one, cutS_cells, cutS_known]
              rw [hq] at hlen hti ⊢
              rw [hlen]
              refine leaf_cut (a := 3) (b := 4) hh hti ?_ (fun _ => ?_) (by decide) ?_ ?_ <;> rfl
            · have g6 : ((4096 : Int) < ((absR (vjoin [] vs, []) (srtD ds)).2.length : Int)) = True := eq_true (by rw [← hfm2]; omega)
              rw [hfm2] at h6
              rw [if_neg h6] at e
              cases e
              simp only [walkW, ld_own, lda_own, st_own, sta_own, len_app, if_true, if_false, reduceIte, Nat.reduceAdd, Nat.reduceSub, Nat.reduceLeDiff, Nat.reduceEqDiff, Nat.reduceMul, Nat.reduceLT, Int.reduceLT, Int.reduceLE, Int.reduceEq, rsl_get, srcV_own, g6, cutS_one, cutS_cells, cutS_known]
              exact Bt.drop _ hh rfl (by simp [AV.ok, okL])
          · have gq := eq_false hq
            simp only [rep_0, rep_s, walkW, ld_own, lda_own, st_own, sta_own, len_app, if_true, if_false, reduceIte, Nat.reduceAdd, Nat.reduceSub, Nat.reduceLeDiff, Nat.reduceEqDiff, Nat.reduceMul, Nat.reduceLT, Int.reduceLT, Int.reduceLE, Int.reduceEq, rsl_get, srcV_own, f1, f2, T_ranged, gr, T_CloneDots, T_Sort, T_first, g1, g2, g3, g4, g5, gc, gq, gA, gB, g0, boxOf_own, boxL_0, boxL_s, bx2_own, own_at', idOf_rsl, rsl_isSl, AV.isNs, rsl_capOk, nsSl, cutS_rsl]
            simp only [walkW, ld_own, lda_own, st_own, sta_own, len_app, if_true, if_false, reduceIte, Nat.reduceAdd, Nat.reduceSub, Nat.reduceLeDiff, Nat.reduceEqDiff, Nat.reduceMul, Nat.reduceLT, Int.reduceLT, Int.reduceLE, Int.reduceEq, rsl_get, srcV_own, gsr, T_dots, T_trimmed, T_done, g1, g2, g3, g4, g5, gc, gq, gA, gB, boxOf_own, boxL_0, boxL_s, bx2_own, own_at', idOf_rsl, rsl_isSl, AV.isNs, rsl_capOk, nsSl, cutS_rsl]
            refine ⟨fun q => q.elim, ?_⟩
            by_cases h6 : (fmO vs ds).2.length ≤ 4096
            · have g6 : ((4096 : Int) < ((absR (vjoin [] vs, []) (srtD ds)).2.length : Int)) = False := eq_false (by rw [← hfm2]; omega)
              rw [hfm2] at h6
              rw [if_pos h6] at e
              cases e
              simp only [walkW, ld_own, lda_own, st_own, sta_own, len_app, if_true, if_false, reduceIte, Nat.reduceAdd, Nat.reduceSub, Nat.reduceLeDiff, Nat.reduceEqDiff, Nat.reduceMul, Nat.reduceLT, Int.reduceLT, Int.reduceLE, Int.reduceEq, rsl_get, srcV_own, g6, cutS_one, cutS_cells, cutS_known]
              rw [hlen]
              refine leaf_cut (a := 4) (b := 5) hh hti ?_ (fun _ => ?_) (by decide) ?_ ?_ <;> rfl
            · have g6 : ((4096 : Int) < ((absR (vjoin [] vs, []) (srtD ds)).2.length : Int)) = True := eq_true (by rw [← hfm2]; omega)
              rw [hfm2] at h6
              rw [if_neg h6] at e
              cases e
              simp only [walkW, ld_own, lda_own, st_own, sta_own, len_app, if_true, if_false, reduceIte, Nat.reduceAdd, Nat.reduceSub, Nat.reduceLeDiff, Nat.reduceEqDiff, Nat.reduceMul, Nat.reduceLT, Int.reduceLT, Int.reduceLE, Int.reduceEq, rsl_get, srcV_own, g6, cutS_one, cutS_cells, cutS_known]
              exact Bt.drop _ hh rfl (by simp [AV.ok, okL])
        exact FA.c
      · rw [if_neg hr] at e
        have gr : rangedP vs ds = False := eq_false hr
        cases e
        refine FnAt.c (FnAt.run (by kernel_rfl) (T := ⟨[⟨51, T_ranged, fun _ => []⟩], []⟩) ⟨⟨ranged_spec, trivial⟩, trivial⟩ Try.func19 sw19 fun ho hh => ?_)
        simp only [okL_cons, ok_ag, Bool.and_eq_true] at ho
        have f1 := hs.fx ho.1 (sz := 1) rfl
        have f2 := ht.fx ho.2.1 (sz := 2) rfl
        unfold w19
        simp only [rep_0, rep_s, walkW, ld_own, lda_own, st_own, sta_own, len_app, if_true, if_false, reduceIte, Nat.reduceAdd, Nat.reduceSub, Nat.reduceLeDiff, Nat.reduceEqDiff, Nat.reduceMul, Nat.reduceLT, Int.reduceLT, Int.reduceLE, Int.reduceEq, rsl_get, srcV_own, f1, f2, T_ranged, gr]
        exact ⟨Bt.drop _ hh rfl (by simp [AV.ok, okL]), fun q => q⟩
    · cases e
  · cases e
end Go.Proofs.Ytnnkfhlmkaobfaa
end
section
namespace Go.Proofs.Ytnnkfhlmkaobfaa
set_option maxRecDepth 100000
set_option maxHeartbeats 4000000
set_option linter.unusedSimpArgs false
section
variable {P : Program} {h : List AB} {id n : Nat}
/-- A flat own block of which nothing is known but its length. -/
def topB (n : Nat) : AB := .blk true true (List.replicate n .top)
theorem Bt.top {p : Nat} {fr : List AV} {xs : List AV} (hi : h[id]? = some (.blk true true xs)) (hn : xs.length = n) : Bt P p fr h fr (h.set id (topB n)) := by
  refine Bt.less hi (fun ρ w b o m hb => ?_) (fun _ => rfl) (fun _ => rfl)
  obtain ⟨cs, e, fz, h1, h2, h3, _⟩ := hb
  refine ⟨cs, e, fz, h1, h2, by rw [List.length_replicate]; omega, fun k a c ha _ => ?_⟩
  rw [List.getElem?_replicate] at ha
  split at ha
  · cases ha
    exact .top c
  · cases ha
theorem top_st (hid : id < h.length) (x : List AB) (o : Nat) (w : AV) (hw : w.one = true) (hf : wrOk true w = true) (ho : o < n) : stV (h.set id (topB n) ++ x) none (.p id o) w = some (h.set id (.blk true true (over (List.replicate n .top) o [w])) ++ x) := by
  have hb : (h.set id (.blk true true (List.replicate n .top)) ++ x)[id]? = some (.blk true true (List.replicate n .top)) := by
    rw [List.getElem?_append_left (by rw [List.length_set]; exact hid), List.getElem?_set_self hid]
  simp only [stV, hw, if_true, stB, topB, hb]
  rw [if_pos ⟨by simp; omega, by simp [hf]⟩]
  congr 1
  rw [List.set_append_left _ _ (by rw [List.length_set]; exact hid), List.set_set]
theorem top_sta (hid : id < h.length) (x : List AB) (o m : Nat) (l : List AV) (hl : l.length = m) (hf : l.all (wrOk true) = true) (ho : o + m ≤ n) : stV (h.set id (topB n) ++ x) (some m) (.p id o) (.ag l) = some (h.set id (.blk true true (over (List.replicate n .top) o l)) ++ x) := by
  have hb : (h.set id (.blk true true (List.replicate n .top)) ++ x)[id]? = some (.blk true true (List.replicate n .top)) := by
    rw [List.getElem?_append_left (by rw [List.length_set]; exact hid), List.getElem?_set_self hid]
  simp only [stV, hl, if_true, stB, topB, hb]
  rw [if_pos ⟨by simp; omega, hf⟩]
  congr 1
  rw [List.set_append_left _ _ (by rw [List.length_set]; exact hid), List.set_set]
theorem top_back {p : Nat} {fr fr' : List AV} (hid : id < h.length) (o : Nat) (l : List AV) (ho : o + l.length ≤ n) (hw : WkL fr' fr) : Bt P p fr (h.set id (.blk true true (over (List.replicate n .top) o l)) ++ []) fr' (h.set id (topB n) ++ []) := by
  rw [List.append_nil, List.append_nil]
  refine Bt.trans (Bt.wk hw) ?_
  have := Bt.top (P := P) (p := p) (fr := fr') (h := h.set id (.blk true true (over (List.replicate n .top) o l))) (id := id) (n := n) (xs := over (List.replicate n .top) o l) (by rw [List.getElem?_set_self hid]) (by rw [over_len _ _ _ (by simp; omega)]; simp)
  rwa [List.set_set] at this
theorem top_start {p : Nat} {fr fr' : List AV} {xs : List AV} (hi : h[id]? = some (.blk true true xs)) (hn : xs.length = n) (hw : WkL fr' fr) : Bt P p fr (h ++ []) fr' (h.set id (topB n) ++ []) := by
  rw [List.append_nil, List.append_nil]
  exact Bt.trans (Bt.wk hw) (Bt.top hi hn)
theorem top_end {p : Nat} {fr : List AV} (hid : id < h.length) : Bt P p fr (h.set id (topB n) ++ []) fr (h.set id .dead) := by
  rw [List.append_nil]
  have := Bt.less (P := P) (p := p) (fr := fr) (h := h.set id (topB n)) (i := id) (B := topB n) (B' := .dead) (by rw [List.getElem?_set_self hid]) (fun _ _ _ _ _ _ => trivial) (fun q => by cases q) (fun q => by cases q)
  rwa [List.set_set] at this
end
open Classical in
noncomputable def T_over {α : Type} (r : Row α) : List AV → List AB → Option (AV × List AB)
  | [s], h => if s.isNs = true then some (.tu [], h) else (getS r h s).bind fun l => match idOf s with
      | [id] => if s = rsl r id l ∧ h[id]? = some (resB r true l) ∧ l.length ≤ 1000000 then some (.tu [], h.set id .dead) else none
      | _ => none
  | _, _ => none
theorem set_dead {h : List AB} {id : Nat} (e : h[id]? = some .dead) : h.set id .dead = h := by
  apply List.ext_getElem?
  intro j
  rw [List.getElem?_set]
  split
  · rename_i hij
    subst hij
    first | rw [if_pos (List.getElem?_eq_some_iff.1 e).1, e] | rw [e]
  · rfl
theorem OverInts_spec : Spec Try.prog 49 (T_over intR) := by
  intro args h v h' e
  unfold T_over at e
  split at e
  · rename_i s
    split at e
    · rename_i hns
      cases e
      cases s <;> first | (cases hns; done) | skip
      refine FnAt.c (FnAt.run (by kernel_rfl) (T := ⟨[], []⟩) ⟨trivial, trivial⟩ Try.func49 sw49 fun ho hh => ?_)
      unfold w49
      simp only [rep_0, rep_s, walkW, ld_own, lda_own, st_own, sta_own, len_app, if_true, if_false, reduceIte, Nat.reduceAdd, Nat.reduceSub, Nat.reduceLeDiff, Nat.reduceEqDiff, Nat.reduceMul, Nat.reduceLT, Int.reduceLT, Int.reduceLE, Int.reduceEq, rsl_get, srcV_own]
      refine W_loopF (S := Unit) (fun _ => 0) (fun _ => [.ns] ++ tp 1 ++ [.i .i64 0] ++ tp 9) (fun _ => True) () trivial (by simp only [walkW, ld_own, lda_own, st_own, sta_own, len_app, if_true, if_false, reduceIte, Nat.reduceAdd, Nat.reduceSub, Nat.reduceLeDiff, Nat.reduceEqDiff, Nat.reduceMul, Nat.reduceLT, Int.reduceLT, Int.reduceLE, Int.reduceEq, rsl_get, srcV_own]) fun _ _ => ?_
      simp only [walkW, ld_own, lda_own, st_own, sta_own, len_app, if_true, if_false, reduceIte, Nat.reduceAdd, Nat.reduceSub, Nat.reduceLeDiff, Nat.reduceEqDiff, Nat.reduceMul, Nat.reduceLT, Int.reduceLT, Int.reduceLE, Int.reduceEq, rsl_get, srcV_own, Int.lt_irrefl, false_implies]
      exact Bt.eq rfl (List.append_nil h)
    · obtain ⟨l, hs, e⟩ := getS_bind e
      split at e
      · rename_i id hid
        split at e
        · rename_i hc
          cases e
          obtain ⟨h1, h2, h3⟩ := hc
          have hlt := (List.getElem?_eq_some_iff.1 h2).1
          by_cases h0 : l.length = 0
          · have e2 : h.set id .dead = h := set_dead (by rw [h2]; unfold resB; rw [if_pos h0])
            rw [e2, h1]
            unfold rsl
            rw [if_pos h0]
            refine FnAt.c (FnAt.run (by kernel_rfl) (T := ⟨[], []⟩) ⟨trivial, trivial⟩ Try.func49 sw49 fun ho hh => ?_)
            unfold w49
            simp only [rep_0, rep_s, walkW, ld_own, lda_own, st_own, sta_own, len_app, if_true, if_false, reduceIte, Nat.reduceAdd, Nat.reduceSub, Nat.reduceLeDiff, Nat.reduceEqDiff, Nat.reduceMul, Nat.reduceLT, Int.reduceLT, Int.reduceLE, Int.reduceEq, rsl_get, srcV_own]
            refine W_loopF (S := Unit) (fun _ => 0) (fun _ => [.sl id 0 0 0 (some 0)] ++ tp 1 ++ [.i .i64 0] ++ tp 9) (fun _ => True) () trivial (by simp only [walkW, ld_own, lda_own, st_own, sta_own, len_app, if_true, if_false, reduceIte, Nat.reduceAdd, Nat.reduceSub, Nat.reduceLeDiff, Nat.reduceEqDiff, Nat.reduceMul, Nat.reduceLT, Int.reduceLT, Int.reduceLE, Int.reduceEq, rsl_get, srcV_own]) fun _ _ => ?_
            simp only [walkW, ld_own, lda_own, st_own, sta_own, len_app, if_true, if_false, reduceIte, Nat.reduceAdd, Nat.reduceSub, Nat.reduceLeDiff, Nat.reduceEqDiff, Nat.reduceMul, Nat.reduceLT, Int.reduceLT, Int.reduceLE, Int.reduceEq, rsl_get, srcV_own, Int.natCast_zero, Int.lt_irrefl, false_implies, lenV]
            exact Bt.eq rfl (List.append_nil h)
          · rw [h1]
            unfold rsl
            rw [if_neg h0]
            have hb : h[id]? = some (.blk true true (intR.cells l)) := by rw [h2]; unfold resB; rw [if_neg h0]
            refine FnAt.c (FnAt.run (by kernel_rfl) (T := ⟨[], []⟩) ⟨trivial, trivial⟩ Try.func49 sw49 fun ho hh => ?_)
            unfold w49
            simp only [rep_0, rep_s, walkW, ld_own, lda_own, st_own, sta_own, len_app, if_true, if_false, reduceIte, Nat.reduceAdd, Nat.reduceSub, Nat.reduceLeDiff, Nat.reduceEqDiff, Nat.reduceMul, Nat.reduceLT, Int.reduceLT, Int.reduceLE, Int.reduceEq, rsl_get, srcV_own]
            refine W_loopS (S := Nat) (fun k => l.length - k) (fun k => [.sl id 0 l.length l.length (some intR.sz)] ++ tp 1 ++ [.i .i64 k] ++ tp 9) (fun _ => h.set id (topB l.length) ++ []) (fun k => k ≤ l.length) 0 (Nat.zero_le _) (top_start hb (by simp [Row.cells_len, intR_sz]) (by simp only [walkW, ld_own, lda_own, st_own, sta_own, len_app, if_true, if_false, reduceIte, Nat.reduceAdd, Nat.reduceSub, Nat.reduceLeDiff, Nat.reduceEqDiff, Nat.reduceMul, Nat.reduceLT, Int.reduceLT, Int.reduceLE, Int.reduceEq, rsl_get, srcV_own])) fun k hk => ?_
            by_cases hlk : k < l.length
            · have g1 : ((k : Int) < (l.length : Int)) = True := eq_true (by omega)
              have e1 : IntKind.i64.wrap ((k : Int) + 1) = ((k + 1 : Nat) : Int) := wrap_in (by unfold In64; omega)
              have e3 := top_st (n := l.length) hlt [] (0 + k * 1) (.i .i64 (-77)) rfl rfl (by omega)
              simp only [walkW, ld_own, lda_own, st_own, sta_own, len_app, if_true, if_false, reduceIte, Nat.reduceAdd, Nat.reduceSub, Nat.reduceLeDiff, Nat.reduceEqDiff, Nat.reduceMul, Nat.reduceLT, Int.reduceLT, Int.reduceLE, Int.reduceEq, rsl_get, srcV_own, lenV, g1, e1, iadV, hlk, e3, false_implies]
              exact ⟨k + 1, by omega, by dsimp only; omega, top_back hlt _ _ (by simp; omega) (by simp only [walkW, ld_own, lda_own, st_own, sta_own, len_app, if_true, if_false, reduceIte, Nat.reduceAdd, Nat.reduceSub, Nat.reduceLeDiff, Nat.reduceEqDiff, Nat.reduceMul, Nat.reduceLT, Int.reduceLT, Int.reduceLE, Int.reduceEq, rsl_get, srcV_own])⟩
            · have g1 : ((k : Int) < (l.length : Int)) = False := eq_false (by omega)
              simp only [walkW, ld_own, lda_own, st_own, sta_own, len_app, if_true, if_false, reduceIte, Nat.reduceAdd, Nat.reduceSub, Nat.reduceLeDiff, Nat.reduceEqDiff, Nat.reduceMul, Nat.reduceLT, Int.reduceLT, Int.reduceLE, Int.reduceEq, rsl_get, srcV_own, lenV, g1, false_implies]
              exact top_end hlt
        · cases e
      · cases e
  · cases e
theorem OverDots_spec : Spec Try.prog 50 (T_over dotR) := by
  intro args h v h' e
  unfold T_over at e
  split at e
  · rename_i s
    split at e
    · rename_i hns
      cases e
      cases s <;> first | (cases hns; done) | skip
      refine FnAt.c (FnAt.run (by kernel_rfl) (T := ⟨[], []⟩) ⟨trivial, trivial⟩ Try.func50 sw50 fun ho hh => ?_)
      unfold w50
      simp only [rep_0, rep_s, walkW, ld_own, lda_own, st_own, sta_own, len_app, if_true, if_false, reduceIte, Nat.reduceAdd, Nat.reduceSub, Nat.reduceLeDiff, Nat.reduceEqDiff, Nat.reduceMul, Nat.reduceLT, Int.reduceLT, Int.reduceLE, Int.reduceEq, rsl_get, srcV_own]
      refine W_loopF (S := Unit) (fun _ => 0) (fun _ => [.ns] ++ tp 1 ++ [.i .i64 0] ++ tp 10) (fun _ => True) () trivial (by simp only [walkW, ld_own, lda_own, st_own, sta_own, len_app, if_true, if_false, reduceIte, Nat.reduceAdd, Nat.reduceSub, Nat.reduceLeDiff, Nat.reduceEqDiff, Nat.reduceMul, Nat.reduceLT, Int.reduceLT, Int.reduceLE, Int.reduceEq, rsl_get, srcV_own]) fun _ _ => ?_
      simp only [walkW, ld_own, lda_own, st_own, sta_own, len_app, if_true, if_false, reduceIte, Nat.reduceAdd, Nat.reduceSub, Nat.reduceLeDiff, Nat.reduceEqDiff, Nat.reduceMul, Nat.reduceLT, Int.reduceLT, Int.reduceLE, Int.reduceEq, rsl_get, srcV_own, Int.lt_irrefl, false_implies]
      exact Bt.eq rfl (List.append_nil h)
    · obtain ⟨l, hs, e⟩ := getS_bind e
      split at e
      · rename_i id hid
        split at e
        · rename_i hc
          cases e
          obtain ⟨h1, h2, h3⟩ := hc
          have hlt := (List.getElem?_eq_some_iff.1 h2).1
          by_cases h0 : l.length = 0
          · have e2 : h.set id .dead = h := set_dead (by rw [h2]; unfold resB; rw [if_pos h0])
            rw [e2, h1]
            unfold rsl
            rw [if_pos h0]
            refine FnAt.c (FnAt.run (by kernel_rfl) (T := ⟨[], []⟩) ⟨trivial, trivial⟩ Try.func50 sw50 fun ho hh => ?_)
            unfold w50
            simp only [rep_0, rep_s, walkW, ld_own, lda_own, st_own, sta_own, len_app, if_true, if_false, reduceIte, Nat.reduceAdd, Nat.reduceSub, Nat.reduceLeDiff, Nat.reduceEqDiff, Nat.reduceMul, Nat.reduceLT, Int.reduceLT, Int.reduceLE, Int.reduceEq, rsl_get, srcV_own]
            refine W_loopF (S := Unit) (fun _ => 0) (fun _ => [.sl id 0 0 0 (some 0)] ++ tp 1 ++ [.i .i64 0] ++ tp 10) (fun _ => True) () trivial (by simp only [walkW, ld_own, lda_own, st_own, sta_own, len_app, if_true, if_false, reduceIte, Nat.reduceAdd, Nat.reduceSub, Nat.reduceLeDiff, Nat.reduceEqDiff, Nat.reduceMul, Nat.reduceLT, Int.reduceLT, Int.reduceLE, Int.reduceEq, rsl_get, srcV_own]) fun _ _ => ?_
            simp only [walkW, ld_own, lda_own, st_own, sta_own, len_app, if_true, if_false, reduceIte, Nat.reduceAdd, Nat.reduceSub, Nat.reduceLeDiff, Nat.reduceEqDiff, Nat.reduceMul, Nat.reduceLT, Int.reduceLT, Int.reduceLE, Int.reduceEq, rsl_get, srcV_own, Int.natCast_zero, Int.lt_irrefl, false_implies, lenV]
            exact Bt.eq rfl (List.append_nil h)
          · rw [h1]
            unfold rsl
            rw [if_neg h0]
            have hb : h[id]? = some (.blk true true (dotR.cells l)) := by rw [h2]; unfold resB; rw [if_neg h0]
            refine FnAt.c (FnAt.run (by kernel_rfl) (T := ⟨[], []⟩) ⟨trivial, trivial⟩ Try.func50 sw50 fun ho hh => ?_)
            unfold w50
            simp only [rep_0, rep_s, walkW, ld_own, lda_own, st_own, sta_own, len_app, if_true, if_false, reduceIte, Nat.reduceAdd, Nat.reduceSub, Nat.reduceLeDiff, Nat.reduceEqDiff, Nat.reduceMul, Nat.reduceLT, Int.reduceLT, Int.reduceLE, Int.reduceEq, rsl_get, srcV_own]
            refine W_loopS (S := Nat) (fun k => l.length - k) (fun k => [.sl id 0 l.length l.length (some dotR.sz)] ++ tp 1 ++ [.i .i64 k] ++ tp 10) (fun _ => h.set id (topB (l.length * 2)) ++ []) (fun k => k ≤ l.length) 0 (Nat.zero_le _) (top_start hb (by simp [Row.cells_len, dotR_sz]) (by simp only [walkW, ld_own, lda_own, st_own, sta_own, len_app, if_true, if_false, reduceIte, Nat.reduceAdd, Nat.reduceSub, Nat.reduceLeDiff, Nat.reduceEqDiff, Nat.reduceMul, Nat.reduceLT, Int.reduceLT, Int.reduceLE, Int.reduceEq, rsl_get, srcV_own])) fun k hk => ?_
            by_cases hlk : k < l.length
            · have g1 : ((k : Int) < (l.length : Int)) = True := eq_true (by omega)
              have e1 : IntKind.i64.wrap ((k : Int) + 1) = ((k + 1 : Nat) : Int) := wrap_in (by unfold In64; omega)
              have e3 := top_sta (n := l.length * 2) hlt [] (0 + k * 2) 2 [.i .i64 (-7), .i .i64 0] rfl rfl (by omega)
              simp only [walkW, ld_own, lda_own, st_own, sta_own, len_app, if_true, if_false, reduceIte, Nat.reduceAdd, Nat.reduceSub, Nat.reduceLeDiff, Nat.reduceEqDiff, Nat.reduceMul, Nat.reduceLT, Int.reduceLT, Int.reduceLE, Int.reduceEq, rsl_get, srcV_own, lenV, g1, e1, iadV, hlk, e3, false_implies]
              exact ⟨k + 1, by omega, by dsimp only; omega, top_back hlt _ _ (by simp only [List.length_cons, List.length_nil]; omega) (by simp only [walkW, ld_own, lda_own, st_own, sta_own, len_app, if_true, if_false, reduceIte, Nat.reduceAdd, Nat.reduceSub, Nat.reduceLeDiff, Nat.reduceEqDiff, Nat.reduceMul, Nat.reduceLT, Int.reduceLT, Int.reduceLE, Int.reduceEq, rsl_get, srcV_own])⟩
            · have g1 : ((k : Int) < (l.length : Int)) = False := eq_false (by omega)
              simp only [walkW, ld_own, lda_own, st_own, sta_own, len_app, if_true, if_false, reduceIte, Nat.reduceAdd, Nat.reduceSub, Nat.reduceLeDiff, Nat.reduceEqDiff, Nat.reduceMul, Nat.reduceLT, Int.reduceLT, Int.reduceLE, Int.reduceEq, rsl_get, srcV_own, lenV, g1, false_implies]
              exact top_end hlt
        · cases e
      · cases e
  · cases e
theorem HOk_dead {h : List AB} (hh : HOk h) (i : Nat) : HOk (h.set i .dead) := by
  intro j B hB
  rw [List.length_set]
  rw [List.getElem?_set] at hB
  split at hB
  · split at hB
    · cases hB
      rfl
    · cases hB
  · exact hh j B hB
theorem T_over_ns {α : Type} {r : Row α} (h : List AB) : T_over r [.ns] h = some (.tu [], h) := rfl
theorem T_over_app {α : Type} {r : Row α} {h : List AB} {id : Nat} {l : List α} (hb : h[id]? = some (resB r true l)) (hl : l.length ≤ 1000000) (x : List AB) : T_over r [rsl r id l] (h ++ x) = some (.tu [], h.set id .dead ++ x) := by
  have hlt := (List.getElem?_eq_some_iff.1 hb).1
  have hb' : (h ++ x)[id]? = some (resB r true l) := by rw [List.getElem?_append_left hlt]; exact hb
  have hg : getS r (h ++ x) (rsl r id l) = some l := (rsl_rd hb' (by unfold maxLen; omega)).get
  have hid : idOf (rsl r id l) = [id] := by unfold rsl; split <;> rfl
  have hn : (rsl r id l).isNs = false := by unfold rsl; split <;> rfl
  unfold T_over
  simp only [hn, Bool.false_eq_true, if_false, hg, Option.bind_some, hid, hb', hl, and_self, if_true]
  rw [List.set_append_left _ _ hlt]
open Classical in
noncomputable def T_OverC : List AV → List AB → Option (AV × List AB)
  | [.ag [.ns, .ns]], h => some (.tu [], h)
  | [.ag [s, t]], h => (getS intR h s).bind fun l => (getS dotR h t).bind fun m => match idOf s, idOf t with
      | [i], [j] => if s = rsl intR i l ∧ h[i]? = some (resB intR true l) ∧ t = rsl dotR j m ∧ h[j]? = some (resB dotR true m) ∧ i ≠ j ∧ l.length ≤ 1000000 ∧ m.length ≤ 1000000 then some (.tu [], (h.set i .dead).set j .dead) else none
      | _, _ => none
  | _, _ => none
theorem OverCloud_spec : Spec Try.prog 16 T_OverC := by
  intro args h v h' e
  unfold T_OverC at e
  split at e
  · cases e
    refine FnAt.c (FnAt.run (by kernel_rfl) (T := ⟨[⟨49, T_over intR, fun _ => []⟩, ⟨50, T_over dotR, fun _ => []⟩], []⟩) ⟨⟨OverInts_spec, OverDots_spec, trivial⟩, trivial⟩ Try.func16 sw16 fun ho hh => ?_)
    unfold w16
    simp only [rep_0, rep_s, walkW, ld_own, lda_own, st_own, sta_own, len_app, if_true, if_false, reduceIte, Nat.reduceAdd, Nat.reduceSub, Nat.reduceLeDiff, Nat.reduceEqDiff, Nat.reduceMul, Nat.reduceLT, Int.reduceLT, Int.reduceLE, Int.reduceEq, rsl_get, srcV_own, T_over_ns]
    exact Bt.drop _ hh rfl rfl
  · rename_i s t hne
    obtain ⟨l, hs, e⟩ := getS_bind e
    obtain ⟨m, ht, e⟩ := getS_bind e
    split at e
    · rename_i i j hi hj
      split at e
      · rename_i hc
        cases e
        obtain ⟨h1, h2, h3, h4, h5, h6, h7⟩ := hc
        refine FnAt.c (FnAt.run (by kernel_rfl) (T := ⟨[⟨49, T_over intR, fun _ => []⟩, ⟨50, T_over dotR, fun _ => []⟩], []⟩) ⟨⟨OverInts_spec, OverDots_spec, trivial⟩, trivial⟩ Try.func16 sw16 fun ho hh => ?_)
        have g1 := T_over_app h2 h6
        have g2 := T_over_app (r := dotR) (h := h.set i .dead) (id := j) (l := m) (by rw [List.getElem?_set_ne h5]; exact h4) h7
        subst h1 h3
        have lz : (h.set i .dead).length = h.length := List.length_set
        unfold w16
        simp only [rep_0, rep_s, walkW, walkM, if_true, if_false, reduceIte, Nat.reduceAdd, Nat.reduceSub, Nat.reduceLeDiff, Nat.reduceEqDiff, Nat.reduceMul, Nat.reduceLT, Int.reduceLT, Int.reduceLE, Int.reduceEq, g1, g2, lz]
        have b := Bt.drop (P := Try.prog) (v := .tu []) (a := .tu []) [.blk false true [rsl intR i l, rsl dotR j m]] (HOk_dead (HOk_dead hh i) j) rfl rfl
        rwa [List.length_set, List.length_set] at b
      · cases e
    · cases e
  · cases e
end Go.Proofs.Ytnnkfhlmkaobfaa
end
section
namespace Go.Proofs.Ytnnkfhlmkaobfaa
section
variable {α : Type} {r : Row α} {h l : List AB}
/-- What of the own blocks is seen, seen through. -/
def mskQ (base c anc : Nat) (past : List Pt) (l : List AB) : List AB := mskL base c anc past [] 0 l
def vis (base c anc : Nat) (past : List Pt) (k : Nat) : Bool := decide (k < c) || past.any (fun p => bit p.k anc && decide (p.lo ≤ base + k) && decide (base + k < p.hi))
theorem vis_eq (base c anc : Nat) (past : List Pt) (k : Nat) : qOk (base + c) 0 0 anc past (base + k) = vis base c anc past k := by
  rw [qOk_dec]
  unfold vis
  have e1 : decide (base + k < base + c) = decide (k < c) := decide_eq_decide.2 (by omega)
  have e2 : decide (base + k < 0) = false := decide_eq_false (by omega)
  rw [e1, e2, Bool.and_false, Bool.or_false]
theorem mskQ_get (base c anc : Nat) (past : List Pt) (l : List AB) (k : Nat) : (mskQ base c anc past l)[k]? = (l[k]?).map fun B => if vis base c anc past k = true then B.freeze else .dead := by
  unfold mskQ
  rw [mskL_get, Nat.zero_add]
  congr 1
  funext B
  rw [vis_eq]
  simp [memN_nil]
theorem mskQ_len (base c anc : Nat) (past : List Pt) (l : List AB) : (mskQ base c anc past l).length = l.length := by
  rcases Nat.lt_trichotomy (mskQ base c anc past l).length l.length with q | q | q
  · have := mskQ_get base c anc past l (mskQ base c anc past l).length
    rw [List.getElem?_eq_none (Nat.le_refl _), List.getElem?_eq_getElem q] at this
    cases this
  · exact q
  · have := mskQ_get base c anc past l l.length
    rw [List.getElem?_eq_none (Nat.le_refl _), List.getElem?_eq_getElem q] at this
    cases this
theorem ownC_at (L : List AB) (k : Nat) : ownC L k = match L[k]? with
    | some (.blk _ _ xs) => some xs
    | _ => none := by rw [← rdBlk_own]; rfl
theorem ownC_mskQ {base c anc : Nat} {past : List Pt} {k : Nat} (hv : vis base c anc past k = true) : ownC (mskQ base c anc past l) k = ownC l k := by
  rw [ownC_at, ownC_at, mskQ_get]
  cases l[k]? with
  | none => rfl
  | some B => simp only [Option.map_some, hv, if_true]; cases B <;> rfl
theorem bxL_mskQ {base c anc : Nat} {past : List Pt} {k : Nat} (hv : vis base c anc past k = true) : bxL (mskQ base c anc past l) k = bxL l k := by
  rw [← bxL_eq, ← bxL_eq]
  unfold bxS
  rw [mskQ_get]
  cases l[k]? with
  | none => rfl
  | some B =>
    simp only [Option.map_some, hv, if_true]
    cases B with
    | blk fl m xs => cases fl <;> (cases xs with | nil => rfl | cons a t => cases t <;> rfl)
    | _ => rfl
theorem ownR_iff (x : List α) : ∀ (L : List AB) (k : Nat), ownR r x L k ↔ ∃ m, L[k]? = some (resB r m x)
  | [], k => by simp [ownR]
  | B :: L, 0 => by simp [ownR]
  | B :: L, k + 1 => by simpa [ownR] using ownR_iff x L k
theorem ownR_mskQ {base c anc : Nat} {past : List Pt} {k : Nat} (x : List α) (hv : vis base c anc past k = true) (hr : ownR r x l k) : ownR r x (mskQ base c anc past l) k = True := by
  refine eq_true ?_
  rw [ownR_iff] at hr ⊢
  obtain ⟨m, e⟩ := hr
  exact ⟨false, by rw [mskQ_get, e, Option.map_some, if_pos hv, resB_fz]⟩
theorem mask_ownQ (hz : h.map AB.freeze = h) (c anc n : Nat) (past : List Pt) (l : List AB) (hn : n = h.length + l.length) : maskB (seen (h.length + c) anc past n) [] 0 (h ++ l) = h ++ mskQ h.length c anc past l := mask_own hz c anc n past [] l hn rfl
theorem mask_ownQ0 (hz : h.map AB.freeze = h) (anc n : Nat) (past : List Pt) (l : List AB) (hn : n = h.length + l.length) : maskB (seen h.length anc past n) [] 0 (h ++ l) = h ++ mskQ h.length 0 anc past l := mask_own hz 0 anc n past [] l hn rfl
theorem mask_ownC (hz : h.map AB.freeze = h) (c anc n : Nat) (past : List Pt) (w0 : Nat) (ws : List Nat) (l : List AB) (hn : n = h.length + l.length) (hw : ((w0 :: ws).all fun id => decide (h.length ≤ id)) = true) : maskB (seen (h.length + c) anc past n) (w0 :: ws) 0 (h ++ l) = h ++ mskL h.length c anc past (w0 :: ws) 0 l := mask_own hz c anc n past (w0 :: ws) l hn hw
theorem merge_none (G x l : List AB) (hG : G.length = l.length) : mergeB [] (h ++ (G ++ x)) 0 (h ++ l) = h ++ (l ++ x) := by
  rw [merge_own [] (G ++ x) l rfl]
  congr 1
  refine List.ext_getElem? fun j => ?_
  rw [mrgL_get]
  by_cases hj : j < l.length
  · rw [if_pos hj, if_neg (by simp), List.getElem?_append_left hj]
  · rw [if_neg hj, List.getElem?_append_right (by omega), List.getElem?_append_right (by omega), hG]
/-- Is an id seen by way of an earlier operation? -/
def qP (anc : Nat) : List Pt → Nat → Bool
  | [], _ => false
  | ⟨k, lo, hi, _, _⟩ :: l, id => if lo ≤ id ∧ id < hi then (if anc / 2 ^ k % 2 = 1 then true else qP anc l id) else qP anc l id
theorem qP_nil (anc id : Nat) : qP anc [] id = false := _root_.id rfl
theorem qP_cons (anc k lo hi : Nat) (rs ws : List Nat) (l : List Pt) (id : Nat) : qP anc (⟨k, lo, hi, rs, ws⟩ :: l) id = if lo ≤ id ∧ id < hi then (if anc / 2 ^ k % 2 = 1 then true else qP anc l id) else qP anc l id := _root_.id rfl
theorem qP_eq (anc id : Nat) : ∀ past : List Pt, qP anc past id = past.any fun p => bit p.k anc && decide (p.lo ≤ id) && decide (id < p.hi)
  | [] => rfl
  | ⟨k, lo, hi, rs, ws⟩ :: l => by
    rw [qP_cons, List.any_cons, qP_eq anc id l, bit_dec]
    by_cases h1 : lo ≤ id <;> by_cases h2 : id < hi <;> by_cases h3 : anc / 2 ^ k % 2 = 1 <;> simp [h1, h2, h3]
theorem qOk_q (len0 lo hi anc : Nat) (past : List Pt) (id : Nat) : qOk len0 lo hi anc past id = if id < len0 then true else if lo ≤ id ∧ id < hi then true else qP anc past id := by
  rw [qOk_dec, qP_eq]
  by_cases h1 : id < len0 <;> by_cases h2 : lo ≤ id <;> by_cases h3 : id < hi <;> simp [h1, h2, h3]
theorem vis_any (base c anc : Nat) (past : List Pt) (k : Nat) : vis base c anc past k = if k < c then true else qP anc past (base + k) := by
  unfold vis
  rw [qP_eq]
  by_cases h1 : k < c <;> simp [h1]
/-- Nothing that is seen lies within. -/
def sepA (anc lo hi : Nat) : List Pt → Bool
  | [] => true
  | ⟨k, lo', hi', _, _⟩ :: l => if hi' ≤ lo ∨ hi ≤ lo' then sepA anc lo hi l else if anc / 2 ^ k % 2 = 1 then false else sepA anc lo hi l
theorem sepA_nil (anc lo hi : Nat) : sepA anc lo hi [] = true := _root_.id rfl
theorem sepA_cons (anc lo hi k lo' hi' : Nat) (rs ws : List Nat) (l : List Pt) : sepA anc lo hi (⟨k, lo', hi', rs, ws⟩ :: l) = if hi' ≤ lo ∨ hi ≤ lo' then sepA anc lo hi l else if anc / 2 ^ k % 2 = 1 then false else sepA anc lo hi l := _root_.id rfl
theorem sepA_eq (anc lo hi : Nat) : ∀ past : List Pt, sepA anc lo hi past = past.all fun p' => !bit p'.k anc || decide (p'.hi ≤ lo) || decide (hi ≤ p'.lo)
  | [] => rfl
  | ⟨k, lo', hi', rs, ws⟩ :: l => by
    rw [sepA_cons, List.all_cons, sepA_eq anc lo hi l, bit_dec]
    by_cases h1 : hi' ≤ lo <;> by_cases h2 : hi ≤ lo' <;> by_cases h3 : anc / 2 ^ k % 2 = 1 <;> simp [h1, h2, h3]
/-- All that was done ahead has nothing to do with an operation, or stands ahead of it by the program. -/
def indA (len0 anc : Nat) (past0 : List Pt) (ws0 : List Nat) : List Pt → Bool
  | [] => true
  | ⟨k, lo, hi, rs, ws⟩ :: l => if anc / 2 ^ k % 2 = 1 then indA len0 anc past0 ws0 l else
      if (ws.all fun id => !qOk len0 0 0 anc past0 id) = true then
        if hi ≤ lo ∨ (len0 ≤ lo ∧ sepA anc lo hi past0 = true) then
          if (ws0.all fun id => !ptHas ⟨k, lo, hi, rs, ws⟩ id && !memN id (rs ++ ws)) = true then indA len0 anc past0 ws0 l else false
        else false
      else false
theorem indA_nil (len0 anc : Nat) (past0 : List Pt) (ws0 : List Nat) : indA len0 anc past0 ws0 [] = true := _root_.id rfl
theorem indA_cons (len0 anc : Nat) (past0 : List Pt) (ws0 : List Nat) (k lo hi : Nat) (rs ws : List Nat) (l : List Pt) : indA len0 anc past0 ws0 (⟨k, lo, hi, rs, ws⟩ :: l) = if anc / 2 ^ k % 2 = 1 then indA len0 anc past0 ws0 l else
      if (ws.all fun id => !qOk len0 0 0 anc past0 id) = true then
        if hi ≤ lo ∨ (len0 ≤ lo ∧ sepA anc lo hi past0 = true) then
          if (ws0.all fun id => !ptHas ⟨k, lo, hi, rs, ws⟩ id && !memN id (rs ++ ws)) = true then indA len0 anc past0 ws0 l else false
        else false
      else false := _root_.id rfl
theorem indA_eq (len0 anc : Nat) (past0 : List Pt) (ws0 : List Nat) : ∀ past : List Pt, past.all (indepS len0 anc past0 ws0) = indA len0 anc past0 ws0 past
  | [] => rfl
  | ⟨k, lo, hi, rs, ws⟩ :: l => by
    rw [indA_cons, List.all_cons, indA_eq len0 anc past0 ws0 l, indepS_dec, sepA_eq, bit_dec]
    by_cases h1 : anc / 2 ^ k % 2 = 1
    · simp [h1]
    · simp only [h1, decide_false, Bool.false_or, if_false]
      generalize (ws.all fun id => !qOk len0 0 0 anc past0 id) = a
      generalize (past0.all fun p' => !bit p'.k anc || decide (p'.hi ≤ lo) || decide (hi ≤ p'.lo)) = b
      generalize (ws0.all fun id => !ptHas ⟨k, lo, hi, rs, ws⟩ id && !memN id (rs ++ ws)) = e
      by_cases h2 : hi ≤ lo <;> by_cases h3 : len0 ≤ lo <;> cases a <;> cases b <;> cases e <;> simp [h2, h3]
variable {c : Ctx} {k : List IT} {fr : List AV} {len0 n anc : Nat} {past : List Pt} {d : Option Nat} {ops : List DOp}
theorem W_dmkC (w0 : Nat) (ws : List Nat) (vs : List AV) (v : AV) (G : List AB) : W c (.dmk (w0 :: ws) vs (some (v, G)) len0 n anc past d ops :: k) fr h = (okL (fun i => decide (i < h.length)) vs = true ∧ HOk h ∧ indA len0 anc past (w0 :: ws) past = true ∧ ((w0 :: ws).all fun id => decide (id < h.length)) = true ∧ h.length ≤ G.length ∧ v.ok (qOk len0 h.length G.length anc past) = true ∧
      ((w0 :: ws).all fun id => (G.getD id .dead).ok (qOk len0 h.length G.length anc past)) = true ∧ ((G.drop h.length).all fun B => B.ok (qOk len0 h.length G.length anc past)) = true ∧
      W c (.drw len0 (n + 1) (⟨n, h.length, G.length, seen len0 anc (bareP past) h.length, w0 :: ws⟩ :: past) ops :: k) (put fr d v) (mergeB (w0 :: ws) G 0 h)) := by
  rw [← indA_eq]
  exact W_dmkB (w0 :: ws) vs v G
theorem W_dmkQ (vs : List AV) (v : AV) (c0 anc' : Nat) (past' : List Pt) (x : List AB) : W c (.dmk [] vs (some (v, h ++ (mskQ h.length c0 anc' past' l ++ x))) len0 n anc past d ops :: k) fr (h ++ l) = (okL (fun i => decide (i < h.length + l.length)) vs = true ∧ HOk (h ++ l) ∧ indA len0 anc past [] past = true ∧ v.ok (qOk len0 (h.length + l.length) (h.length + (l.length + x.length)) anc past) = true ∧
      (x.all fun B => B.ok (qOk len0 (h.length + l.length) (h.length + (l.length + x.length)) anc past)) = true ∧
      W c (.drw len0 (n + 1) (⟨n, h.length + l.length, h.length + (l.length + x.length), seen len0 anc (bareP past) (h.length + l.length), []⟩ :: past) ops :: k) (put fr d v) (h ++ (l ++ x))) := by
  rw [← indA_eq, W_dmkB, merge_none _ _ _ (mskQ_len _ _ _ _ _)]
  have e1 : (h ++ l).length = h.length + l.length := List.length_append
  have e2 : (h ++ (mskQ h.length c0 anc' past' l ++ x)).length = h.length + (l.length + x.length) := by rw [List.length_append, List.length_append, mskQ_len]
  have e3 : (h ++ (mskQ h.length c0 anc' past' l ++ x)).drop (h ++ l).length = x := by
    rw [e1, drop_own, List.drop_append_of_le_length (by rw [mskQ_len]; exact Nat.le_refl _), List.drop_eq_nil_of_le (by rw [mskQ_len]; exact Nat.le_refl _), List.nil_append]
  rw [e3, e2, e1]
  have e4 : (h.length + l.length ≤ h.length + (l.length + x.length)) = True := eq_true (by omega)
  simp only [List.all_nil, e4, true_and]
theorem W_dmkQ0 (vs : List AV) (v : AV) (c0 anc' : Nat) (past' : List Pt) : W c (.dmk [] vs (some (v, h ++ mskQ h.length c0 anc' past' l)) len0 n anc past d ops :: k) fr (h ++ l) = (okL (fun i => decide (i < h.length + l.length)) vs = true ∧ HOk (h ++ l) ∧ indA len0 anc past [] past = true ∧ v.ok (qOk len0 (h.length + l.length) (h.length + l.length) anc past) = true ∧
      W c (.drw len0 (n + 1) (⟨n, h.length + l.length, h.length + l.length, seen len0 anc (bareP past) (h.length + l.length), []⟩ :: past) ops :: k) (put fr d v) (h ++ l)) := by
  have := W_dmkQ (c := c) (k := k) (fr := fr) (len0 := len0) (n := n) (anc := anc) (past := past) (d := d) (ops := ops) (h := h) (l := l) vs v c0 anc' past' []
  simpa only [List.append_nil, List.length_nil, Nat.add_zero, List.all_nil, true_and] using this
theorem W_dldQ (v : AV) (h' : List AB) (x : AV) : W c (.dld (some (v, h')) x len0 n anc past d ops :: k) fr h = (indA len0 anc past [] past = true ∧ x.ok (qOk len0 0 0 anc past) = true ∧ v.ok (qOk len0 0 0 anc past) = true ∧ W c (.drw len0 (n + 1) (⟨n, 0, 0, idOf x, []⟩ :: past) ops :: k) (put fr d v) h) := by
  rw [← indA_eq]
  exact W_dld v h' x
theorem maxLen_ok {n : Nat} (h : n ≤ 1000000) : (n ≤ maxLen) = True := eq_true (by unfold maxLen; omega)
end
def walkQ := (And.intro (And.intro (And.intro (And.intro (And.intro (And.intro (And.intro @W_drw @W_drw_nil) (And.intro @W_drw_op @W_drw_g)) (And.intro (And.intro @W_dgr_1 @W_dgr_0) (And.intro @W_dgr_10 (And.intro @W_dgr_01 @W_dgr_u)))) (And.intro (And.intro (And.intro @W_dgr_t @W_dgr_f) (And.intro @W_dop_free (And.intro @W_dop_ld @W_dop_mem))) (And.intro (And.intro @W_dop_call @W_dfr) (And.intro @W_dfr_if (And.intro @W_dldQ @bareP_nil))))) (And.intro (And.intro (And.intro (And.intro @bareP_cons @W_dmk_if) (And.intro @mk_mv @mk_pick)) (And.intro (And.intro @mk_bin @mk_eqb) (And.intro @mk_eqc (And.intro @mk_eqn @mk_un)))) (And.intro (And.intro (And.intro @mk_cvi @mk_cvs) (And.intro @mk_fad (And.intro @mk_fld @mk_iad))) (And.intro (And.intro @mk_iaa @mk_ixs) (And.intro @mk_ixa (And.intro @mk_sls @mk_sll)))))) (And.intro (And.intro (And.intro (And.intro (And.intro @mk_sla @mk_ifc) (And.intro @mk_mkf @mk_ext)) (And.intro (And.intro @mk_len @mk_lnc) (And.intro @mk_mm (And.intro @mk_nck @mk_tas)))) (And.intro (And.intro (And.intro @mk_bld @mk_capo) (And.intro @mk_new (And.intro @mk_box @mk_bls))) (And.intro (And.intro @mk_mks @mk_app) (And.intro @mk_cpy (And.intro @mk_apz @mk_b2s))))) (And.intro (And.intro (And.intro (And.intro @mk_clr @mk_bcmp) (And.intro @mk_st @memN_nil)) (And.intro (And.intro @memN_cons @memN_app) (And.intro @memN_seen (And.intro @ptHas_dec @msk_nil)))) (And.intro (And.intro (And.intro @msk_cons @fz_blk) (And.intro @fz_dead (And.intro @mrg_nil @mrg_cons))) (And.intro (And.intro @getD_0 @getD_s) (And.intro @abok_t (And.intro @abok_f @abok_d))))))) (And.intro (And.intro (And.intro (And.intro (And.intro (And.intro @ok_i @ok_b) (And.intro @ok_s @ok_ns)) (And.intro (And.intro @ok_np @ok_nf) (And.intro @ok_p (And.intro @ok_y @ok_sl)))) (And.intro (And.intro (And.intro @ok_f @ok_ag) (And.intro @ok_tu (And.intro @okL_nil @okL_cons))) (And.intro (And.intro @nthA_pl @lt_add) (And.intro @le_add (And.intro @eq_add @lt_zero))))) (And.intro (And.intro (And.intro (And.intro @zero_le' @le_self) (And.intro @any_nil @any_cons)) (And.intro (And.intro @idOf_p @idOf_sl) (And.intro @idOf_ns (And.intro @wsC_call @wsC_st)))) (And.intro (And.intro (And.intro @wsC_app @wsC_new) (And.intro @wsC_box (And.intro @wsC_bls @wsC_mks))) (And.intro (And.intro @Tab.ws_nil @Tab.ws_cons) (And.intro @decide_true (And.intro @decide_false @Bool.or_true)))))) (And.intro (And.intro (And.intro (And.intro (And.intro @Bool.or_false @Bool.true_or) (And.intro @Bool.false_or @Bool.not_true)) (And.intro (And.intro @Bool.not_false @resB_ok) (And.intro @rsl_ok (And.intro @rsl_okEl @lapp_nil)))) (And.intro (And.intro (And.intro @lapp_cons @fm_nil) (And.intro @fm_cons (And.intro @abok_lp @apS_ok))) (And.intro (And.intro @idOf_rsl @W_dmkC) (And.intro @W_dmkQ (And.intro @W_dmkQ0 @ownC_mskQ))))) (And.intro (And.intro (And.intro (And.intro @bxL_mskQ @ownR_mskQ) (And.intro @mskQ_len @vis_any)) (And.intro (And.intro @qP_nil @qP_cons) (And.intro @qOk_q (And.intro @sepA_nil @sepA_cons)))) (And.intro (And.intro (And.intro @indA_nil @indA_cons) (And.intro @and_self (And.intro @false_and @and_false))) (And.intro (And.intro @or_true @true_or) (And.intro @false_or (And.intro @or_false @maxLen_ok))))))))
end Go.Proofs.Ytnnkfhlmkaobfaa
end
