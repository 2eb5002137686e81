/- Part 23 of what the laws' proofs rest on. No condition. -/
import Derived.Test.YtnnkfhlmkaobfaaCm22
set_option linter.all false
section
namespace Go.Proofs.Ytnnkfhlmkaobfaa
set_option maxRecDepth 100000
set_option maxHeartbeats 4000000
set_option linter.unusedSimpArgs false
/-- The reference's first: no sign is looked at. -/
def rAt (v : List Int) (r : Int) : Int := if r < 1 ∨ (v.length : Int) < r then 0 else v.getD (r - 1).toNat 0
noncomputable def T_rfirst : List AV → List AB → Option (AV × List AB)
  | [.ag [s, t], .i .i64 r], h => (getS intR h s).bind fun v => (getS dotR h t).bind fun _ => some (.i .i64 (rAt v r), h)
  | _, _ => none
theorem rfirst_spec : Spec Try.prog 43 T_rfirst := by
  intro args h v h' e
  unfold T_rfirst at e
  split at e
  · rename_i s t r
    obtain ⟨vs, hs, e⟩ := getS_bind e
    obtain ⟨ds, ht, e⟩ := getS_bind e
    cases e
    refine FnAt.c (FnAt.run (by kernel_rfl) (T := ⟨[], []⟩) ⟨trivial, trivial⟩ Try.func43 sw43 fun ho hh => ?_)
    simp only [okL_cons, ok_ag, Bool.and_eq_true] at ho
    have f1 := hs.fx ho.1.1 (sz := 1) rfl
    have f2 := ht.fx ho.1.2.1 (sz := 2) rfl
    have hm := hs.2
    unfold maxLen at hm
    unfold w43
    by_cases hr : r < 1 ∨ (vs.length : Int) < r
    · have ev : rAt vs r = 0 := by unfold rAt; rw [if_pos hr]
      by_cases h1 : r < 1
      · have h1' := eq_true h1
        simp only [rep_0, rep_s, walkW, ld_own, lda_own, st_own, sta_own, len_app, if_true, if_false, reduceIte, Nat.reduceAdd, Nat.reduceSub, Nat.reduceLeDiff, Nat.reduceEqDiff, Nat.reduceMul, Nat.reduceLT, Int.reduceLT, Int.reduceLE, Int.reduceEq, rsl_get, srcV_own, f1, f2, h1']
        exact ⟨Bt.dropI _ hh ev.symm, fun q => q.elim⟩
      · have h1' := eq_false h1
        have h2' : ((vs.length : Int) < r) = True := eq_true (by omega)
        simp only [rep_0, rep_s, walkW, ld_own, lda_own, st_own, sta_own, len_app, if_true, if_false, reduceIte, Nat.reduceAdd, Nat.reduceSub, Nat.reduceLeDiff, Nat.reduceEqDiff, Nat.reduceMul, Nat.reduceLT, Int.reduceLT, Int.reduceLE, Int.reduceEq, rsl_get, srcV_own, f1, f2, h1', h2']
        exact ⟨fun q => q.elim, Bt.dropI _ hh ev.symm, fun q => q.elim⟩
    · have h1' : (r < 1) = False := eq_false (by omega)
      have h2' : ((vs.length : Int) < r) = False := eq_false (by omega)
      have ew : IntKind.i64.wrap (r - 1) = r - 1 := wrap_in (by unfold In64; omega)
      have e2 : (0 ≤ r - 1 ∧ r - 1 < (vs.length : Int)) = True := eq_true (by omega)
      have e3 : ((r - 1).toNat < vs.length) = True := eq_true (by omega)
      simp only [rep_0, rep_s, walkW, ld_own, lda_own, st_own, sta_own, len_app, if_true, if_false, reduceIte, Nat.reduceAdd, Nat.reduceSub, Nat.reduceLeDiff, Nat.reduceEqDiff, Nat.reduceMul, Nat.reduceLT, Int.reduceLT, Int.reduceLE, Int.reduceEq, rsl_get, srcV_own, f1, f2, h1', h2', ew, e2, e3, intR_f]
      exact ⟨fun q => q.elim, fun q => q.elim, Bt.dropI _ hh (by unfold rAt; rw [if_neg hr]; rfl)⟩
  · cases e
noncomputable def T_both : List AV → List AB → Option (AV × List AB)
  | [.ag [s, t], .ag [s', t']], h => (getS intR h s).bind fun v => (getS dotR h t).bind fun ds => (getS intR h s').bind fun v' => (getS dotR h t').bind fun ds' => some (.i .i64 (if checkR v ds = 0 then checkR v' ds' else checkR v ds), h)
  | _, _ => none
theorem rboth_spec : Spec Try.prog 42 T_both := by
  intro args h v h' e
  unfold T_both at e
  split at e
  · rename_i s t s' t'
    obtain ⟨vs, hs, e⟩ := getS_bind e
    obtain ⟨ds, ht, e⟩ := getS_bind e
    obtain ⟨vs', hs', e⟩ := getS_bind e
    obtain ⟨ds', ht', e⟩ := getS_bind e
    cases e
    refine FnAt.c (FnAt.run (by kernel_rfl) (T := ⟨[⟨24, T_rCheck, fun _ => []⟩], []⟩) ⟨⟨rCheck_spec, trivial⟩, trivial⟩ Try.func42 sw42 fun ho hh => ?_)
    simp only [okL_cons, ok_ag, Bool.and_eq_true] at ho
    have f1 := hs.fx ho.1.1 (sz := 1) rfl
    have f2 := ht.fx ho.1.2.1 (sz := 2) rfl
    have f3 := hs'.fx ho.2.1.1 (sz := 1) rfl
    have f4 := ht'.fx ho.2.1.2.1 (sz := 2) rfl
    unfold w42
    simp only [rep_0, rep_s, walkW, ld_own, lda_own, st_own, sta_own, len_app, if_true, if_false, reduceIte, Nat.reduceAdd, Nat.reduceSub, Nat.reduceLeDiff, Nat.reduceEqDiff, Nat.reduceMul, Nat.reduceLT, Int.reduceLT, Int.reduceLE, Int.reduceEq, rsl_get, srcV_own, f1, f2, f3, f4, T_rCheck]
    exact ⟨fun q => Bt.dropI _ hh (by rw [if_neg q]), fun q => Bt.dropI _ hh (by rw [if_pos (Decidable.not_not.1 q)])⟩
  · cases e
def rhasP (v : List Int) (ds : Dots) (d : Int × Int) : Prop := (1 ≤ d.2 ∧ d.2 ≤ rAt v d.1) ∨ d ∈ ds
instance (v : List Int) (ds : Dots) (d : Int × Int) : Decidable (rhasP v ds d) := by unfold rhasP; infer_instance
noncomputable def T_rhas : List AV → List AB → Option (AV × List AB)
  | [.ag [s, t], .ag [.i .i64 a, .i .i64 b]], h => (getS intR h s).bind fun v => (getS dotR h t).bind fun ds => some (.b (decide (rhasP v ds (a, b))), h)
  | _, _ => none
theorem rhas_spec : Spec Try.prog 48 T_rhas := by
  intro args h v h' e
  unfold T_rhas at e
  split at e
  · rename_i s t a b
    obtain ⟨vs, hs, e⟩ := getS_bind e
    obtain ⟨ds, ht, e⟩ := getS_bind e
    cases e
    refine FnAt.c (FnAt.frz0 fun hz => ?_)
    replace hs := hs.frz
    replace ht := ht.frz
    generalize h.map AB.freeze = h at *
    refine FnAt.run (by kernel_rfl) (T := ⟨[⟨43, T_rfirst, fun _ => []⟩], []⟩) ⟨⟨rfirst_spec, trivial⟩, trivial⟩ Try.func48 sw48 fun ho hh => ?_
    simp only [okL_cons, ok_ag, Bool.and_eq_true] at ho
    have f1 := hs.fx ho.1.1 (sz := 1) rfl
    have f2 := ht.fx ho.1.2.1 (sz := 2) rfl
    have m2 := ht.2
    unfold maxLen at m2
    unfold w48
    have yes : (1 ≤ b ∧ b ≤ rAt vs a) → true = decide (rhasP vs ds (a, b)) := fun q => (decide_eq_true (.inl q)).symm
    have eq2 : ∀ w : Int × Int, eqCells [.i, .i] [.i .i64 w.1, .i .i64 w.2] [.i .i64 a, .i .i64 b] = some (decide (w = (a, b))) := fun w => eqc2 w (a, b)
    simp only [rep_0, rep_s, walkW, walkD, ld_own, lda_own, st_own, sta_own, len_app, if_true, if_false, reduceIte, Nat.reduceAdd, Nat.reduceSub, Nat.reduceLeDiff, Nat.reduceEqDiff, Nat.reduceMul, Nat.reduceLT, Int.reduceLT, Int.reduceLE, Int.reduceEq, rsl_get, srcV_own, merge_own, drop_own, getD_own, CO.tmps, Opd.tmps, optT, Nat.reducePow, Nat.reduceDiv, Nat.reduceMod, f1, f2, T_rfirst, mask_own hz, HOk_own hh]
    refine ⟨fun q1 => ⟨fun q2 => Bt.dropB _ hh (yes ⟨q1, q2⟩), fun q2 => ?_⟩, fun q1 => ?_⟩
    · have no : ¬ (1 ≤ b ∧ b ≤ rAt vs a) := fun q => q2 q.2
      refine W_loopF (S := Nat) (fun i => ds.length - i) (fun i => tp 2 ++ [.p (h.length + 0) 0, .p (h.length + 1) 0] ++ tp 1 ++ [.i .i64 i] ++ tp 26) (fun i => i ≤ ds.length ∧ (a, b) ∉ ds.take i) 0 ⟨Nat.zero_le _, by simp⟩ (by simp only [walkW, ld_own, lda_own, st_own, sta_own, len_app, if_true, if_false, reduceIte, Nat.reduceAdd, Nat.reduceSub, Nat.reduceLeDiff, Nat.reduceEqDiff, Nat.reduceMul, Nat.reduceLT, Int.reduceLT, Int.reduceLE, Int.reduceEq, rsl_get, srcV_own]) fun i hi => ?_
      simp only [walkW, ld_own, lda_own, st_own, sta_own, len_app, if_true, if_false, reduceIte, Nat.reduceAdd, Nat.reduceSub, Nat.reduceLeDiff, Nat.reduceEqDiff, Nat.reduceMul, Nat.reduceLT, Int.reduceLT, Int.reduceLE, Int.reduceEq, rsl_get, srcV_own, f1, f2]
      refine ⟨fun g5 => ?_, fun g5 => ?_⟩
      · have e1 : IntKind.i64.wrap ((i : Int) + 1) = ((i + 1 : Nat) : Int) := wrap_in (by unfold In64; omega)
        simp only [walkW, walkD, ld_own, lda_own, st_own, sta_own, len_app, if_true, if_false, reduceIte, Nat.reduceAdd, Nat.reduceSub, Nat.reduceLeDiff, Nat.reduceEqDiff, Nat.reduceMul, Nat.reduceLT, Int.reduceLT, Int.reduceLE, Int.reduceEq, rsl_get, srcV_own, merge_own, drop_own, getD_own, CO.tmps, Opd.tmps, optT, Nat.reducePow, Nat.reduceDiv, Nat.reduceMod, f1, f2, g5, dotR_f, eq2, e1, mask_own hz, HOk_own hh]
        refine ⟨fun g4 => Bt.dropB _ hh ?_, fun g4 => ⟨i + 1, ⟨g5, ?_⟩, by omega, Wk.refl _⟩⟩
        · refine (decide_eq_true (.inr ?_)).symm
          rw [← g4, List.getD_eq_getElem?_getD, List.getElem?_eq_getElem g5]
          exact List.getElem_mem g5
        · rw [List.take_succ_eq_append_getElem g5]
          rw [List.getD_eq_getElem?_getD, List.getElem?_eq_getElem g5, Option.getD_some] at g4
          exact fun q => (List.mem_append.1 q).elim hi.2 fun q => g4 (List.mem_singleton.1 q).symm
      · refine Bt.dropB _ hh (decide_eq_false fun q => ?_).symm
        have := hi.2
        rw [List.take_of_length_le (by omega)] at this
        exact q.elim no this
    · have no : ¬ (1 ≤ b ∧ b ≤ rAt vs a) := fun q => q1 q.1
      refine W_loopF (S := Nat) (fun i => ds.length - i) (fun i => tp 2 ++ [.p (h.length + 0) 0, .p (h.length + 1) 0] ++ tp 1 ++ [.i .i64 i] ++ tp 26) (fun i => i ≤ ds.length ∧ (a, b) ∉ ds.take i) 0 ⟨Nat.zero_le _, by simp⟩ (by simp only [walkW, ld_own, lda_own, st_own, sta_own, len_app, if_true, if_false, reduceIte, Nat.reduceAdd, Nat.reduceSub, Nat.reduceLeDiff, Nat.reduceEqDiff, Nat.reduceMul, Nat.reduceLT, Int.reduceLT, Int.reduceLE, Int.reduceEq, rsl_get, srcV_own]) fun i hi => ?_
      simp only [walkW, ld_own, lda_own, st_own, sta_own, len_app, if_true, if_false, reduceIte, Nat.reduceAdd, Nat.reduceSub, Nat.reduceLeDiff, Nat.reduceEqDiff, Nat.reduceMul, Nat.reduceLT, Int.reduceLT, Int.reduceLE, Int.reduceEq, rsl_get, srcV_own, f1, f2]
      refine ⟨fun g5 => ?_, fun g5 => ?_⟩
      · have e1 : IntKind.i64.wrap ((i : Int) + 1) = ((i + 1 : Nat) : Int) := wrap_in (by unfold In64; omega)
        simp only [walkW, walkD, ld_own, lda_own, st_own, sta_own, len_app, if_true, if_false, reduceIte, Nat.reduceAdd, Nat.reduceSub, Nat.reduceLeDiff, Nat.reduceEqDiff, Nat.reduceMul, Nat.reduceLT, Int.reduceLT, Int.reduceLE, Int.reduceEq, rsl_get, srcV_own, merge_own, drop_own, getD_own, CO.tmps, Opd.tmps, optT, Nat.reducePow, Nat.reduceDiv, Nat.reduceMod, f1, f2, g5, dotR_f, eq2, e1, mask_own hz, HOk_own hh]
        refine ⟨fun g4 => Bt.dropB _ hh ?_, fun g4 => ⟨i + 1, ⟨g5, ?_⟩, by omega, Wk.refl _⟩⟩
        · refine (decide_eq_true (.inr ?_)).symm
          rw [← g4, List.getD_eq_getElem?_getD, List.getElem?_eq_getElem g5]
          exact List.getElem_mem g5
        · rw [List.take_succ_eq_append_getElem g5]
          rw [List.getD_eq_getElem?_getD, List.getElem?_eq_getElem g5, Option.getD_some] at g4
          exact fun q => (List.mem_append.1 q).elim hi.2 fun q => g4 (List.mem_singleton.1 q).symm
      · refine Bt.dropB _ hh (decide_eq_false fun q => ?_).symm
        have := hi.2
        rw [List.take_of_length_le (by omega)] at this
        exact q.elim no this
  · cases e
noncomputable def T_rHas : List AV → List AB → Option (AV × List AB)
  | [.ag [s, t], .ag [.i .i64 a, .i .i64 b]], h => (getS intR h s).bind fun v => (getS dotR h t).bind fun ds => some (.b (decide (checkR v ds = 0 ∧ rhasP v ds (a, b))), h)
  | _, _ => none
theorem rHas_spec : Spec Try.prog 26 T_rHas := by
  intro args h v h' e
  unfold T_rHas at e
  split at e
  · rename_i s t a b
    obtain ⟨vs, hs, e⟩ := getS_bind e
    obtain ⟨ds, ht, e⟩ := getS_bind e
    cases e
    refine FnAt.c (FnAt.run (by kernel_rfl) (T := ⟨[⟨24, T_rCheck, fun _ => []⟩, ⟨48, T_rhas, fun _ => []⟩], []⟩) ⟨⟨rCheck_spec, rhas_spec, trivial⟩, trivial⟩ Try.func26 sw26 fun ho hh => ?_)
    simp only [okL_cons, ok_ag, Bool.and_eq_true] at ho
    have f1 := hs.fx ho.1.1 (sz := 1) rfl
    have f2 := ht.fx ho.1.2.1 (sz := 2) rfl
    unfold w26
    simp only [rep_0, rep_s, walkW, ld_own, lda_own, st_own, sta_own, len_app, if_true, if_false, reduceIte, Nat.reduceAdd, Nat.reduceSub, Nat.reduceLeDiff, Nat.reduceEqDiff, Nat.reduceMul, Nat.reduceLT, Int.reduceLT, Int.reduceLE, Int.reduceEq, rsl_get, srcV_own, f1, f2, T_rCheck, T_rhas]
    refine ⟨fun q => Bt.dropB _ hh ?_, fun q => Bt.dropB _ hh ?_⟩
    · simp only [q, true_and]
    · simp only [q, false_and, decide_false]
  · cases e
/-- The sum of a vector's first i. -/
def sumI (v : List Int) : Nat → Int
  | 0 => 0
  | n + 1 => sumI v n + v.getD n 0
def countR (v : List Int) (ds : Dots) : Int := if checkR v ds = 0 then ds.length + sumI v v.length else 0
theorem sumI_bd (v : List Int) (h : ∀ n ∈ v, 0 ≤ n ∧ n ≤ 1048576) : ∀ i, 0 ≤ sumI v i ∧ sumI v i ≤ i * 1048576
  | 0 => ⟨Int.le_refl _, by simp [sumI]⟩
  | i + 1 => by
    have h1 := sumI_bd v h i
    have h2 : 0 ≤ v.getD i 0 ∧ v.getD i 0 ≤ 1048576 := by
      rw [List.getD_eq_getElem?_getD]
      cases e : v[i]? with
      | none => simp
      | some x => exact h x (List.mem_of_getElem? e)
    simp only [sumI]
    omega
theorem checkR_0 {v : List Int} {ds : Dots} (h : checkR v ds = 0) : rangedP v ds ∧ ds.length ≤ 4096 ∧ fmO v ds = (v, ds) := by
  unfold checkR at h
  split at h
  · cases h
  · rename_i h1
    split at h
    · cases h
    · rename_i h2
      split at h
      · rename_i h3
        exact ⟨Decidable.not_not.1 h1, by omega, h3⟩
      · cases h
noncomputable def T_rCount : List AV → List AB → Option (AV × List AB)
  | [.ag [s, t]], h => (getS intR h s).bind fun v => (getS dotR h t).bind fun ds => some (.i .i64 (countR v ds), h)
  | _, _ => none
theorem rCount_spec : Spec Try.prog 28 T_rCount := by
  intro args h v h' e
  unfold T_rCount at e
  split at e
  · rename_i s t
    obtain ⟨vs, hs, e⟩ := getS_bind e
    obtain ⟨ds, ht, e⟩ := getS_bind e
    cases e
    refine FnAt.c (FnAt.run (by kernel_rfl) (T := ⟨[⟨24, T_rCheck, fun _ => []⟩], []⟩) ⟨⟨rCheck_spec, trivial⟩, trivial⟩ Try.func28 sw28 fun ho hh => ?_)
    simp only [okL_cons, ok_ag, Bool.and_eq_true] at ho
    have f1 := hs.fx ho.1.1 (sz := 1) rfl
    have f2 := ht.fx ho.1.2.1 (sz := 2) rfl
    unfold w28
    simp only [rep_0, rep_s, walkW, ld_own, lda_own, st_own, sta_own, len_app, if_true, if_false, reduceIte, Nat.reduceAdd, Nat.reduceSub, Nat.reduceLeDiff, Nat.reduceEqDiff, Nat.reduceMul, Nat.reduceLT, Int.reduceLT, Int.reduceLE, Int.reduceEq, rsl_get, srcV_own, f1, f2, T_rCheck]
    refine ⟨fun q => Bt.dropI _ hh (by unfold countR; rw [if_neg q]), fun q => ?_⟩
    have q := Decidable.not_not.1 q
    obtain ⟨⟨b1, b2, b3⟩, b4, -⟩ := checkR_0 q
    have bd := sumI_bd vs b2
    refine W_loopF (S := Nat) (fun i => vs.length - i) (fun i => tp 1 ++ [.p (h.length + 0) 0] ++ tp 1 ++ [.i .i64 ((ds.length : Int) + sumI vs i), .i .i64 i] ++ tp 21) (fun i => i ≤ vs.length) 0 (Nat.zero_le _) (by simp only [walkW, ld_own, lda_own, st_own, sta_own, len_app, if_true, if_false, reduceIte, Nat.reduceAdd, Nat.reduceSub, Nat.reduceLeDiff, Nat.reduceEqDiff, Nat.reduceMul, Nat.reduceLT, Int.reduceLT, Int.reduceLE, Int.reduceEq, rsl_get, srcV_own, sumI, Int.add_zero]) fun i hi => ?_
    simp only [walkW, ld_own, lda_own, st_own, sta_own, len_app, if_true, if_false, reduceIte, Nat.reduceAdd, Nat.reduceSub, Nat.reduceLeDiff, Nat.reduceEqDiff, Nat.reduceMul, Nat.reduceLT, Int.reduceLT, Int.reduceLE, Int.reduceEq, rsl_get, srcV_own, f1, f2]
    refine ⟨fun g1 => ?_, fun g1 => ?_⟩
    · have e1 : IntKind.i64.wrap ((i : Int) + 1) = ((i + 1 : Nat) : Int) := wrap_in (by unfold In64; omega)
      have e2 : IntKind.i64.wrap ((ds.length : Int) + sumI vs i + vs.getD i 0) = (ds.length : Int) + sumI vs (i + 1) := by
        have h1 := bd (i + 1)
        rw [show (ds.length : Int) + sumI vs i + vs.getD i 0 = (ds.length : Int) + sumI vs (i + 1) from by simp only [sumI]; omega]
        exact wrap_in (by unfold In64; omega)
      have e3 : intR.d = (0 : Int) := rfl
      simp only [walkW, ld_own, lda_own, st_own, sta_own, len_app, if_true, if_false, reduceIte, Nat.reduceAdd, Nat.reduceSub, Nat.reduceLeDiff, Nat.reduceEqDiff, Nat.reduceMul, Nat.reduceLT, Int.reduceLT, Int.reduceLE, Int.reduceEq, rsl_get, srcV_own, f1, f2, g1, intR_f, e1, e3, e2]
      exact ⟨i + 1, g1, by omega, Wk.refl _, Wk.refl _⟩
    · have hx : i = vs.length := by omega
      exact Bt.dropI _ hh (by unfold countR; rw [if_pos q, hx])
  · cases e
end Go.Proofs.Ytnnkfhlmkaobfaa
end
section
namespace Go.Proofs.Ytnnkfhlmkaobfaa
set_option maxRecDepth 100000
set_option maxHeartbeats 4000000
set_option linter.unusedSimpArgs false
/-- The greatest of row r: of the vector, and of the first i dots. -/
def maxR (v : List Int) (ds : Dots) (r : Int) : Nat → Int
  | 0 => rAt v r
  | i + 1 => if (ds.getD i dotR.d).1 = r then max (maxR v ds r i) (ds.getD i dotR.d).2 else maxR v ds r i
def nextR (v : List Int) (ds : Dots) (r : Int) : (Int × Int) × Int :=
  if checkR v ds ≠ 0 then ((0, 0), checkR v ds) else if r < 1 ∨ 16 < r then ((0, 0), 3)
  else if maxR v ds r ds.length = 1048576 then ((0, 0), 10) else ((r, maxR v ds r ds.length + 1), 0)
theorem rAt_bd (v : List Int) (h : ∀ n ∈ v, 0 ≤ n ∧ n ≤ 1048576) (r : Int) : 0 ≤ rAt v r ∧ rAt v r ≤ 1048576 := by
  unfold rAt
  split
  · omega
  · rw [List.getD_eq_getElem?_getD]
    cases e : v[(r - 1).toNat]? with
    | none => simp
    | some x => exact h x (List.mem_of_getElem? e)
theorem maxR_bd (v : List Int) (ds : Dots) (h : rangedP v ds) (r : Int) : ∀ i, i ≤ ds.length → 0 ≤ maxR v ds r i ∧ maxR v ds r i ≤ 1048576
  | 0, _ => rAt_bd v h.2.1 r
  | i + 1, hi => by
    have h1 := maxR_bd v ds h r i (Nat.le_of_succ_le hi)
    have h2 := h.2.2 (ds.getD i dotR.d) (by rw [List.getD_eq_getElem?_getD, List.getElem?_eq_getElem hi]; exact List.getElem_mem hi)
    obtain ⟨_, _, h3, h4⟩ := h2
    unfold maxR
    split <;> omega
noncomputable def T_rNext : List AV → List AB → Option (AV × List AB)
  | [.ag [s, t], .i .i64 r], h => (getS intR h s).bind fun v => (getS dotR h t).bind fun ds => some (.tu [.ag [.i .i64 (nextR v ds r).1.1, .i .i64 (nextR v ds r).1.2], .i .i64 (nextR v ds r).2], h)
  | _, _ => none
theorem rNext_spec : Spec Try.prog 22 T_rNext := by
  intro args h v h' e
  unfold T_rNext at e
  split at e
  · rename_i s t r
    obtain ⟨vs, hs, e⟩ := getS_bind e
    obtain ⟨ds, ht, e⟩ := getS_bind e
    cases e
    refine FnAt.c (FnAt.run (by kernel_rfl) (T := ⟨[⟨24, T_rCheck, fun _ => []⟩, ⟨43, T_rfirst, fun _ => []⟩], []⟩) ⟨⟨rCheck_spec, rfirst_spec, trivial⟩, trivial⟩ Try.func22 sw22 fun ho hh => ?_)
    simp only [okL_cons, ok_ag, Bool.and_eq_true] at ho
    have f1 := hs.fx ho.1.1 (sz := 1) rfl
    have f2 := ht.fx ho.1.2.1 (sz := 2) rfl
    unfold w22
    simp only [rep_0, rep_s, walkW, ld_own, lda_own, st_own, sta_own, len_app, if_true, if_false, reduceIte, Nat.reduceAdd, Nat.reduceSub, Nat.reduceLeDiff, Nat.reduceEqDiff, Nat.reduceMul, Nat.reduceLT, Int.reduceLT, Int.reduceLE, Int.reduceEq, rsl_get, srcV_own, f1, f2, T_rCheck, T_rfirst]
    have vv : ∀ x : (Int × Int) × Int, nextR vs ds r = x → AV.tu [.ag [.i .i64 x.1.1, .i .i64 x.1.2], .i .i64 x.2] = .tu [.ag [.i .i64 (nextR vs ds r).1.1, .i .i64 (nextR vs ds r).1.2], .i .i64 (nextR vs ds r).2] := fun x hx => by rw [hx]
    refine ⟨fun q => Bt.drop _ hh (vv ((0, 0), checkR vs ds) ?_) rfl, fun q => ⟨fun q1 => Bt.drop _ hh (vv ((0, 0), 3) ?_) rfl, fun q1 => ⟨fun q2 => Bt.drop _ hh (vv ((0, 0), 3) ?_) rfl, fun q2 => ?_⟩⟩⟩
    · unfold nextR
      rw [if_pos q]
    · unfold nextR
      rw [if_neg q, if_pos (.inl q1)]
    · unfold nextR
      rw [if_neg q, if_pos (.inr q2)]
    obtain ⟨b0, b4, -⟩ := checkR_0 (Decidable.not_not.1 q)
    have q3 : ¬ (r < 1 ∨ 16 < r) := fun z => z.elim q1 q2
    refine W_loopF (S := Nat) (fun i => ds.length - i) (fun i => tp 1 ++ [.i .i64 r, .p (h.length + 0) 0] ++ tp 1 ++ [.p (h.length + 1) 0] ++ tp 2 ++ [.i .i64 (maxR vs ds r i), .i .i64 i] ++ tp 48) (fun i => i ≤ ds.length) 0 (Nat.zero_le _) (by simp only [walkW, ld_own, lda_own, st_own, sta_own, len_app, if_true, if_false, reduceIte, Nat.reduceAdd, Nat.reduceSub, Nat.reduceLeDiff, Nat.reduceEqDiff, Nat.reduceMul, Nat.reduceLT, Int.reduceLT, Int.reduceLE, Int.reduceEq, rsl_get, srcV_own, maxR]) fun i hi => ?_
    have bd := maxR_bd vs ds b0 r i hi
    simp only [walkW, ld_own, lda_own, st_own, sta_own, len_app, if_true, if_false, reduceIte, Nat.reduceAdd, Nat.reduceSub, Nat.reduceLeDiff, Nat.reduceEqDiff, Nat.reduceMul, Nat.reduceLT, Int.reduceLT, Int.reduceLE, Int.reduceEq, rsl_get, srcV_own, f1, f2]
    refine ⟨fun g1 => ?_, fun g1 => ?_⟩
    · have e1 : IntKind.i64.wrap ((i : Int) + 1) = ((i + 1 : Nat) : Int) := wrap_in (by unfold In64; omega)
      have e0 : ((0 : Nat) < 2) = True := eq_true (by decide)
      have e4 : ((1 : Nat) < 2) = True := eq_true (by decide)
      simp only [walkW, ld_own, lda_own, st_own, sta_own, len_app, if_true, if_false, reduceIte, Nat.reduceAdd, Nat.reduceSub, Nat.reduceLeDiff, Nat.reduceEqDiff, Nat.reduceMul, Nat.reduceLT, Int.reduceLT, Int.reduceLE, Int.reduceEq, rsl_get, srcV_own, f1, f2, g1, dotR_f, e0, e1, e4]
      refine ⟨fun g2 => ⟨i + 1, g1, by omega, ?_, Wk.refl _⟩, fun g2 => ⟨i + 1, g1, by omega, ?_, Wk.refl _⟩⟩
      · simp only [maxR, if_pos g2]
        exact Wk.refl _
      · simp only [maxR, if_neg g2]
        exact Wk.refl _
    · obtain rfl : i = ds.length := by omega
      have e1 : IntKind.i64.wrap (maxR vs ds r ds.length + 1) = maxR vs ds r ds.length + 1 := wrap_in (by unfold In64; omega)
      simp only [e1]
      refine ⟨fun g2 => Bt.drop _ hh (vv ((0, 0), 10) ?_) rfl, fun g2 => Bt.drop _ hh (vv ((r, maxR vs ds r ds.length + 1), 0) ?_) rfl⟩
      · unfold nextR
        rw [if_neg q, if_neg q3, if_pos g2]
      · unfold nextR
        rw [if_neg q, if_neg q3, if_neg g2]
  · cases e
end Go.Proofs.Ytnnkfhlmkaobfaa
end
section
namespace Go.Proofs.Ytnnkfhlmkaobfaa
set_option maxRecDepth 100000
set_option maxHeartbeats 4000000
set_option linter.unusedSimpArgs false
/-- The greater of each row. -/
def joinL (v v' : List Int) (n : Nat) : List Int := (List.range n).map fun i => max (rAt v ((i + 1 : Nat) : Int)) (rAt v' ((i + 1 : Nat) : Int))
theorem joinL_len (v v' : List Int) (n : Nat) : (joinL v v' n).length = n := by simp [joinL]
theorem joinL_succ (v v' : List Int) (n : Nat) : joinL v v' (n + 1) = joinL v v' n ++ [max (rAt v ((n + 1 : Nat) : Int)) (rAt v' ((n + 1 : Nat) : Int))] := by
  simp [joinL, List.range_succ]
theorem joinL_bd (v v' : List Int) (h : ∀ n ∈ v, 0 ≤ n ∧ n ≤ 1048576) (h' : ∀ n ∈ v', 0 ≤ n ∧ n ≤ 1048576) (n : Nat) : ∀ x ∈ joinL v v' n, 0 ≤ x ∧ x ≤ 1048576 := fun x hx => by
  obtain ⟨i, -, rfl⟩ := List.mem_map.1 hx
  have h1 := rAt_bd v h ((i + 1 : Nat) : Int)
  have h2 := rAt_bd v' h' ((i + 1 : Nat) : Int)
  omega
theorem joinL_ranged {v v' : List Int} {ds ds' : Dots} (h : rangedP v ds) (h' : rangedP v' ds') : rangedP (joinL v v' 16) (ds ++ ds') :=
  ⟨by rw [joinL_len]; omega, joinL_bd v v' h.2.1 h'.2.1 16, fun d hd => (List.mem_append.1 hd).elim (h.2.2 d) (h'.2.2 d)⟩
noncomputable def T_rJoin : List AV → List AB → Option (AV × List AB)
  | [.ag [s, t], .ag [s', t']], h => (getS intR h s).bind fun v => (getS dotR h t).bind fun ds => (getS intR h s').bind fun v' => (getS dotR h t').bind fun ds' =>
      if checkR v ds ≠ 0 then some (.tu [.ag [.ns, .ns], .i .i64 (checkR v ds)], h)
      else if checkR v' ds' ≠ 0 then some (.tu [.ag [.ns, .ns], .i .i64 (checkR v' ds')], h)
      else if (fmO (joinL v v' 16) (ds ++ ds')).2.length ≤ 4096 then some (.tu [.ag [.sl h.length 0 (topI (fmR (joinL v v' 16) (layR (ds ++ ds'))).1 16) 16 none, rsl dotR (h.length + 1) (fmR (joinL v v' 16) (layR (ds ++ ds'))).2], .i .i64 0], h ++ [.blk true true (intR.cells (fmR (joinL v v' 16) (layR (ds ++ ds'))).1), resB dotR true (fmR (joinL v v' 16) (layR (ds ++ ds'))).2])
      else some (.tu [.ag [.ns, .ns], .i .i64 10], h)
  | _, _ => none
theorem rJoin_bad (h : List AB) (s t s' t' : AV) (vs vs' : List Int) (ds ds' : Dots) (hs : Rd intR h s vs) (ht : Rd dotR h t ds) (hs' : Rd intR h s' vs') (ht' : Rd dotR h t' ds') (q : (if checkR vs ds = 0 then checkR vs' ds' else checkR vs ds) ≠ 0) : FnC Try.prog 12 [.ag [s, t], .ag [s', t']] h (.tu [.ag [.ns, .ns], .i .i64 (if checkR vs ds = 0 then checkR vs' ds' else checkR vs ds)]) h := by
  refine FnAt.c (FnAt.run (by kernel_rfl) (T := ⟨[⟨42, T_both, fun _ => []⟩], []⟩) ⟨⟨rboth_spec, trivial⟩, trivial⟩ Try.func12 sw12 fun ho hh => ?_)
  simp only [okL_cons, ok_ag, Bool.and_eq_true] at ho
  have f1 := hs.fx ho.1.1 (sz := 1) rfl
  have f2 := ht.fx ho.1.2.1 (sz := 2) rfl
  have f3 := hs'.fx ho.2.1.1 (sz := 1) rfl
  have f4 := ht'.fx ho.2.1.2.1 (sz := 2) rfl
  generalize hc : (if checkR vs ds = 0 then checkR vs' ds' else checkR vs ds) = c at *
  unfold w12
  simp only [rep_0, rep_s, walkW, ld_own, lda_own, st_own, sta_own, len_app, if_true, if_false, reduceIte, Nat.reduceAdd, Nat.reduceSub, Nat.reduceLeDiff, Nat.reduceEqDiff, Nat.reduceMul, Nat.reduceLT, Int.reduceLT, Int.reduceLE, Int.reduceEq, rsl_get, srcV_own, f1, f2, f3, f4, T_both, hc]
  exact ⟨fun _ => Bt.drop _ hh rfl rfl, fun z => absurd q z⟩
/-- What Make gives, its blocks from p on. -/
noncomputable def mkRes (p : Nat) (J : List Int) (D : Dots) : AV × List AB :=
  if (fmO J D).2.length ≤ 4096 then (.tu [.ag [.sl p 0 (topI (fmR J (layR D)).1 16) 16 none, rsl dotR (p + 1) (fmR J (layR D)).2], .i .i64 0], [.blk true true (intR.cells (fmR J (layR D)).1), resB dotR true (fmR J (layR D)).2])
  else (.tu [.ag [.ns, .ns], .i .i64 10], [])
theorem rJoin_go (h : List AB) (hz : h.map AB.freeze = h) (s t s' t' : AV) (vs vs' : List Int) (ds ds' : Dots) (hs : Rd intR h s vs) (ht : Rd dotR h t ds) (hs' : Rd intR h s' vs') (ht' : Rd dotR h t' ds') (c1 : checkR vs ds = 0) (c2 : checkR vs' ds' = 0) : FnAt Try.prog 12 [.ag [s, t], .ag [s', t']] h (mkRes h.length (joinL vs vs' 16) (ds ++ ds')).1 (h ++ (mkRes h.length (joinL vs vs' 16) (ds ++ ds')).2) := by
  obtain ⟨a1, a2, -⟩ := checkR_0 c1
  obtain ⟨b1, b2, -⟩ := checkR_0 c2
  have hJ := joinL_ranged a1 b1
  have hJl : (joinL vs vs' 16).length = 16 := joinL_len _ _ _
  have hDl : (ds ++ ds').length = ds.length + ds'.length := List.length_append
  refine FnAt.run (by kernel_rfl) (T := ⟨[⟨42, T_both, fun _ => []⟩, ⟨43, T_rfirst, fun _ => []⟩, ⟨20, T_rMake, fun _ => []⟩], []⟩) ⟨⟨rboth_spec, rfirst_spec, rMake_spec, trivial⟩, trivial⟩ Try.func12 sw12 fun ho hh => ?_
  simp only [okL_cons, ok_ag, Bool.and_eq_true] at ho
  have f1 := hs.fx ho.1.1 (sz := 1) rfl
  have f2 := ht.fx ho.1.2.1 (sz := 2) rfl
  have f3 := hs'.fx ho.2.1.1 (sz := 1) rfl
  have f4 := ht'.fx ho.2.1.2.1 (sz := 2) rfl
  have u2 := ht.src (sz := 2) rfl
  have u4 := ht'.src (sz := 2) rfl
  have cb : (if checkR vs ds = 0 then checkR vs' ds' else checkR vs ds) = 0 := by rw [if_pos c1]; exact c2
  have fo : ∀ c, s.ok (fun i => decide (i < h.length + c)) = true ∧ t.ok (fun i => decide (i < h.length + c)) = true ∧ s'.ok (fun i => decide (i < h.length + c)) = true ∧ t'.ok (fun i => decide (i < h.length + c)) = true := fun c => by
    have m : ∀ v : AV, v.ok (fun i => decide (i < h.length)) = true → v.ok (fun i => decide (i < h.length + c)) = true := fun v => AV.ok_mono (fun i q => by simp only [decide_eq_true_eq] at q ⊢; omega) v
    exact ⟨m _ ho.1.1, m _ ho.1.2.1, m _ ho.2.1.1, m _ ho.2.1.2.1⟩
  have fr : ∀ sel, Wk (s.ren (selN h.length sel)) s ∧ Wk (t.ren (selN h.length sel)) t ∧ Wk (s'.ren (selN h.length sel)) s' ∧ Wk (t'.ren (selN h.length sel)) t' := fun sel => ⟨Wk.ren (fun i hi => selN_old hi) ho.1.1, Wk.ren (fun i hi => selN_old hi) ho.1.2.1, Wk.ren (fun i hi => selN_old hi) ho.2.1.1, Wk.ren (fun i hi => selN_old hi) ho.2.1.2.1⟩
  unfold w12
  simp only [rep_0, rep_s, walkW, ld_own, lda_own, st_own, sta_own, len_app, if_true, if_false, reduceIte, Nat.reduceAdd, Nat.reduceSub, Nat.reduceLeDiff, Nat.reduceEqDiff, Nat.reduceMul, Nat.reduceLT, Int.reduceLT, Int.reduceLE, Int.reduceEq, rsl_get, srcV_own, f1, f2, f3, f4, T_both, cb]
  refine ⟨fun q => q.elim, ?_⟩
  refine W_loopS (S := Nat) (fun n => 16 - n) (fun n => tp 2 ++ [.p (h.length + 0) 0, .p (h.length + 1) 0, .p (h.length + 2) 0] ++ tp 2 ++ [apS intR (h.length + 3) (joinL vs vs' n), .i .i64 ((n + 1 : Nat) : Int)] ++ tp 32) (fun n => h ++ [.blk false true [s, t], .blk false true [s', t'], .blk false true [.ns, .ns], resB intR true (joinL vs vs' n)]) (fun n => n ≤ 16) 0 (Nat.zero_le _) ?_ fun n hn => ?_
  · show Bt _ _ _ _ _ (h ++ [.blk false true [s, t], .blk false true [s', t'], .blk false true [.ns, .ns], .dead])
    rw [show h ++ [AB.blk false true [s, t], .blk false true [s', t'], .blk false true [.ns, .ns], .dead] = (h ++ [AB.blk false true [s, t], .blk false true [s', t'], .blk false true [.ns, .ns]]) ++ List.replicate 1 .dead from by rw [List.append_assoc]; rfl]
    refine Bt.trans (Bt.wk ?_) (Bt.pad _ _ 1)
    rw [show apS intR (h.length + 3) (joinL vs vs' 0) = .ns from rfl]
    simp only [walkW, ld_own, lda_own, st_own, sta_own, len_app, if_true, if_false, reduceIte, Nat.reduceAdd, Nat.reduceSub, Nat.reduceLeDiff, Nat.reduceEqDiff, Nat.reduceMul, Nat.reduceLT, Int.reduceLT, Int.reduceLE, Int.reduceEq, rsl_get, srcV_own]
  have hnl := joinL_len vs vs' n
  have e1 : IntKind.i64.wrap (((n + 1 : Nat) : Int) + 1) = ((n + 1 + 1 : Nat) : Int) := wrap_in (by unfold In64; omega)
  have fa := fun L k ys hb => appW_ap (h := h) (r := intR) (sz := 1) rfl L k (joinL vs vs' n) 8 1 ys hb (by decide) (by omega) (by unfold maxLen; omega)
  by_cases g1 : n < 16
  · have g1' : (((n + 1 : Nat) : Int) ≤ 16) = True := eq_true (by omega)
    by_cases n0 : n = 0
    · subst n0
      have z0 : joinL vs vs' 0 = [] := rfl
      have z1 : joinL vs vs' (0 + 1) = [max (rAt vs 1) (rAt vs' 1)] := rfl
      have z1' : joinL vs vs' 1 = [max (rAt vs 1) (rAt vs' 1)] := rfl
      have z2 : ((0 + 1 : Nat) : Int) = 1 := rfl
      have z3 : (1 * 8 ≤ 140737488355328 ∧ 1 ≤ maxLen) = True := eq_true ⟨by decide, by unfold maxLen; omega⟩
      simp only [z0, apS_nil, walkW, walkD, ld_own, lda_own, st_own, sta_own, len_app, if_true, if_false, reduceIte, Nat.reduceAdd, Nat.reduceSub, Nat.reduceLeDiff, Nat.reduceEqDiff, Nat.reduceMul, Nat.reduceLT, Int.reduceLT, Int.reduceLE, Int.reduceEq, rsl_get, srcV_own, merge_own, drop_own, getD_own, CO.tmps, Opd.tmps, optT, Nat.reducePow, Nat.reduceDiv, Nat.reduceMod, f1, f2, f3, f4, T_rfirst, z3, g1', e1, mask_own hz, HOk_own hh]
      refine ⟨by unfold maxLen; omega, 1, by omega, by dsimp only; omega, ?_⟩
      have e12 : IntKind.i64.wrap (1 + 1) = ((1 + 1 : Nat) : Int) := wrap_in (by unfold In64; omega)
      simp only [z1', apS_one1, resB_one1, intR_f, e12]
      exact Bt.sel [0, 1, 2, 5] hh (by decide) (by simp only [walkS, FrSel, BlkSel, AV.ren, renL, AV.ok, okL, Option.some.injEq, exists_eq_left', List.length_cons, List.length_nil, Nat.reduceAdd, Nat.reduceLT, reduceCtorEq, implies_true, exists_eq', fo, fr]) (by simp only [walkS, FrSel, BlkSel, AV.ren, renL, AV.ok, okL, Option.some.injEq, exists_eq_left', List.length_cons, List.length_nil, Nat.reduceAdd, Nat.reduceLT, reduceCtorEq, implies_true, exists_eq', fo, fr])
    · have gr : ∀ id, apS intR id (joinL vs vs' n) = rsl intR id (joinL vs vs' n) := fun id => apS_rsl _ (by omega)
      have fa := fun L k ys hb => appW_rslP (h := h) (p := h.length) rfl (r := intR) (sz := 1) rfl L k (joinL vs vs' n) 8 1 ys (by omega) hb (by decide) (by omega) (by unfold maxLen; omega)
      simp only [gr, walkW, walkD, ld_own, lda_own, st_own, sta_own, len_app, if_true, if_false, reduceIte, Nat.reduceAdd, Nat.reduceSub, Nat.reduceLeDiff, Nat.reduceEqDiff, Nat.reduceMul, Nat.reduceLT, Int.reduceLT, Int.reduceLE, Int.reduceEq, rsl_get, srcV_own, merge_own, drop_own, getD_own, CO.tmps, Opd.tmps, optT, Nat.reducePow, Nat.reduceDiv, Nat.reduceMod, f1, f2, f3, f4, T_rfirst, fa, g1', e1, mask_own hz, HOk_own hh]
      refine ⟨n + 1, g1, by dsimp only; omega, ?_⟩
      simp only [joinL_succ, apS_snoc, resB_snoc, intR_f, Nat.add_assoc, Nat.reduceAdd]
      exact Bt.sel [0, 1, 2, 5] hh (by decide) (by simp only [walkS, FrSel, BlkSel, AV.ren, renL, AV.ok, okL, Option.some.injEq, exists_eq_left', List.length_cons, List.length_nil, Nat.reduceAdd, Nat.reduceLT, reduceCtorEq, implies_true, exists_eq', fo, fr]) (by simp only [walkS, FrSel, BlkSel, AV.ren, renL, AV.ok, okL, Option.some.injEq, exists_eq_left', List.length_cons, List.length_nil, Nat.reduceAdd, Nat.reduceLT, reduceCtorEq, implies_true, exists_eq', fo, fr])
  · obtain rfl : n = 16 := by omega
    have g1' : (((16 + 1 : Nat) : Int) ≤ 16) = False := eq_false (by omega)
    have gr : ∀ id, apS intR id (joinL vs vs' 16) = rsl intR id (joinL vs vs' 16) := fun id => apS_rsl _ (by omega)
    have k1 : ((joinL vs vs' 16).length ≤ maxLen) = True := eq_true (by unfold maxLen; omega)
    have k2 : rangedP (joinL vs vs' 16) (ds ++ ds') = True := eq_true hJ
    have k3 : ((ds ++ ds').length ≤ 1000000) = True := eq_true (by omega)
    have k4 : (ds.length * 16 ≤ 140737488355328 ∧ ds.length ≤ maxLen) = True := eq_true ⟨by omega, by unfold maxLen; omega⟩
    have k5 : (ds'.length * 16 ≤ 140737488355328 ∧ ds'.length ≤ maxLen) = True := eq_true ⟨by omega, by unfold maxLen; omega⟩
    have k6 : ((ds.length + ds'.length) * 16 ≤ 140737488355328) = True := eq_true (by omega)
    have k7 : (ds.length + ds'.length ≤ maxLen) = True := eq_true (by unfold maxLen; omega)
    have k8 : (dotR.cells ds).length = ds.length * 2 := dotR.cells_len ds
    have r1 : ∀ (L : List AB) (k n : Nat) (kk : Option Nat), n = (ds ++ ds').length → ownC L k = some (dotR.cells (ds ++ ds')) → getS dotR (h ++ L) (.sl (h.length + k) 0 n n kk) = some (ds ++ ds') := fun L k n kk hn hL => by
      subst hn
      exact (Rd_own hL (by unfold maxLen; omega)).get
    have r2 : dotR.cells ds ++ dotR.cells ds' = dotR.cells (ds ++ ds') := by simp [Row.cells]
    have r0 : ∀ (H : List AB) (id : Nat) (kk : Option Nat), (ds ++ ds').length = 0 → getS dotR H (.sl id 0 0 0 kk) = some (ds ++ ds') := fun H id kk hn => (Rd.mk0 hn).get
    by_cases h4 : (fmO (joinL vs vs' 16) (ds ++ ds')).2.length ≤ 4096
    · have h4' := eq_true h4
      simp only [mkRes, if_pos h4]
      by_cases d0 : ds.length = 0
      · have d1 : (ds.length = 0) = True := eq_true d0
        have dn : ds = [] := List.eq_nil_of_length_eq_zero d0
        by_cases b0 : ds'.length = 0
        · have b1 : (ds'.length = 0) = True := eq_true b0
          have bn : ds' = [] := List.eq_nil_of_length_eq_zero b0
          have rr := fun H id kk => r0 H id kk (by omega)
          simp only [gr, walkW, walkD, ld_own, lda_own, st_own, sta_own, len_app, if_true, if_false, reduceIte, Nat.reduceAdd, Nat.reduceSub, Nat.reduceLeDiff, Nat.reduceEqDiff, Nat.reduceMul, Nat.reduceLT, Int.reduceLT, Int.reduceLE, Int.reduceEq, rsl_get, srcV_own, merge_own, drop_own, getD_own, CO.tmps, Opd.tmps, optT, Nat.reducePow, Nat.reduceDiv, Nat.reduceMod, f1, f2, f3, f4, u2, u4, d1, b1, k1, k2, k3, k4, k5, k6, k7, k8, rr, appW_tt, appW_m0, ne_eq, blkX_0, blkX_s, blkTT_0, blkTT_s, rsl_get, ownR_s, ownR_0, T_rMake, h4', g1', mask_own hz, HOk_own hh]
          exact Bt.sel [5, 6] hh (by decide) (by simp only [walkS, FrSel, BlkSel, AV.ren, renL, AV.ok, okL, Option.some.injEq, exists_eq_left', List.length_cons, List.length_nil, Nat.reduceAdd, Nat.reduceLT, reduceCtorEq, implies_true, exists_eq']) (by simp only [walkS, FrSel, BlkSel, AV.ren, renL, AV.ok, okL, Option.some.injEq, exists_eq_left', List.length_cons, List.length_nil, Nat.reduceAdd, Nat.reduceLT, reduceCtorEq, implies_true, exists_eq'])
        · have b1 : (ds'.length = 0) = False := eq_false b0
          have r3 : dotR.cells ds' = dotR.cells (ds ++ ds') := by rw [dn]; rfl
          have rr : ∀ (L : List AB) (k : Nat) (kk : Option Nat), ownC L k = some (dotR.cells ds') → getS dotR (h ++ L) (.sl (h.length + k) 0 ds'.length ds'.length kk) = some (ds ++ ds') := fun L k kk hL => r1 L k _ kk (by omega) (hL.trans (congrArg some r3))
          simp only [gr, walkW, walkD, ld_own, lda_own, st_own, sta_own, len_app, if_true, if_false, reduceIte, Nat.reduceAdd, Nat.reduceSub, Nat.reduceLeDiff, Nat.reduceEqDiff, Nat.reduceMul, Nat.reduceLT, Int.reduceLT, Int.reduceLE, Int.reduceEq, rsl_get, srcV_own, merge_own, drop_own, getD_own, CO.tmps, Opd.tmps, optT, Nat.reducePow, Nat.reduceDiv, Nat.reduceMod, f1, f2, f3, f4, u2, u4, d1, b1, k1, k2, k3, k4, k5, k6, k7, k8, rr, appW_tt, appW_m0, ne_eq, blkX_0, blkX_s, blkTT_0, blkTT_s, rsl_get, ownR_s, ownR_0, T_rMake, h4', g1', mask_own hz, HOk_own hh]
          exact Bt.sel [6, 7] hh (by decide) (by simp only [walkS, FrSel, BlkSel, AV.ren, renL, AV.ok, okL, Option.some.injEq, exists_eq_left', List.length_cons, List.length_nil, Nat.reduceAdd, Nat.reduceLT, reduceCtorEq, implies_true, exists_eq']) (by simp only [walkS, FrSel, BlkSel, AV.ren, renL, AV.ok, okL, Option.some.injEq, exists_eq_left', List.length_cons, List.length_nil, Nat.reduceAdd, Nat.reduceLT, reduceCtorEq, implies_true, exists_eq'])
      · have d1 : (ds.length = 0) = False := eq_false d0
        by_cases b0 : ds'.length = 0
        · have b1 : (ds'.length = 0) = True := eq_true b0
          have bn : ds' = [] := List.eq_nil_of_length_eq_zero b0
          have r3 : dotR.cells ds = dotR.cells (ds ++ ds') := by rw [bn, List.append_nil]
          have rr : ∀ (L : List AB) (k : Nat) (kk : Option Nat), ownC L k = some (dotR.cells ds) → getS dotR (h ++ L) (.sl (h.length + k) 0 ds.length ds.length kk) = some (ds ++ ds') := fun L k kk hL => r1 L k _ kk (by omega) (hL.trans (congrArg some r3))
          simp only [gr, walkW, walkD, ld_own, lda_own, st_own, sta_own, len_app, if_true, if_false, reduceIte, Nat.reduceAdd, Nat.reduceSub, Nat.reduceLeDiff, Nat.reduceEqDiff, Nat.reduceMul, Nat.reduceLT, Int.reduceLT, Int.reduceLE, Int.reduceEq, rsl_get, srcV_own, merge_own, drop_own, getD_own, CO.tmps, Opd.tmps, optT, Nat.reducePow, Nat.reduceDiv, Nat.reduceMod, f1, f2, f3, f4, u2, u4, d1, b0, k1, k2, k3, k4, k5, k6, k7, k8, rr, appW_tt, appW_m0, ne_eq, blkX_0, blkX_s, blkTT_0, blkTT_s, rsl_get, ownR_s, ownR_0, T_rMake, h4', g1', mask_own hz, HOk_own hh]
          exact Bt.sel [6, 7] hh (by decide) (by simp only [walkS, FrSel, BlkSel, AV.ren, renL, AV.ok, okL, Option.some.injEq, exists_eq_left', List.length_cons, List.length_nil, Nat.reduceAdd, Nat.reduceLT, reduceCtorEq, implies_true, exists_eq']) (by simp only [walkS, FrSel, BlkSel, AV.ren, renL, AV.ok, okL, Option.some.injEq, exists_eq_left', List.length_cons, List.length_nil, Nat.reduceAdd, Nat.reduceLT, reduceCtorEq, implies_true, exists_eq'])
        · have b1 : (ds'.length = 0) = False := eq_false b0
          have rr : ∀ (L : List AB) (k : Nat) (kk : Option Nat), ownC L k = some (dotR.cells ds ++ dotR.cells ds') → getS dotR (h ++ L) (.sl (h.length + k) 0 (ds.length + ds'.length) (ds.length + ds'.length) kk) = some (ds ++ ds') := fun L k kk hL => r1 L k _ kk (by omega) (hL.trans (congrArg some r2))
          simp only [gr, walkW, walkD, ld_own, lda_own, st_own, sta_own, len_app, if_true, if_false, reduceIte, Nat.reduceAdd, Nat.reduceSub, Nat.reduceLeDiff, Nat.reduceEqDiff, Nat.reduceMul, Nat.reduceLT, Int.reduceLT, Int.reduceLE, Int.reduceEq, rsl_get, srcV_own, merge_own, drop_own, getD_own, CO.tmps, Opd.tmps, optT, Nat.reducePow, Nat.reduceDiv, Nat.reduceMod, f1, f2, f3, f4, u2, u4, d1, b1, k1, k2, k3, k4, k5, k6, k7, k8, rr, appW_tt, appW_m0, ne_eq, blkX_0, blkX_s, blkTT_0, blkTT_s, rsl_get, ownR_s, ownR_0, T_rMake, h4', g1', mask_own hz, HOk_own hh]
          exact Bt.sel [7, 8] hh (by decide) (by simp only [walkS, FrSel, BlkSel, AV.ren, renL, AV.ok, okL, Option.some.injEq, exists_eq_left', List.length_cons, List.length_nil, Nat.reduceAdd, Nat.reduceLT, reduceCtorEq, implies_true, exists_eq']) (by simp only [walkS, FrSel, BlkSel, AV.ren, renL, AV.ok, okL, Option.some.injEq, exists_eq_left', List.length_cons, List.length_nil, Nat.reduceAdd, Nat.reduceLT, reduceCtorEq, implies_true, exists_eq'])
    · have h4' := eq_false h4
      simp only [mkRes, if_neg h4]
      by_cases d0 : ds.length = 0
      · have d1 : (ds.length = 0) = True := eq_true d0
        have dn : ds = [] := List.eq_nil_of_length_eq_zero d0
        by_cases b0 : ds'.length = 0
        · have b1 : (ds'.length = 0) = True := eq_true b0
          have bn : ds' = [] := List.eq_nil_of_length_eq_zero b0
          have rr := fun H id kk => r0 H id kk (by omega)
          simp only [gr, walkW, walkD, ld_own, lda_own, st_own, sta_own, len_app, if_true, if_false, reduceIte, Nat.reduceAdd, Nat.reduceSub, Nat.reduceLeDiff, Nat.reduceEqDiff, Nat.reduceMul, Nat.reduceLT, Int.reduceLT, Int.reduceLE, Int.reduceEq, rsl_get, srcV_own, merge_own, drop_own, getD_own, CO.tmps, Opd.tmps, optT, Nat.reducePow, Nat.reduceDiv, Nat.reduceMod, f1, f2, f3, f4, u2, u4, d1, b1, k1, k2, k3, k4, k5, k6, k7, k8, rr, appW_tt, appW_m0, ne_eq, blkX_0, blkX_s, blkTT_0, blkTT_s, rsl_get, ownR_s, ownR_0, T_rMake, h4', g1', mask_own hz, HOk_own hh]
          rw [show h ++ ([] : List AB) = h from List.append_nil h]
          exact Bt.drop _ hh rfl (by simp [AV.ok, okL])
        · have b1 : (ds'.length = 0) = False := eq_false b0
          have r3 : dotR.cells ds' = dotR.cells (ds ++ ds') := by rw [dn]; rfl
          have rr : ∀ (L : List AB) (k : Nat) (kk : Option Nat), ownC L k = some (dotR.cells ds') → getS dotR (h ++ L) (.sl (h.length + k) 0 ds'.length ds'.length kk) = some (ds ++ ds') := fun L k kk hL => r1 L k _ kk (by omega) (hL.trans (congrArg some r3))
          simp only [gr, walkW, walkD, ld_own, lda_own, st_own, sta_own, len_app, if_true, if_false, reduceIte, Nat.reduceAdd, Nat.reduceSub, Nat.reduceLeDiff, Nat.reduceEqDiff, Nat.reduceMul, Nat.reduceLT, Int.reduceLT, Int.reduceLE, Int.reduceEq, rsl_get, srcV_own, merge_own, drop_own, getD_own, CO.tmps, Opd.tmps, optT, Nat.reducePow, Nat.reduceDiv, Nat.reduceMod, f1, f2, f3, f4, u2, u4, d1, b1, k1, k2, k3, k4, k5, k6, k7, k8, rr, appW_tt, appW_m0, ne_eq, blkX_0, blkX_s, blkTT_0, blkTT_s, rsl_get, ownR_s, ownR_0, T_rMake, h4', g1', mask_own hz, HOk_own hh]
          rw [show h ++ ([] : List AB) = h from List.append_nil h]
          exact Bt.drop _ hh rfl (by simp [AV.ok, okL])
      · have d1 : (ds.length = 0) = False := eq_false d0
        by_cases b0 : ds'.length = 0
        · have b1 : (ds'.length = 0) = True := eq_true b0
          have bn : ds' = [] := List.eq_nil_of_length_eq_zero b0
          have r3 : dotR.cells ds = dotR.cells (ds ++ ds') := by rw [bn, List.append_nil]
          have rr : ∀ (L : List AB) (k : Nat) (kk : Option Nat), ownC L k = some (dotR.cells ds) → getS dotR (h ++ L) (.sl (h.length + k) 0 ds.length ds.length kk) = some (ds ++ ds') := fun L k kk hL => r1 L k _ kk (by omega) (hL.trans (congrArg some r3))
          simp only [gr, walkW, walkD, ld_own, lda_own, st_own, sta_own, len_app, if_true, if_false, reduceIte, Nat.reduceAdd, Nat.reduceSub, Nat.reduceLeDiff, Nat.reduceEqDiff, Nat.reduceMul, Nat.reduceLT, Int.reduceLT, Int.reduceLE, Int.reduceEq, rsl_get, srcV_own, merge_own, drop_own, getD_own, CO.tmps, Opd.tmps, optT, Nat.reducePow, Nat.reduceDiv, Nat.reduceMod, f1, f2, f3, f4, u2, u4, d1, b0, k1, k2, k3, k4, k5, k6, k7, k8, rr, appW_tt, appW_m0, ne_eq, blkX_0, blkX_s, blkTT_0, blkTT_s, rsl_get, ownR_s, ownR_0, T_rMake, h4', g1', mask_own hz, HOk_own hh]
          rw [show h ++ ([] : List AB) = h from List.append_nil h]
          exact Bt.drop _ hh rfl (by simp [AV.ok, okL])
        · have b1 : (ds'.length = 0) = False := eq_false b0
          have rr : ∀ (L : List AB) (k : Nat) (kk : Option Nat), ownC L k = some (dotR.cells ds ++ dotR.cells ds') → getS dotR (h ++ L) (.sl (h.length + k) 0 (ds.length + ds'.length) (ds.length + ds'.length) kk) = some (ds ++ ds') := fun L k kk hL => r1 L k _ kk (by omega) (hL.trans (congrArg some r2))
          simp only [gr, walkW, walkD, ld_own, lda_own, st_own, sta_own, len_app, if_true, if_false, reduceIte, Nat.reduceAdd, Nat.reduceSub, Nat.reduceLeDiff, Nat.reduceEqDiff, Nat.reduceMul, Nat.reduceLT, Int.reduceLT, Int.reduceLE, Int.reduceEq, rsl_get, srcV_own, merge_own, drop_own, getD_own, CO.tmps, Opd.tmps, optT, Nat.reducePow, Nat.reduceDiv, Nat.reduceMod, f1, f2, f3, f4, u2, u4, d1, b1, k1, k2, k3, k4, k5, k6, k7, k8, rr, appW_tt, appW_m0, ne_eq, blkX_0, blkX_s, blkTT_0, blkTT_s, rsl_get, ownR_s, ownR_0, T_rMake, h4', g1', mask_own hz, HOk_own hh]
          rw [show h ++ ([] : List AB) = h from List.append_nil h]
          exact Bt.drop _ hh rfl (by simp [AV.ok, okL])
theorem rJoin_spec : Spec Try.prog 12 T_rJoin := by
  intro args h v h' e
  unfold T_rJoin at e
  split at e
  · rename_i s t s' t'
    obtain ⟨vs, hs, e⟩ := getS_bind e
    obtain ⟨ds, ht, e⟩ := getS_bind e
    obtain ⟨vs', hs', e⟩ := getS_bind e
    obtain ⟨ds', ht', e⟩ := getS_bind e
    by_cases c1 : checkR vs ds = 0
    · rw [if_neg (by simpa using c1)] at e
      by_cases c2 : checkR vs' ds' = 0
      · rw [if_neg (by simpa using c2)] at e
        have go := fun h hz hs ht hs' ht' => rJoin_go h hz s t s' t' vs vs' ds ds' hs ht hs' ht' c1 c2
        by_cases h4 : (fmO (joinL vs vs' 16) (ds ++ ds')).2.length ≤ 4096
        · rw [if_pos h4] at e
          cases e
          refine FnAt.c (FnAt.frz fun hz => ?_)
          rw [show h.length = (h.map AB.freeze).length from (List.length_map _).symm]
          have := go (h.map AB.freeze) hz hs.frz ht.frz hs'.frz ht'.frz
          simp only [mkRes, if_pos h4] at this
          exact this
        · rw [if_neg h4] at e
          cases e
          refine FnAt.c (FnAt.frz0 fun hz => ?_)
          have := go (h.map AB.freeze) hz hs.frz ht.frz hs'.frz ht'.frz
          simp only [mkRes, if_neg h4, List.append_nil] at this
          exact this
      · rw [if_pos c2] at e
        cases e
        have := rJoin_bad h s t s' t' vs vs' ds ds' hs ht hs' ht' (by rw [if_pos c1]; exact c2)
        rwa [if_pos c1] at this
    · rw [if_pos c1] at e
      cases e
      have := rJoin_bad h s t s' t' vs vs' ds ds' hs ht hs' ht' (by rw [if_neg c1]; exact c1)
      rwa [if_neg c1] at this
  · cases e
end Go.Proofs.Ytnnkfhlmkaobfaa
end
section
namespace Go.Proofs.Ytnnkfhlmkaobfaa
theorem nless_trans {a b c : Int × Int} (h1 : ¬ lessD b a) (h2 : ¬ lessD c b) : ¬ lessD c a := by simp only [lessD] at *; omega
theorem getD_cons0 (x : Int × Int) (l : Dots) : (x :: l).getD 0 dotR.d = x := rfl
theorem mrgD_perm : ∀ (n : Nat) (la lb : Dots), la.length + lb.length = n → (mrgD n la lb).Perm (la ++ lb)
  | 0, la, lb, h => by
    have h1 : la = [] := List.eq_nil_of_length_eq_zero (by omega)
    have h2 : lb = [] := List.eq_nil_of_length_eq_zero (by omega)
    subst h1 h2
    exact List.Perm.refl _
  | n + 1, la, lb, h => by
    unfold mrgD
    split
    · rename_i c
      cases lb with
      | nil => rcases c with q | q <;> simp_all
      | cons y lb =>
        have := mrgD_perm n la lb (by simp only [List.length_cons] at h; omega)
        exact (this.cons y).trans List.perm_middle.symm
    · rename_i c
      cases la with
      | nil => exact absurd (.inl rfl) c
      | cons x la =>
        have := mrgD_perm n la lb (by simp only [List.length_cons] at h; omega)
        exact this.cons x
theorem mrgD_rise : ∀ (n : Nat) (la lb : Dots), la.length + lb.length = n → RiseW la → RiseW lb → RiseW (mrgD n la lb)
  | 0, la, lb, _, _, _ => List.Pairwise.nil
  | n + 1, la, lb, h, ra, rb => by
    unfold mrgD
    split
    · rename_i c
      cases lb with
      | nil => rcases c with q | q <;> simp_all
      | cons y lb =>
        have hr := List.pairwise_cons.1 rb
        have hn : la.length + lb.length = n := by simp only [List.length_cons] at h; omega
        refine List.pairwise_cons.2 ⟨fun x hx => ?_, mrgD_rise n la lb hn ra hr.2⟩
        rcases List.mem_append.1 ((mrgD_perm n la lb hn).mem_iff.1 hx) with q | q
        · cases la with
          | nil => cases q
          | cons a la =>
            rcases c with c | c
            · simp at c
            · have h1 := (cmpD_lt _ _).1 c.2
              simp only [getD_cons0] at h1 ⊢
              intro h2
              rcases List.mem_cons.1 q with rfl | q
              · exact lessD_irrefl _ (lessD_trans h1 h2)
              · exact (List.pairwise_cons.1 ra).1 x q (lessD_trans h2 h1)
        · exact hr.1 x q
    · rename_i c
      cases la with
      | nil => exact absurd (.inl rfl) c
      | cons a la =>
        have hr := List.pairwise_cons.1 ra
        have hn : la.length + lb.length = n := by simp only [List.length_cons] at h; omega
        refine List.pairwise_cons.2 ⟨fun x hx => ?_, mrgD_rise n la lb hn hr.2 rb⟩
        rcases List.mem_append.1 ((mrgD_perm n la lb hn).mem_iff.1 hx) with q | q
        · exact hr.1 x q
        · cases lb with
          | nil => cases q
          | cons b lb =>
            have h1 : ¬ lessD b a := fun z => c (.inr ⟨by simp, (cmpD_lt _ _).2 (by simpa using z)⟩)
            simp only [getD_cons0]
            rcases List.mem_cons.1 q with rfl | q
            · exact h1
            · exact nless_trans h1 ((List.pairwise_cons.1 rb).1 x q)
theorem absR_any {L ds : Dots} (hr : RiseW L) (hm : ∀ d, d ∈ L ↔ d ∈ ds) (hd : ∀ d ∈ ds, dottedP d) (x : List Int) : absR (x, []) L = absR (x, []) (srtD ds) := by
  rw [absR_once L _ fun d h => hd d ((hm d).1 h), absR_once (srtD ds) _ fun d h => hd d ((srtD_mem ds d).1 h), once_srt]
  congr 1
  exact rise_ext (onceD_rise hr) (layR_rise ds) fun d => by rw [onceD_mem, hm, layR_mem']
theorem rise_w {l : Dots} (h : Rise l) : RiseW l := h.imp fun {a b} q z => lessD_irrefl _ (lessD_trans q z)
theorem fm_rise : ∀ (l : Dots) (t : List Int × Dots), Rise l → Rise t.2 → (∀ x ∈ t.2, ∀ d ∈ l, lessD x d) → Rise (l.foldl fmD t).2
  | [], t, _, h, _ => h
  | d :: l, t, hl, ht, hx => by
    have r := List.pairwise_cons.1 hl
    have hin : ∀ x ∈ (fmD t d).2, x ∈ t.2 ∨ x = d := fun x h => by
      unfold fmD at h
      split at h
      · exact .inl h
      · split at h
        · simpa using h
        · exact .inl h
    refine fm_rise l (fmD t d) r.2 ?_ fun x h y hy => ?_
    · unfold fmD
      split
      · exact ht
      · split
        · exact List.pairwise_append.2 ⟨ht, List.pairwise_singleton _ _, fun x h y hy => by rw [List.mem_singleton.1 hy]; exact hx x h d (.head _)⟩
        · exact ht
    · rcases hin x h with q | rfl
      · exact hx x q y (.tail _ hy)
      · exact r.1 y hy
theorem fmO_rise (v : List Int) (ds : Dots) : Rise (fmO v ds).2 := fm_rise _ _ (layR_rise ds) List.Pairwise.nil fun x h => by cases h
theorem check_fm {v : List Int} {ds : Dots} (h : checkR v ds = 0) : rangedP v ds ∧ ds.length ≤ 4096 ∧ fmO v ds = (v, ds) := by
  unfold checkR at h
  split at h
  · cases h
  · rename_i h1
    split at h
    · cases h
    · rename_i h2
      split at h
      · rename_i h3
        exact ⟨Decidable.not_not.1 h1, by omega, h3⟩
      · cases h
theorem check_rise {v : List Int} {ds : Dots} (h : checkR v ds = 0) : Rise ds := by
  have := fmO_rise v ds
  rw [(check_fm h).2.2] at this
  exact this
theorem joinL_vAt {v v' : List Int} (h : v.length ≤ 16) (h' : v'.length ≤ 16) (p : ∀ n ∈ v, 0 ≤ n) (p' : ∀ n ∈ v', 0 ≤ n) (r : Int) : vAt (joinL v v' 16) r = max (vAt v r) (vAt v' r) := by
  have rv : ∀ (w : List Int), (∀ n ∈ w, 0 ≤ n) → ∀ r, rAt w r = vAt w r := fun w pw r => by
    unfold rAt vAt
    by_cases h1 : r < 1
    · rw [if_pos (.inl h1), if_pos h1]
    · by_cases h2 : (w.length : Int) < r
      · rw [if_pos (.inr h2), if_neg h1, if_pos h2]
      · rw [if_neg (by omega), if_neg h1, if_neg h2]
        have hk : (r - 1).toNat < w.length := by omega
        rw [List.getD_eq_getElem?_getD, List.getElem?_eq_getElem hk]
        have := pw _ (List.getElem_mem hk)
        simp only [Option.getD_some]
        omega
  by_cases ho : r < 1 ∨ 16 < r
  · rw [vAt_out _ _ (by rw [joinL_len]; exact ho), vAt_out v _ (by omega), vAt_out v' _ (by omega)]
    rfl
  · obtain ⟨i, rfl⟩ : ∃ i : Nat, r = ((i + 1 : Nat) : Int) := ⟨(r - 1).toNat, by omega⟩
    have hi : i < 16 := by omega
    rw [vAt_in _ i (by rw [joinL_len]; exact hi)]
    have e : (joinL v v' 16).getD i 0 = max (rAt v ((i + 1 : Nat) : Int)) (rAt v' ((i + 1 : Nat) : Int)) := by
      simp [joinL, List.getD_eq_getElem?_getD, List.getElem?_range hi]
    rw [e, rv v p, rv v' p']
    have := vAt_ge v ((i + 1 : Nat) : Int)
    omega
/-- What the program's Join builds. -/
theorem join_bld {v v' : List Int} {ds ds' : Dots} (c : checkR v ds = 0) (c' : checkR v' ds' = 0) :
    bldO (vjoin (vjoin [] v) v') (ds ++ ds') = fmO (joinL v v' 16) (ds ++ ds') ∧ absR (vjoin (vjoin [] v) v', []) (mrgD (ds.length + ds'.length) ds ds') = absR (vjoin (vjoin [] v) v', []) (srtD (ds ++ ds')) := by
  obtain ⟨a1, a2, a3⟩ := check_fm c
  obtain ⟨b1, b2, b3⟩ := check_fm c'
  have hr := joinL_ranged a1 b1
  refine ⟨bld_fm hr (by rw [vjoin_len, vjoin_len]; have := a1.1; have := b1.1; simp; omega) (vjoin_pos _ _) fun r => ?_, ?_⟩
  · rw [vAt_vjoin, vAt_vjoin, vAt_nil, joinL_vAt a1.1 b1.1 (fun n hn => (a1.2.1 n hn).1) (fun n hn => (b1.2.1 n hn).1)]
    have := vAt_ge v r
    omega
  · exact absR_any (mrgD_rise _ _ _ rfl (rise_w (check_rise c)) (rise_w (check_rise c'))) (fun d => (mrgD_perm _ ds ds' rfl).mem_iff) hr.2.2 _
end Go.Proofs.Ytnnkfhlmkaobfaa
end
