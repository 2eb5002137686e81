/- Part 18 of what the laws' proofs rest on. No condition. -/
import Derived.Test.YtnnkfhlmkaobfaaCm17
set_option linter.all false
section
namespace Go.Proofs.Ytnnkfhlmkaobfaa
set_option maxRecDepth 100000
set_option maxHeartbeats 4000000
set_option linter.unusedSimpArgs false
noncomputable def T_chk (chk : List Int → Dots → Int) : List AV → List AB → Option (AV × List AB)
  | [.ag [s, t]], h => (getS intR h s).bind fun v => (getS dotR h t).bind fun ds => some (.i .i64 (chk v ds), h)
  | _, _ => none
noncomputable def T_cboth (chk : List Int → Dots → Int) : List AV → List AB → Option (AV × List AB)
  | [.ag [s, t], .ag [s', t']], h => (getS intR h s).bind fun v => (getS dotR h t).bind fun ds => (getS intR h s').bind fun v' => (getS dotR h t').bind fun ds' => some (.i .i64 (if chk v ds = 0 then chk v' ds' else chk v ds), h)
  | _, _ => none
theorem cboth_spec (chk : List Int → Dots → Int) (hC : Spec Try.prog 23 (T_chk chk)) : Spec Try.prog 36 (T_cboth chk) := by
  intro args h v h' e
  unfold T_cboth at e
  split at e
  · rename_i s t s' t'
    obtain ⟨vs, hs, e⟩ := getS_bind e
    obtain ⟨ds, ht, e⟩ := getS_bind e
    obtain ⟨vs', hs', e⟩ := getS_bind e
    obtain ⟨ds', ht', e⟩ := getS_bind e
    cases e
    refine FnAt.c (FnAt.run (by kernel_rfl) (T := ⟨[⟨23, T_chk chk, fun _ => []⟩], []⟩) ⟨⟨hC, trivial⟩, trivial⟩ Try.func36 sw36 fun ho hh => ?_)
    simp only [okL_cons, ok_ag, Bool.and_eq_true] at ho
    have f1 := hs.fx ho.1.1 (sz := 1) rfl
    have f2 := ht.fx ho.1.2.1 (sz := 2) rfl
    have f3 := hs'.fx ho.2.1.1 (sz := 1) rfl
    have f4 := ht'.fx ho.2.1.2.1 (sz := 2) rfl
    unfold w36
    simp only [rep_0, rep_s, walkW, ld_own, lda_own, st_own, sta_own, len_app, if_true, if_false, reduceIte, Nat.reduceAdd, Nat.reduceSub, Nat.reduceLeDiff, Nat.reduceEqDiff, Nat.reduceMul, Nat.reduceLT, Int.reduceLT, Int.reduceLE, Int.reduceEq, rsl_get, srcV_own, f1, f2, f3, f4, T_chk]
    exact ⟨fun q => Bt.dropI _ hh (by rw [if_neg q]), fun q => Bt.dropI _ hh (by rw [if_pos (Decidable.not_not.1 q)])⟩
  · cases e
noncomputable def T_cHas (chk : List Int → Dots → Int) : List AV → List AB → Option (AV × List AB)
  | [.ag [s, t], .ag [.i .i64 a, .i .i64 b]], h => (getS intR h s).bind fun v => (getS dotR h t).bind fun ds => some (.b (decide (chk v ds = 0 ∧ chasP v ds (a, b))), h)
  | _, _ => none
theorem cHas_spec (chk : List Int → Dots → Int) (h0 : ∀ v ds, chk v ds = 0 → rangedP v ds ∧ ds.length ≤ 4096) (hC : Spec Try.prog 23 (T_chk chk)) : Spec Try.prog 25 (T_cHas chk) := by
  intro args h v h' e
  unfold T_cHas at e
  split at e
  · rename_i s t a b
    obtain ⟨vs, hs, e⟩ := getS_bind e
    obtain ⟨ds, ht, e⟩ := getS_bind e
    cases e
    refine FnAt.c (FnAt.run (by kernel_rfl) (T := ⟨[⟨23, T_chk chk, fun _ => []⟩, ⟨45, T_chas, fun _ => []⟩], []⟩) ⟨⟨hC, chas_spec, trivial⟩, trivial⟩ Try.func25 sw25 fun ho hh => ?_)
    simp only [okL_cons, ok_ag, Bool.and_eq_true] at ho
    have f1 := hs.fx ho.1.1 (sz := 1) rfl
    have f2 := ht.fx ho.1.2.1 (sz := 2) rfl
    unfold w25
    by_cases q : chk vs ds = 0
    · have hl : (ds.length ≤ 1000000) = True := eq_true (by have := (h0 vs ds q).2; omega)
      have q' := eq_true q
      simp only [rep_0, rep_s, walkW, ld_own, lda_own, st_own, sta_own, len_app, if_true, if_false, reduceIte, Nat.reduceAdd, Nat.reduceSub, Nat.reduceLeDiff, Nat.reduceEqDiff, Nat.reduceMul, Nat.reduceLT, Int.reduceLT, Int.reduceLE, Int.reduceEq, rsl_get, srcV_own, f1, f2, T_chk, T_chas, hl, q']
      exact ⟨Bt.dropB _ hh rfl, fun q => q.elim⟩
    · have q' := eq_false q
      simp only [rep_0, rep_s, walkW, ld_own, lda_own, st_own, sta_own, len_app, if_true, if_false, reduceIte, Nat.reduceAdd, Nat.reduceSub, Nat.reduceLeDiff, Nat.reduceEqDiff, Nat.reduceMul, Nat.reduceLT, Int.reduceLT, Int.reduceLE, Int.reduceEq, rsl_get, srcV_own, f1, f2, T_chk, T_chas, q']
      exact ⟨fun q => q.elim, Bt.dropB _ hh (decide_eq_false fun q => q.1).symm⟩
  · cases e
def countC (chk : List Int → Dots → Int) (v : List Int) (ds : Dots) : Int := if chk v ds = 0 then wS v v.length + ds.length else 0
noncomputable def T_cCount (chk : List Int → Dots → Int) : List AV → List AB → Option (AV × List AB)
  | [.ag [s, t]], h => (getS intR h s).bind fun v => (getS dotR h t).bind fun ds => some (.i .i64 (countC chk v ds), h)
  | _, _ => none
theorem cCount_spec (chk : List Int → Dots → Int) (h0 : ∀ v ds, chk v ds = 0 → rangedP v ds ∧ ds.length ≤ 4096) (hC : Spec Try.prog 23 (T_chk chk)) : Spec Try.prog 27 (T_cCount chk) := by
  intro args h v h' e
  unfold T_cCount at e
  split at e
  · rename_i s t
    obtain ⟨vs, hs, e⟩ := getS_bind e
    obtain ⟨ds, ht, e⟩ := getS_bind e
    cases e
    refine FnAt.c (FnAt.frz0 fun hz => ?_)
    replace hs := hs.frz
    replace ht := ht.frz
    generalize h.map AB.freeze = h at *
    refine FnAt.run (by kernel_rfl) (T := ⟨[⟨23, T_chk chk, fun _ => []⟩, ⟨60, T_Weight, fun _ => []⟩], []⟩) ⟨⟨hC, Weight_spec, trivial⟩, trivial⟩ Try.func27 sw27 fun ho hh => ?_
    simp only [okL_cons, ok_ag, Bool.and_eq_true] at ho
    have f1 := hs.fx ho.1.1 (sz := 1) rfl
    have f2 := ht.fx ho.1.2.1 (sz := 2) rfl
    unfold w27
    by_cases q : chk vs ds = 0
    · obtain ⟨b1, b2⟩ := h0 vs ds q
      have hl : (vs.length ≤ 1000000) = True := eq_true (by have := b1.1; omega)
      have q' := eq_true q
      have bd := wS_bd vs vs.length
      have e1 : IntKind.i64.wrap (wS vs vs.length + (ds.length : Int)) = wS vs vs.length + (ds.length : Int) := wrap_in (by unfold In64; omega)
      simp only [rep_0, rep_s, walkW, walkD, ld_own, lda_own, st_own, sta_own, len_app, if_true, if_false, reduceIte, Nat.reduceAdd, Nat.reduceSub, Nat.reduceLeDiff, Nat.reduceEqDiff, Nat.reduceMul, Nat.reduceLT, Int.reduceLT, Int.reduceLE, Int.reduceEq, rsl_get, srcV_own, merge_own, drop_own, getD_own, CO.tmps, Opd.tmps, optT, Nat.reducePow, Nat.reduceDiv, Nat.reduceMod, f1, f2, T_chk, T_Weight, hl, q', e1, mask_own hz, HOk_own hh]
      exact Bt.dropI _ hh (by unfold countC; rw [if_pos q])
    · have q' := eq_false q
      simp only [rep_0, rep_s, walkW, ld_own, lda_own, st_own, sta_own, len_app, if_true, if_false, reduceIte, Nat.reduceAdd, Nat.reduceSub, Nat.reduceLeDiff, Nat.reduceEqDiff, Nat.reduceMul, Nat.reduceLT, Int.reduceLT, Int.reduceLE, Int.reduceEq, rsl_get, srcV_own, f1, f2, T_chk, q']
      exact ⟨Bt.dropI _ hh (by unfold countC; rw [if_neg q]), fun q => q.elim⟩
  · cases e
/-- The greatest of row r: of the vector, and of the first i dots. -/
def maxC (v : List Int) (ds : Dots) (r : Int) : Nat → Int
  | 0 => vAt v r
  | i + 1 => if (ds.getD i dotR.d).1 = r then max (maxC v ds r i) (ds.getD i dotR.d).2 else maxC v ds r i
def nextC (chk : List Int → Dots → Int) (v : List Int) (ds : Dots) (r : Int) : (Int × Int) × Int :=
  if chk v ds ≠ 0 then ((0, 0), chk v ds) else if r < 1 ∨ 16 < r then ((0, 0), 3)
  else if 1048576 ≤ maxC v ds r ds.length then ((0, 0), 10) else ((r, maxC v ds r ds.length + 1), 0)
theorem maxC_ge (v : List Int) (ds : Dots) (r : Int) : ∀ i, 0 ≤ maxC v ds r i
  | 0 => vAt_ge0 v r
  | i + 1 => by
    have h1 := maxC_ge v ds r i
    unfold maxC
    split <;> omega
noncomputable def T_cNext (chk : List Int → Dots → Int) : List AV → List AB → Option (AV × List AB)
  | [.ag [s, t], .i .i64 r], h => (getS intR h s).bind fun v => (getS dotR h t).bind fun ds => some (.tu [.ag [.i .i64 (nextC chk v ds r).1.1, .i .i64 (nextC chk v ds r).1.2], .i .i64 (nextC chk v ds r).2], h)
  | _, _ => none
theorem cNext_spec (chk : List Int → Dots → Int) (hC : Spec Try.prog 23 (T_chk chk)) : Spec Try.prog 21 (T_cNext chk) := by
  intro args h v h' e
  unfold T_cNext at e
  split at e
  · rename_i s t r
    obtain ⟨vs, hs, e⟩ := getS_bind e
    obtain ⟨ds, ht, e⟩ := getS_bind e
    cases e
    refine FnAt.c (FnAt.run (by kernel_rfl) (T := ⟨[⟨23, T_chk chk, fun _ => []⟩, ⟨44, T_At, fun _ => []⟩], []⟩) ⟨⟨hC, at_spec, trivial⟩, trivial⟩ Try.func21 sw21 fun ho hh => ?_)
    simp only [okL_cons, ok_ag, Bool.and_eq_true] at ho
    have f1 := hs.fx ho.1.1 (sz := 1) rfl
    have f2 := ht.fx ho.1.2.1 (sz := 2) rfl
    have m2 := ht.2
    unfold maxLen at m2
    unfold w21
    simp only [rep_0, rep_s, walkW, ld_own, lda_own, st_own, sta_own, len_app, if_true, if_false, reduceIte, Nat.reduceAdd, Nat.reduceSub, Nat.reduceLeDiff, Nat.reduceEqDiff, Nat.reduceMul, Nat.reduceLT, Int.reduceLT, Int.reduceLE, Int.reduceEq, rsl_get, srcV_own, f1, f2, T_chk, T_At]
    have vv : ∀ x : (Int × Int) × Int, nextC chk vs ds r = x → AV.tu [.ag [.i .i64 x.1.1, .i .i64 x.1.2], .i .i64 x.2] = .tu [.ag [.i .i64 (nextC chk vs ds r).1.1, .i .i64 (nextC chk vs ds r).1.2], .i .i64 (nextC chk vs ds r).2] := fun x hx => by rw [hx]
    refine ⟨fun q => Bt.drop _ hh (vv ((0, 0), chk vs ds) ?_) rfl, fun q => ⟨fun q1 => Bt.drop _ hh (vv ((0, 0), 3) ?_) rfl, fun q1 => ⟨fun q2 => Bt.drop _ hh (vv ((0, 0), 3) ?_) rfl, fun q2 => ?_⟩⟩⟩
    · unfold nextC
      rw [if_pos q]
    · unfold nextC
      rw [if_neg q, if_pos (.inl q1)]
    · unfold nextC
      rw [if_neg q, if_pos (.inr q2)]
    have q3 : ¬ (r < 1 ∨ 16 < r) := fun z => z.elim q1 q2
    have fo3 : ∀ c, t.ok (fun i => decide (i < h.length + c)) = true := fun c => AV.ok_mono (fun i q => by simp only [decide_eq_true_eq] at q ⊢; omega) _ ho.1.2.1
    have fr2 : ∀ sel, Wk (t.ren (selN h.length sel)) t := fun sel => Wk.ren (fun i hi => selN_old hi) ho.1.2.1
    have fo1 : ∀ c, s.ok (fun i => decide (i < h.length + c)) = true := fun c => AV.ok_mono (fun i q => by simp only [decide_eq_true_eq] at q ⊢; omega) _ ho.1.1
    have fr1 : ∀ sel, Wk (s.ren (selN h.length sel)) s := fun sel => Wk.ren (fun i hi => selN_old hi) ho.1.1
    refine W_loopS (S := Nat) (fun i => ds.length - i) (fun i => tp 1 ++ [.i .i64 r] ++ tp 2 ++ [.p (h.length + 1) 0] ++ tp 2 ++ [.i .i64 (maxC vs ds r i)] ++ tp 20 ++ [t, .i .i64 ds.length, .i .i64 i] ++ tp 19) (fun _ => h ++ [.blk false true [s, t], .blk true true [.i .i64 0, .i .i64 0]]) (fun i => i ≤ ds.length) 0 (Nat.zero_le _) ?_ fun i hi => ?_
    · exact Bt.wk (by simp only [walkW, ld_own, lda_own, st_own, sta_own, len_app, if_true, if_false, reduceIte, Nat.reduceAdd, Nat.reduceSub, Nat.reduceLeDiff, Nat.reduceEqDiff, Nat.reduceMul, Nat.reduceLT, Int.reduceLT, Int.reduceLE, Int.reduceEq, rsl_get, srcV_own, maxC])
    have bd := maxC_ge vs ds r i
    simp only [walkW, ld_own, lda_own, st_own, sta_own, len_app, if_true, if_false, reduceIte, Nat.reduceAdd, Nat.reduceSub, Nat.reduceLeDiff, Nat.reduceEqDiff, Nat.reduceMul, Nat.reduceLT, Int.reduceLT, Int.reduceLE, Int.reduceEq, rsl_get, srcV_own, f1, f2]
    refine ⟨fun g1 => ?_, fun g1 => ?_⟩
    · have e1 : IntKind.i64.wrap ((i : Int) + 1) = ((i + 1 : Nat) : Int) := wrap_in (by unfold In64; omega)
      simp only [walkW, ld_own, lda_own, st_own, sta_own, len_app, if_true, if_false, reduceIte, Nat.reduceAdd, Nat.reduceSub, Nat.reduceLeDiff, Nat.reduceEqDiff, Nat.reduceMul, Nat.reduceLT, Int.reduceLT, Int.reduceLE, Int.reduceEq, rsl_get, srcV_own, f1, f2, g1, dotR_f, e1]
      refine ⟨fun g2 => ⟨i + 1, g1, by dsimp only; omega, ?_⟩, fun g2 => ⟨i + 1, g1, by dsimp only; omega, ?_⟩⟩
      · simp only [maxC, if_pos g2]
        exact Bt.sel [0, 1] hh (by decide) (by simp only [walkS, FrSel, BlkSel, AV.ren, renL, AV.ok, okL, Option.some.injEq, exists_eq_left', List.length_cons, List.length_nil, Nat.reduceAdd, Nat.reduceLT, reduceCtorEq, implies_true, exists_eq', fo1, fo3, fr1, fr2]) (by simp only [walkS, FrSel, BlkSel, AV.ren, renL, AV.ok, okL, Option.some.injEq, exists_eq_left', List.length_cons, List.length_nil, Nat.reduceAdd, Nat.reduceLT, reduceCtorEq, implies_true, exists_eq', fo1, fo3, fr1, fr2])
      · simp only [maxC, if_neg g2]
        exact Bt.sel [0, 1] hh (by decide) (by simp only [walkS, FrSel, BlkSel, AV.ren, renL, AV.ok, okL, Option.some.injEq, exists_eq_left', List.length_cons, List.length_nil, Nat.reduceAdd, Nat.reduceLT, reduceCtorEq, implies_true, exists_eq', fo1, fo3, fr1, fr2]) (by simp only [walkS, FrSel, BlkSel, AV.ren, renL, AV.ok, okL, Option.some.injEq, exists_eq_left', List.length_cons, List.length_nil, Nat.reduceAdd, Nat.reduceLT, reduceCtorEq, implies_true, exists_eq', fo1, fo3, fr1, fr2])
    · obtain rfl : i = ds.length := by omega
      by_cases g2 : 1048576 ≤ maxC vs ds r ds.length
      · have g2' := eq_true g2
        simp only [g2']
        refine ⟨fun _ => Bt.drop _ hh (vv ((0, 0), 10) ?_) rfl, fun q => absurd trivial q⟩
        unfold nextC
        rw [if_neg q, if_neg q3, if_pos g2]
      · have e1 : IntKind.i64.wrap (maxC vs ds r ds.length + 1) = maxC vs ds r ds.length + 1 := wrap_in (by unfold In64; omega)
        simp only [e1]
        refine ⟨fun z => absurd z g2, fun _ => Bt.drop _ hh (vv ((r, maxC vs ds r ds.length + 1), 0) ?_) rfl⟩
        unfold nextC
        rw [if_neg q, if_neg q3, if_neg g2]
  · cases e
end Go.Proofs.Ytnnkfhlmkaobfaa
end
section
namespace Go.Proofs.Ytnnkfhlmkaobfaa
open Go.RowKit
section
variable {P : Program} {α : Type} {r : Row α}
/-- A block may be held for less than it is. -/
theorem Bt.less {p : Nat} {fr : List AV} {h : List AB} {i : Nat} {B B' : AB} (hi : h[i]? = some B) (hbr : ∀ ρ w b o n, BR (KC P) ρ w b o n B → BR (KC P) ρ w b o n B') (hm : B'.mut = true → B.mut = true) (hl : B'.live = true → B.live = true) : Bt P p fr h fr (h.set i B') := by
  intro ρ w cs hp rr v
  have hlt := (List.getElem?_eq_some_iff.1 hi).1
  have cls : ∀ (j : Nat) C, (h.set i B')[j]? = some C → ∃ C0, h[j]? = some C0 ∧ (C.mut = true → C0.mut = true) ∧ (C.live = true → C0.live = true) ∧ ∀ ρ w b o n, BR (KC P) ρ w b o n C0 → BR (KC P) ρ w b o n C := fun j C hC => by
    rw [List.getElem?_set] at hC
    split at hC
    · rename_i hij
      subst hij
      cases hC
      exact ⟨B, hi, hm, hl, hbr⟩
    · exact ⟨C, hC, fun z => z, fun z => z, fun _ _ _ _ _ z => z⟩
  refine ⟨by rw [List.length_set]; exact hp, ρ, v, ⟨by rw [List.length_set]; exact rr.len, fun j C b o n h1 h2 => ?_, fun j k bj oj bk ok Bj Bk hne h1 h2 h3 h4 g1 g2 => ?_⟩, fun b ⟨j, C, o, h1, h2, h3⟩ => ?_, fun j b ⟨C, o, h1, h2, h3⟩ => ?_, fun _ _ => rfl⟩
  · obtain ⟨C0, q1, _, _, q4⟩ := cls j C h1
    exact q4 _ _ _ _ _ (rr.blk j C0 b o n q1 h2)
  · obtain ⟨C0, q1, q2, _, _⟩ := cls j Bj h1
    obtain ⟨C1, z1, _, z3, _⟩ := cls k Bk h2
    exact rr.sep j k bj oj bk ok C0 C1 hne q1 z1 h3 h4 (q2 g1) (z3 g2)
  · obtain ⟨C0, q1, q2, _, _⟩ := cls j C h1
    exact ⟨j, C0, o, q1, q2 h2, h3⟩
  · obtain ⟨C0, q1, _, q3, _⟩ := cls j C h1
    exact ⟨j, ⟨C0, o, q1, q3 h2, h3⟩, fun _ => rfl, fun z => z⟩
theorem Bt.take {p : Nat} {fr : List AV} {h : List AB} {i n : Nat} {m : Bool} {l : List α} (hi : h[i]? = some (resB r m l)) (hn : n ≤ l.length) : Bt P p fr h fr (h.set i (resB r m (l.take n))) := by
  have hl : (l.take n).length = n := by rw [List.length_take]; omega
  by_cases h0 : n = 0
  · have e : resB r m (l.take n) = .dead := by unfold resB; rw [if_pos (hl.trans h0)]
    rw [e]
    exact Bt.less hi (fun ρ w b o q _ => trivial) (fun q => by cases q) (fun q => by cases q)
  · have hl0 : ¬ l.length = 0 := by omega
    have hle : n * r.sz ≤ l.length * r.sz := Nat.mul_le_mul_right _ hn
    have hc : r.cells (l.take n) = (r.cells l).take (n * r.sz) := (r.cells_take l n).symm
    have hcl := r.cells_len l
    refine Bt.less hi (fun ρ w b o q hb => ?_) (fun q => ?_) (fun q => ?_)
    · simp only [resB, hl, if_neg h0, if_neg hl0, BR] at hb ⊢
      obtain ⟨cs, e, fz, h1, h2, h3, h4⟩ := hb
      refine ⟨cs, e, fz, h1, h2, ?_, fun k a c ha hcs => ?_⟩
      · rw [hc, List.length_take]; omega
      · rw [hc, List.getElem?_take] at ha
        split at ha
        · exact h4 k a c ha hcs
        · cases ha
    · simpa only [resB, hl, if_neg h0, if_neg hl0, AB.mut] using q
    · simp only [resB, if_neg hl0, AB.live]
/-- A slice cut shorter. -/
def cutS (s : AV) (n : Nat) : AV :=
  match s with
  | .sl id off _ cap k => .sl id off n cap k
  | s => s
theorem cutS_wk (id : Nat) {l : List α} {n : Nat} (hn : n ≤ l.length) : Wk (rsl r id (l.take n)) (cutS (rsl r id l) n) := by
  have hl : (l.take n).length = n := by rw [List.length_take]; omega
  by_cases h0 : n = 0
  · subst h0
    unfold rsl
    rw [if_pos hl]
    split <;> exact Wk.empty _ _ _ _ _ _
  · unfold rsl
    rw [hl, if_neg h0, if_neg (by omega)]
    intro ρ c hv
    simp only [cutS] at hv
    generalize hk : (some r.sz : Option Nat) = k at hv ⊢
    generalize l.length = m at hv hn
    cases hv with
    | sl _ _ _ _ _ b o nn cap' g1 g2 g3 g4 g5 g6 => exact .sl id 0 n n k b o nn cap' g1 (Nat.le_refl _) (by omega) g4 (fun q => by rw [q] at hk; cases hk) g6
    | sz => exact absurd rfl h0
theorem cutS_ren (f : Nat → Nat) (id n : Nat) (l : List α) : (cutS (rsl r id l) n).ren f = cutS (rsl r (f id) l) n := by unfold rsl; split <;> rfl
theorem cutS_okr (q : Nat → Bool) (id n : Nat) {l : List α} (h : q id = true) : (cutS (rsl r id l) n).ok q = true := by unfold rsl; split <;> simp [cutS, AV.ok, h]
theorem nsSl : AV.ns.isSl = true := _root_.id rfl
theorem slSl (a b c d : Nat) (k : Option Nat) : (AV.sl a b c d k).isSl = true := _root_.id rfl
theorem cutS_isSl {s : AV} (h : s.isSl = true) (n : Nat) : (cutS s n).isSl = true := by cases s <;> first | rfl | cases h
theorem cutS_rsl (id n : Nat) (l : List α) : (cutS (rsl r id l) n).isSl = true := cutS_isSl (rsl_isSl id l) n
theorem cutS_one (id n : Nat) (l : List α) : (cutS (rsl r id l) n).one = true := sl_one (cutS_rsl id n l)
theorem cutS_cells (id n : Nat) (l : List α) : (cutS (rsl r id l) n).cells = [cutS (rsl r id l) n] := sl_cells (cutS_rsl id n l)
theorem cutS_known (id n : Nat) (l : List α) : (cutS (rsl r id l) n).known = true := sl_known (cutS_rsl id n l)
end
end Go.Proofs.Ytnnkfhlmkaobfaa
end
section
namespace Go.Proofs.Ytnnkfhlmkaobfaa
set_option maxRecDepth 100000
set_option linter.unusedSimpArgs false
/-- A box of two slices. -/
def boxOf (h : List AB) (id : Nat) : Option (AV × AV) :=
  match h[id]? with
  | some (.blk false true [v, d]) => if v.isSl = true ∧ d.isSl = true then some (v, d) else none
  | _ => none
theorem boxOf_some {h : List AB} {id : Nat} {x : AV × AV} (e : boxOf h id = some x) : h[id]? = some (.blk false true [x.1, x.2]) ∧ x.1.isSl = true ∧ x.2.isSl = true := by
  unfold boxOf at e
  split at e
  · rename_i v d hb
    split at e
    · rename_i hs
      cases e
      exact ⟨hb, hs⟩
    · cases e
  · cases e
theorem HOk_box {h : List AB} {id : Nat} {v d : AV} (hh : HOk h) (hb : h[id]? = some (.blk false true [v, d])) : v.ok (fun i => decide (i < h.length)) = true ∧ d.ok (fun i => decide (i < h.length)) = true := by
  have := hh id _ hb
  simpa [AB.ok, okL] using this
noncomputable def T_first : List AV → List AB → Option (AV × List AB)
  | [.p id 0, s], h => (boxOf h id).bind fun x => (getS intR h x.1).bind fun xs => (getS intR h s).bind fun ys => if xs.length ≤ 1000000 ∧ ys.length ≤ 1000000 then some (.p id 0, bx2 h id (rsl intR h.length (vjoin xs ys)) x.2 ++ [resB intR true (vjoin xs ys)]) else none
  | _, _ => none
theorem first_spec : Spec Try.prog 38 T_first := by
  intro args h v h' e
  unfold T_first at e
  split at e
  · rename_i id s
    obtain ⟨⟨v0, d0⟩, hx, e⟩ := Option.bind_eq_some_iff.1 e
    obtain ⟨hb, hv, hd⟩ := boxOf_some hx
    obtain ⟨xs, h1, e⟩ := getS_bind e
    obtain ⟨ys, h2, e⟩ := getS_bind e
    split at e
    · rename_i hl
      cases e
      dsimp only at *
      refine FnAt.c (FnAt.run (by kernel_rfl) (T := ⟨[⟨63, T_Join, fun _ => []⟩], []⟩) ⟨⟨Join_spec, trivial⟩, trivial⟩ Try.func38 sw38 fun ho hh => ?_)
      simp only [okL_cons, Bool.and_eq_true] at ho
      have hid := (List.getElem?_eq_some_iff.1 hb).1
      have fb := bx2_fx hid
      have f1 := (h1.bx2 hb hv hd int_sl v0 d0).fxB (sz := 1) rfl
      have f2 := (h2.bx2 hb hv hd int_sl v0 d0).fxB (sz := 1) rfl
      rw [show h ++ [] = bx2 h id v0 d0 ++ [] by rw [bx2_same hb]]
      unfold w38
      simp only [rep_0, rep_s, walkW, walkM, if_true, if_false, reduceIte, Nat.reduceAdd, Nat.reduceSub, Nat.reduceLeDiff, Nat.reduceEqDiff, Nat.reduceMul, Nat.reduceLT, Int.reduceLT, Int.reduceLE, Int.reduceEq, T_Join, fb, f1, f2, hl]
      exact Bt.refl _ _ _
    · cases e
  · cases e
/-- How a cloud is answered. -/
def T_done : List AV → List AB → Option (AV × List AB)
  | [.p id 0], h => (boxOf h id).bind fun x => (lenV x.2).bind fun n => if 4096 < n then some (.tu [.ag [.ns, .ns], .i .i64 10], h) else some (.tu [.ag [x.1, x.2], .i .i64 0], h)
  | _, _ => none
theorem done_spec : Spec Try.prog 41 T_done := by
  intro args h v h' e
  unfold T_done at e
  split at e
  · rename_i id
    obtain ⟨⟨v0, d0⟩, hx, e⟩ := Option.bind_eq_some_iff.1 e
    obtain ⟨hb, hv, hd⟩ := boxOf_some hx
    obtain ⟨n, hn, e⟩ := Option.bind_eq_some_iff.1 e
    dsimp only at *
    refine FnAt.c (FnAt.run (by kernel_rfl) (T := ⟨[], []⟩) ⟨trivial, trivial⟩ Try.func41 sw41 fun ho hh => ?_)
    have hid := (List.getElem?_eq_some_iff.1 hb).1
    have fb := bx2_fx hid
    have e0 : h ++ [] = bx2 h id v0 d0 ++ [] := by rw [bx2_same hb]
    rw [e0]
    unfold w41
    simp only [rep_0, rep_s, walkW, walkM, if_true, if_false, reduceIte, Nat.reduceAdd, Nat.reduceSub, Nat.reduceLeDiff, Nat.reduceEqDiff, Nat.reduceMul, Nat.reduceLT, Int.reduceLT, Int.reduceLE, Int.reduceEq, fb, hn, sl_str hd, sl_str hv]
    rw [bx2_same hb]
    have ok := HOk_box hh hb
    refine ⟨fun h1 => ?_, fun h1 => ⟨by rw [sl_one hv, sl_one hd]; rfl, ?_⟩⟩
    · rw [if_pos h1] at e
      cases e
      exact Bt.drop _ hh rfl (by simp [AV.ok, okL])
    · rw [if_neg h1] at e
      cases e
      exact Bt.drop _ hh rfl (by simp [AV.ok, okL, ok.1, ok.2])
  · cases e
/-- Noughts at the end taken away. -/
def trimV (xs : List Int) : Nat → List Int
  | 0 => []
  | n + 1 => if xs.getD n intR.d = 0 then trimV xs n else xs.take (n + 1)
theorem cutS_cap {s : AV} {n m : Nat} (h : s.capOk = true) (hl : lenV s = some (n : Int)) (hm : m ≤ n) : (cutS s m).capOk = true := by
  cases s with
  | sl id off len cap k =>
    simp only [lenV, Option.some.injEq, Int.natCast_inj] at hl
    simp only [AV.capOk, cutS, decide_eq_true_eq] at h ⊢
    omega
  | _ => rfl
noncomputable def T_trimmed : List AV → List AB → Option (AV × List AB)
  | [.p id 0], h => (boxOf h id).bind fun x => (getS intR h x.1).bind fun xs => if x.1.capOk = true then some (.p id 0, bx2 h id (cutS x.1 (trimV xs xs.length).length) x.2) else none
  | _, _ => none
theorem cutS_cut (s : AV) (n m : Nat) : cutS (cutS s n) m = cutS s m := by cases s <;> rfl
theorem cutS_sl {s : AV} (h : s.isSl = true) (n : Nat) : (cutS s n).isSl = true := by cases s <;> first | rfl | cases h
theorem cutS_self {s : AV} {n : Nat} (h : lenV s = some (n : Int)) : cutS s n = s := by
  cases s with
  | sl id off len cap k =>
    simp only [lenV, Option.some.injEq, Int.natCast_inj] at h
    subst h
    rfl
  | _ => rfl
/-- A slice cut reads az the beginning. -/
theorem Rd.cut {α : Type} {r : Row α} {h : List AB} {s : AV} {l : List α} (e : Rd r h s l) (n : Nat) (hn : n ≤ l.length) : Rd r h (cutS s n) (l.take n) := by
  refine ⟨?_, by have := e.2; rw [List.length_take]; omega⟩
  have h1 := e.1
  have hl := rdS_len h1
  cases s with
  | sl id off len cap k =>
    simp only [lenV, Option.some.injEq, Int.natCast_inj] at hl
    subst hl
    simp only [cutS, rdS] at h1 ⊢
    by_cases h0 : n = 0
    · subst h0
      rfl
    · rw [if_neg h0]
      rw [if_neg (by omega)] at h1
      obtain ⟨xs, h2, h3⟩ := Option.bind_eq_some_iff.1 h1
      rw [h2]
      split at h3
      · rename_i h4
        simp only [Option.some.injEq, Prod.mk.injEq, true_and] at h3
        have hle := Nat.mul_le_mul_right r.sz hn
        simp only [Option.bind_some]
        rw [if_pos (by omega), List.length_take, Nat.min_eq_left hn, ← r.cells_take, ← h3, List.take_take, Nat.min_eq_left hle]
      · cases h3
  | ns => simp only [lenV, Option.some.injEq] at hl; have h0 : n = 0 := by omega
          subst h0; rfl
  | se => simp only [lenV, Option.some.injEq] at hl; have h0 : n = 0 := by omega
          subst h0; rfl
  | _ => cases h1
theorem cutS_ok {q : Nat → Bool} {s : AV} {n m : Nat} (h : s.ok q = true) (hl : lenV s = some (n : Int)) (hm : m ≤ n) : (cutS s m).ok q = true := by
  cases s with
  | sl id off len cap k =>
    simp only [lenV, Option.some.injEq, Int.natCast_inj] at hl
    rcases sl_ok h with ⟨rfl, rfl, rfl⟩ | h1
    · have : m = 0 := by omega
      subst this
      exact h
    · simp [cutS, AV.ok, h1]
  | _ => exact h
theorem slL_cut {sz : Nat} {s : AV} {n m : Nat} (hs : s.isSl = true) (hl : lenV s = some (n : Int)) (hok : s.capOk = true) (hm : m ≤ n) : slL sz s none (some (.i .i64 (m : Int))) none = some (cutS s m) := by
  cases s with
  | sl id off len cap k =>
    simp only [lenV, Option.some.injEq, Int.natCast_inj] at hl
    subst hl
    have : len ≤ cap := of_decide_eq_true hok
    simp only [slL, bnd, Option.map_some, cutS, if_true]
    rw [if_pos (by omega)]
    simp
  | ns => simp only [lenV, Option.some.injEq] at hl; have h0 : m = 0 := by omega
          subst h0; simp [slL, bnd, cutS]
  | se => simp only [lenV, Option.some.injEq] at hl; have h0 : m = 0 := by omega
          subst h0; simp [slL, bnd, cutS]
  | _ => cases hs
theorem trimmed_spec : Spec Try.prog 40 T_trimmed := by
  intro args h v h' e
  unfold T_trimmed at e
  split at e
  · rename_i id
    obtain ⟨⟨v0, d0⟩, hx, e⟩ := Option.bind_eq_some_iff.1 e
    obtain ⟨hb, hv, hd⟩ := boxOf_some hx
    obtain ⟨xs, h1, e⟩ := getS_bind e
    split at e
    · rename_i hcap
      cases e
      dsimp only at *
      refine FnAt.c (FnAt.run (by kernel_rfl) (T := ⟨[], []⟩) ⟨trivial, trivial⟩ Try.func40 sw40 fun ho hh => ?_)
      have hid := (List.getElem?_eq_some_iff.1 hb).1
      have fb := bx2_fx hid
      have hlen := h1.len
      have e0 : h ++ [] = bx2 h id (cutS v0 xs.length) d0 ++ [] := by rw [cutS_self hlen, bx2_same hb]
      rw [e0]
      unfold w40
      simp only [rep_0, rep_s, walkW, walkM, if_true, if_false, reduceIte, Nat.reduceAdd, Nat.reduceSub, Nat.reduceLeDiff, Nat.reduceEqDiff, Nat.reduceMul, Nat.reduceLT, Int.reduceLT, Int.reduceLE, Int.reduceEq]
      refine W_loopS (S := Nat) (fun n => n) (fun _ => [.p id 0] ++ tp 44) (fun n => bx2 h id (cutS v0 n) d0 ++ []) (fun n => n ≤ xs.length ∧ trimV xs xs.length = trimV xs n) xs.length ⟨Nat.le_refl _, rfl⟩ (Bt.wk (by simp only [walkW, walkM, if_true, if_false, reduceIte, Nat.reduceAdd, Nat.reduceSub, Nat.reduceLeDiff, Nat.reduceEqDiff, Nat.reduceMul, Nat.reduceLT, Int.reduceLT, Int.reduceLE, Int.reduceEq])) fun n hn => ?_
      have hs1 := cutS_sl hv n
      have r1 := (h1.bx2 hb hv hd int_sl (cutS v0 n) d0).cut n hn.1
      have f1 := r1.fxB (sz := 1) rfl
      have fl := r1.len
      have fi : ∀ k m, iadV 1 (cutS v0 n) (.i k m) = _ := r1.iad
      have ok := HOk_box hh hb
      have o1 := cutS_ok ok.1 hlen hn.1
      have fo : ∀ c lo hi anc past, (cutS v0 n).ok (qOk (h.length + c) lo hi anc past) = true := fun c lo hi anc past => AV.ok_mono (fun i q => qOk_lt (by simp only [decide_eq_true_eq] at q; omega)) _ o1
      have fe : ∀ k j c lo hi anc past, k < (xs.take n).length → (elP 1 (cutS v0 n) k j).ok (qOk (h.length + c) lo hi anc past) = true := fun k j c lo hi anc past hk => r1.okEl (fo c lo hi anc past) k j 1 hk
      have ln : (xs.take n).length = n := by rw [List.length_take]; omega
      rw [ln] at fl fi fe
      simp only [ln] at f1
      have hidz : id < (h.map AB.freeze).length := by rw [List.length_map]; exact hid
      have fz := bx2_fx hidz
      simp only [List.length_map] at fz
      cases n with
      | zero =>
        simp only [walkW, walkD, walkM, if_true, if_false, reduceIte, Nat.reduceAdd, Nat.reduceSub, Nat.reduceLeDiff, Nat.reduceEqDiff, Nat.reduceMul, Nat.reduceLT, Int.reduceLT, Int.reduceLE, Int.reduceEq, CO.tmps, Opd.tmps, optT, Nat.reducePow, Nat.reduceDiv, Nat.reduceMod, fb, f1, fl, fi, fo, fe, sl_str hs1, Int.lt_irrefl, Int.natCast_zero, false_implies, true_implies, implies_true]
        rw [hn.2, show trimV xs 0 = [] from rfl]
        exact Bt.eq rfl (List.append_nil _)
      | succ m =>
        have e1 : IntKind.i64.wrap (((m + 1 : Nat) : Int) - 1) = (m : Int) := by
          rw [show ((m + 1 : Nat) : Int) - 1 = (m : Int) by omega]
          exact wrap_in (by have := h1.2; unfold maxLen at this; unfold In64; omega)
        have e2 : (0 < ((m + 1 : Nat) : Int)) = True := eq_true (by omega)
        have e3 : (m < m + 1) = True := eq_true (by omega)
        have e4 := slL_cut (sz := 1) hs1 fl (cutS_cap hcap hlen hn.1) (m := m) (by omega)
        rw [cutS_cut] at e4
        have e5 : (xs.take (m + 1)).getD m intR.d = xs.getD m intR.d := by
          rw [List.getD_eq_getElem?_getD, List.getD_eq_getElem?_getD, List.getElem?_take, if_pos (by omega)]
        have o2 := cutS_ok ok.1 hlen (m := m) (by omega)
        have fo2 : ∀ c lo hi anc past, (cutS v0 m).ok (qOk (h.length + c) lo hi anc past) = true := fun c lo hi anc past => AV.ok_mono (fun i q => qOk_lt (by simp only [decide_eq_true_eq] at q; omega)) _ o2
        have fo3 : ∀ c, (cutS v0 m).ok (fun i => decide (i < h.length + c)) = true := fun c => AV.ok_mono (fun i q => by simp only [decide_eq_true_eq] at q ⊢; omega) _ o2
        have fd2 : ∀ c lo hi anc past, d0.ok (qOk (h.length + c) lo hi anc past) = true := fun c lo hi anc past => AV.ok_mono (fun i q => qOk_lt (by simp only [decide_eq_true_eq] at q; omega)) _ ok.2
        have hk : ∀ x, HOk (bx2 h id (cutS v0 (m + 1)) d0 ++ x) = _ := fun x => HOk_ownP (bx2_len id _ _) (bx2_ok hid hh o1 ok.2) x
        simp only [walkW, walkD, walkM, if_true, if_false, reduceIte, Nat.reduceAdd, Nat.reduceSub, Nat.reduceLeDiff, Nat.reduceEqDiff, Nat.reduceMul, Nat.reduceLT, Int.reduceLT, Int.reduceLE, Int.reduceEq, CO.tmps, Opd.tmps, optT, Nat.reducePow, Nat.reduceDiv, Nat.reduceMod, fb, fz, f1, fl, fi, fo, fo2, fo3, fd2, fe, sl_str hs1, e1, e2, e3, e4, e5, intR_sz, intR_f, Nat.zero_lt_one, hk, mask_box rfl hid, merge_box hid, getD_box hidz, bx2_app_len, bx2_drop, List.length_map, sl_one (cutS_sl hv m)]
        refine ⟨fun h4 => ⟨m, ⟨by omega, ?_⟩, by dsimp only; omega, Bt.wk (by simp only [walkW, ld_own, lda_own, st_own, sta_own, len_app, if_true, if_false, reduceIte, Nat.reduceAdd, Nat.reduceSub, Nat.reduceLeDiff, Nat.reduceEqDiff, Nat.reduceMul, Nat.reduceLT, Int.reduceLT, Int.reduceLE, Int.reduceEq, rsl_get, srcV_own])⟩, fun h4 => ?_⟩
        · rw [hn.2, trimV, if_pos h4]
        · have : (trimV xs xs.length).length = m + 1 := by rw [hn.2, trimV, if_neg h4, List.length_take]; omega
          rw [this]
          exact Bt.eq rfl (List.append_nil _)
    · cases e
  · cases e
end Go.Proofs.Ytnnkfhlmkaobfaa
end
