/- Part 22 of what the laws' proofs rest on. No condition. -/
import Derived.Test.YtcncpbcbedfakaaGreatRn21
set_option linter.all false
section
namespace Go.Proofs.YtcncpbcbedfakaaGreat
set_option maxRecDepth 100000
set_option maxHeartbeats 4000000
set_option linter.unusedSimpArgs false
noncomputable def T_lost : List AV → List AB → Option (AV × List AB)
 | [x, .p i 0], h => match rdBlk h i with
  | some [_, s, t] => (getH x).bind fun y => (getS intR h s).bind fun v => (getS dotR h t).bind fun ds => some (.b (decide (¬ (checkR v ds = 0 ∧ rhasP v ds y.1))), h)
  | _ => none
 | _, _ => none
theorem lost_spec : Spec Tryz.prog 70 T_lost := by
 intro args h v h' e
 unfold T_lost at e
 split at e
 ·rename_i x i
  split at e
  ·rename_i l s t hb
   obtain ⟨y, hx, e2⟩ := getH_bind e
   clear e
   subst hx
   obtain ⟨vs, hs, e3⟩ := getS_bind e2
   obtain ⟨ds, ht, e4⟩ := getS_bind e3
   cases e4
   refine FnAt.c (FnAt.run (by kernel_rfl) (T := ⟨[⟨39, T_rHas, fun _ => []⟩], []⟩) ⟨⟨Has_spec, trivial⟩, trivial⟩ Tryz.func70 sw70 fun ho hh => ?_)
   have fb : ∀ x, ldV (h ++ x) (some 2) (.p i 1) = some (.ag [s, t]) := fun x => by
    have hi := rdBlk_lt hb
    have h2 : rdBlk (h ++ x) i = some [l, s, t] := by
     unfold rdBlk at hb ⊢
     rw [List.getElem?_append_left hi]
     exact hb
    simp only [ldV, h2, Option.bind_some]
    rfl
   unfold w70
   have k1 : ∀ x, getS intR (h ++ x) s = some vs := fun x => (hs.app x).get
   have k2 : ∀ x, getS dotR (h ++ x) t = some ds := fun x => (ht.app x).get
   have kd : ∀ z : Hd, (heldR.f z).take 2 = [.i .i64 z.1.1, .i .i64 z.1.2] := fun _ => rfl
   simp only [rep_0, rep_s, walkW, walkQ, walkX, if_true, if_false, ↓reduceIte, Nat.reduceAdd, Nat.reduceSub, Nat.reduceLeDiff, Nat.reduceEqDiff, Nat.reduceMul, Nat.reduceLT, Int.reduceLT, Int.reduceLE, Int.reduceEq, CO.tmps, Opd.tmps, optT, Nat.reducePow, Nat.reduceDiv, Nat.reduceMod, fb, k1, k2, kd, held_all1, held_len, T_rHas]
   exact Bt.dropB _ hh rfl
  ·cases e
 ·cases e
def rswP (l : List Hd) (i : Nat) : Prop := ∀ k, i ≤ k → 0 < k → k < l.length → ¬ cmpD (l.getD k heldR.d).1 (l.getD (k - 1) heldR.d).1 < 0
noncomputable instance (l : List Hd) (i : Nat) : Decidable (rswP l i) := Classical.propDecidable _
noncomputable def T_isS : List AV → List AB → Option (AV × List AB)
 | [s, .f (.func 50) [] []], h => (getS heldR h s).bind fun l => some (.b (decide (rswP l 0)), h)
 | _, _ => none
theorem isS_spec : Spec Tryz.prog 108 T_isS := by
 intro args h v h' e
 unfold T_isS at e
 split at e
 ·rename_i s
  obtain ⟨l, hl, e⟩ := getS_bind e
  cases e
  refine FnAt.c (FnAt.frz0 fun hz => ?_)
  replace hl := hl.frz
  generalize h.map AB.freeze = h at *
  refine FnAt.run (by kernel_rfl) (T := ⟨[⟨50, T_pahead, fun _ => []⟩], []⟩) ⟨⟨pahead_spec, trivial⟩, trivial⟩ Tryz.func108 sw108 fun ho hh => ?_
  simp only [okL_cons, Bool.and_eq_true] at ho
  have f1 := hl.fx ho.1 (sz := 34) rfl
  have w0 : IntKind.i64.wrap ((l.length : Int) - 1) = (l.length : Int) - 1 := wrap_in (by have := hl.2; unfold maxLen at this; unfold In64; omega)
  unfold w108
  simp only [rep_0, rep_s, walkW, walkQ, walkX, if_true, if_false, ↓reduceIte, Nat.reduceAdd, Nat.reduceSub, Nat.reduceLeDiff, Nat.reduceEqDiff, Nat.reduceMul, Nat.reduceLT, Int.reduceLT, Int.reduceLE, Int.reduceEq, CO.tmps, Opd.tmps, optT, Nat.reducePow, Nat.reduceDiv, Nat.reduceMod, f1, w0]
  refine W_loopF (S := Nat) (fun m => m) (fun m => [s, .f (.func 50) [] []] ++ tp 3 ++ [.i .i64 ((m : Int) - 1)] ++ tp 19) (fun m => m ≤ l.length ∧ rswP l m) l.length ⟨Nat.le_refl _, fun k h1 _ h3 => absurd h3 (by omega)⟩ (by simp only [walkW, walkX, if_true, if_false, reduceIte, Nat.reduceAdd, Nat.reduceSub, Nat.reduceLeDiff, Nat.reduceEqDiff, Nat.reduceMul, Nat.reduceLT, Int.reduceLT, Int.reduceLE, Int.reduceEq]) fun m hm => ?_
  by_cases g : 1 < m
  ·obtain ⟨j, rfl⟩ : ∃ j, m = j + 1 := ⟨m - 1, by omega⟩
   have e0 : (((j + 1 : Nat) : Int) - 1) = (j : Int) := by omega
   have g1 : ((0 : Int) < (j : Int)) = True := eq_true (by omega)
   have g2 : (j < l.length) = True := eq_true (by omega)
   have g3 : (j - 1 < l.length) = True := eq_true (by omega)
   have e1 : IntKind.i64.wrap ((j : Int) - 1) = ((j - 1 : Nat) : Int) := by
    have : (j : Int) - 1 = ((j - 1 : Nat) : Int) := by omega
    rw [this]
    exact wrap_in (by have := hl.2; unfold maxLen at this; unfold In64; omega)
   simp only [e0, walkW, walkQ, walkX, if_true, if_false, ↓reduceIte, Nat.reduceAdd, Nat.reduceSub, Nat.reduceLeDiff, Nat.reduceEqDiff, Nat.reduceMul, Nat.reduceLT, Int.reduceLT, Int.reduceLE, Int.reduceEq, CO.tmps, Opd.tmps, optT, Nat.reducePow, Nat.reduceDiv, Nat.reduceMod, f1, g1, g2, g3, e1, T_pahead, getH_f, held_ok, HOk_own hh, mask_ownC hz, mask_ownQ hz, mask_ownQ0 hz]
   refine ⟨fun q => Bt.dropB _ hh (decide_eq_false fun z => z j (Nat.zero_le _) (by omega) (by omega) q).symm, fun q => ⟨j, ⟨by omega, fun k h1 h2 h3 => ?_⟩, by omega, ?_⟩⟩
   ·rcases Nat.eq_or_lt_of_le h1 with z | z
    ·subst z; exact q
    ·exact hm.2 k z h2 h3
   ·have : ((j - 1 : Nat) : Int) = (j : Int) - 1 := by omega
    rw [this]
    exact Wk.refl _
  ·have g1 : ((0 : Int) < (m : Int) - 1) = False := eq_false (by omega)
   simp only [walkW, walkQ, walkX, if_true, if_false, ↓reduceIte, Nat.reduceAdd, Nat.reduceSub, Nat.reduceLeDiff, Nat.reduceEqDiff, Nat.reduceMul, Nat.reduceLT, Int.reduceLT, Int.reduceLE, Int.reduceEq, CO.tmps, Opd.tmps, optT, Nat.reducePow, Nat.reduceDiv, Nat.reduceMod, f1, g1]
   have hT : rswP l 0 := fun k _ h2 h3 => hm.2 k (by omega) h2 h3
   exact Bt.dropB _ hh (decide_eq_true hT).symm
 ·cases e
end Go.Proofs.YtcncpbcbedfakaaGreat
end
section
namespace Go.Proofs.YtcncpbcbedfakaaGreat
set_option maxRecDepth 100000
set_option maxHeartbeats 4000000
set_option linter.unusedSimpArgs false
def lostP (v : List Int) (ds : List (Int × Int)) (y : Hd) : Prop := ¬ (checkR v ds = 0 ∧ rhasP v ds y.1)
noncomputable instance (v : List Int) (ds : List (Int × Int)) (y : Hd) : Decidable (lostP v ds y) := Classical.propDecidable _
noncomputable def T_idxL : List AV → List AB → Option (AV × List AB)
 | [s, .f (.func 70) [] [.p i 0]], h => match rdBlk h i with
  | some [_, sb, tb] => (getS intR h sb).bind fun v => (getS dotR h tb).bind fun ds => (getS heldR h s).bind fun l => some (.i .i64 (idx (lostP v ds) l), h)
  | _ => none
 | _, _ => none
theorem idxL_spec : Spec Tryz.prog 43 T_idxL := by
 intro args h v h' e
 unfold T_idxL at e
 split at e
 ·rename_i s i
  split at e
  ·rename_i lb sb tb hb
   obtain ⟨vs, hs, e⟩ := getS_bind e
   obtain ⟨ds, ht, e⟩ := getS_bind e
   obtain ⟨l, hx, e⟩ := getS_bind e
   cases e
   refine FnAt.c (FnAt.run (by kernel_rfl) (T := ⟨[⟨70, T_lost, fun _ => []⟩], []⟩) ⟨⟨lost_spec, trivial⟩, trivial⟩ Tryz.func43 sw43 fun ho hh => ?_)
   simp only [okL_cons, Bool.and_eq_true] at ho
   have f1 := hx.fx ho.1 (sz := 34) rfl
   have k0 : ∀ x, rdBlk (h ++ x) i = some [lb, sb, tb] := (rdBlk_fx hb).1
   have k1 : ∀ x, getS intR (h ++ x) sb = some vs := fun x => (hs.app x).get
   have k2 : ∀ x, getS dotR (h ++ x) tb = some ds := fun x => (ht.app x).get
   have kp : ∀ y : Hd, decide (¬ (checkR vs ds = 0 ∧ rhasP vs ds y.1)) = decide (lostP vs ds y) := fun y => decide_eq_decide.2 Iff.rfl
   unfold w43
   simp only [rep_0, rep_s, walkW, walkX, if_true, if_false, reduceIte, Nat.reduceAdd, Nat.reduceSub, Nat.reduceLeDiff, Nat.reduceEqDiff, Nat.reduceMul, Nat.reduceLT, Int.reduceLT, Int.reduceLE, Int.reduceEq, f1]
   refine W_loopF (S := Nat) (fun j => l.length - j) (fun j => [s, .f (.func 70) [] [.p i 0]] ++ tp 5 ++ [.i .i64 l.length, .i .i64 j] ++ tp 10) (fun j => j ≤ l.length ∧ idx (lostP vs ds) l = idxFrom (lostP vs ds) (l.drop j) j) 0 ⟨Nat.zero_le _, rfl⟩ (by simp only [walkW, walkX, if_true, if_false, reduceIte, Nat.reduceAdd, Nat.reduceSub, Nat.reduceLeDiff, Nat.reduceEqDiff, Nat.reduceMul, Nat.reduceLT, Int.reduceLT, Int.reduceLE, Int.reduceEq]) fun j hj => ?_
   simp only [walkW, walkX, if_true, if_false, reduceIte, Nat.reduceAdd, Nat.reduceSub, Nat.reduceLeDiff, Nat.reduceEqDiff, Nat.reduceMul, Nat.reduceLT, Int.reduceLT, Int.reduceLE, Int.reduceEq, f1]
   refine ⟨fun h2 => ?_, fun h2 => ?_⟩
   ·have e1 : IntKind.i64.wrap ((j : Int) + 1) = ((j + 1 : Nat) : Int) := wrap_in (by have := hx.2; unfold maxLen at this; unfold In64; omega)
    have e2 := idx_drop (lostP vs ds) heldR.d j h2
    simp only [walkW, walkX, if_true, if_false, reduceIte, Nat.reduceAdd, Nat.reduceSub, Nat.reduceLeDiff, Nat.reduceEqDiff, Nat.reduceMul, Nat.reduceLT, Int.reduceLT, Int.reduceLE, Int.reduceEq, f1, h2, e1, T_lost, getH_f, k0, k1, k2, kp]
    refine ⟨fun h3 => Bt.eq (by rw [hj.2, e2, if_pos h3]) (List.append_nil h), fun h3 => ⟨j + 1, ⟨h2, ?_⟩, by omega, Wk.refl _⟩⟩
    rw [hj.2, e2, if_neg h3]
   ·exact Bt.eq (by rw [hj.2, List.drop_eq_nil_of_le (by omega)]; rfl) (List.append_nil h)
  ·cases e
 ·cases e
noncomputable def T_CFL : List AV → List AB → Option (AV × List AB)
 | [s, .f (.func 70) [] [.p i 0]], h => match rdBlk h i with
  | some [_, sb, tb] => (getS intR h sb).bind fun v => (getS dotR h tb).bind fun ds => (getS heldR h s).bind fun l => some (.b (decide (∃ x ∈ l, lostP v ds x)), h)
  | _ => none
 | _, _ => none
theorem CFL_spec : Spec Tryz.prog 72 T_CFL := by
 intro args h v h' e
 unfold T_CFL at e
 split at e
 ·rename_i s i
  split at e
  ·rename_i lb sb tb hb
   obtain ⟨vs, hs, e⟩ := getS_bind e
   obtain ⟨ds, ht, e⟩ := getS_bind e
   obtain ⟨l, hx, e⟩ := getS_bind e
   cases e
   refine FnAt.c (FnAt.run (by kernel_rfl) (T := ⟨[⟨43, T_idxL, fun _ => []⟩], []⟩) ⟨⟨idxL_spec, trivial⟩, trivial⟩ Tryz.func72 sw72 fun ho hh => ?_)
   simp only [okL_cons, Bool.and_eq_true] at ho
   have f1 := hx.fx ho.1 (sz := 34) rfl
   have k0 : ∀ x, rdBlk (h ++ x) i = some [lb, sb, tb] := (rdBlk_fx hb).1
   have k1 : ∀ x, getS intR (h ++ x) sb = some vs := fun x => (hs.app x).get
   have k2 : ∀ x, getS dotR (h ++ x) tb = some ds := fun x => (ht.app x).get
   unfold w72
   simp only [rep_0, rep_s, walkW, walkX, if_true, if_false, reduceIte, Nat.reduceAdd, Nat.reduceSub, Nat.reduceLeDiff, Nat.reduceEqDiff, Nat.reduceMul, Nat.reduceLT, Int.reduceLT, Int.reduceLE, Int.reduceEq, f1, T_idxL, k0, k1, k2]
   exact Bt.eq (by simp only [AV.b.injEq, decide_eq_decide]; exact idx_has (lostP vs ds) l) (List.append_nil h)
  ·cases e
 ·cases e
end Go.Proofs.YtcncpbcbedfakaaGreat
end
section
namespace Go.Proofs.YtcncpbcbedfakaaGreat
section
variable {α : Type} (q : α → α → Prop) [DecidableRel q]
def cmps : α → List α → List α
 | _, [] => []
 | p, x :: l => if q x p then cmps x l else x :: cmps x l
def cmpL : List α → List α
 | [] => []
 | x :: l => x :: cmps q x l
theorem cmps_snoc : ∀ (l : List α) (p x : α), cmps q p (l ++ [x]) = if q x ((p :: l).getLast (by simp)) then cmps q p l else cmps q p l ++ [x]
 | [], p, x => rfl
 | y :: l, p, x => by
  have e := cmps_snoc l y x
  simp only [List.cons_append, cmps, e, List.getLast_cons_cons]
  split <;> split <;> simp
theorem cmpL_step (l : List α) (d : α) {n : Nat} (h0 : 0 < n) (h : n < l.length) : cmpL q (l.take (n + 1)) = if q (l.getD n d) (l.getD (n - 1) d) then cmpL q (l.take n) else cmpL q (l.take n) ++ [l.getD n d] := by
 cases l with
 | nil => cases h
 | cons a l =>
  obtain ⟨m, rfl⟩ : ∃ m, n = m + 1 := ⟨n - 1, by omega⟩
  have hm : m < l.length := by simpa using h
  have e1 : l.take (m + 1) = l.take m ++ [l.getD m d] := by
   rw [List.take_succ_eq_append_getElem hm, List.getD_eq_getElem?_getD, List.getElem?_eq_getElem hm]
   rfl
  have e2 : (a :: l).getD (m + 1) d = l.getD m d := by simp [List.getD_eq_getElem?_getD]
  have e3 : (a :: l).getD (m + 1 - 1) d = (a :: l.take m).getLast (by simp) := by
   rw [List.getLast_eq_getElem, Nat.add_sub_cancel, List.getD_eq_getElem?_getD]
   have hlen : (a :: l.take m).length - 1 = m := by simp; omega
   have : (a :: l.take m)[(a :: l.take m).length - 1]? = (a :: l)[m]? := by
    rw [hlen]
    cases m with
    | zero => rfl
    | succ m => simp
   rw [← this, List.getElem?_eq_getElem (by simp)]
   rfl
  rw [List.take_succ_cons, List.take_succ_cons, e1, e2, e3]
  simp only [cmpL]
  rw [cmps_snoc]
  split <;> simp
theorem cmps_len : ∀ (l : List α) (p : α), (cmps q p l).length ≤ l.length
 | [], _ => Nat.le_refl _
 | x :: l, p => by
  have := cmps_len l x
  simp only [cmps]
  split <;> simp <;> omega
theorem cmpL_all (l : List α) (d : α) : ∀ n, n ≤ l.length → (∀ k, 0 < k → k < n → ¬ q (l.getD k d) (l.getD (k - 1) d)) → cmpL q (l.take n) = l.take n
 | 0, _, _ => by simp [cmpL]
 | n + 1, h, hk => by
  by_cases h0 : n = 0
  ·subst h0
   cases l with
   | nil => rfl
   | cons a l => rfl
  ·rw [cmpL_step q l d (by omega) (by omega), if_neg (hk n (by omega) (by omega)), cmpL_all l d n (by omega) fun k h1 h2 => hk k h1 (by omega)]
   rw [List.take_succ_eq_append_getElem (by omega : n < l.length), List.getD_eq_getElem?_getD, List.getElem?_eq_getElem (by omega)]
   rfl
structure CmpSt (l L : List α) (m i : Nat) : Prop where
 len : L.length = l.length
 pos : 0 < i
 lt : i < m
 le : m ≤ l.length
 hd : L.take i = cmpL q (l.take m)
 tl : L.drop (m - 1) = l.drop (m - 1)
theorem CmpSt.first (l : List α) (d : α) {k : Nat} (h0 : 0 < k) (h : k < l.length) (hk : ∀ j, 0 < j → j < k → ¬ q (l.getD j d) (l.getD (j - 1) d)) (hq : q (l.getD k d) (l.getD (k - 1) d)) : CmpSt q l l (k + 1) k :=
 ⟨rfl, h0, Nat.lt_succ_self _, h, by rw [cmpL_step q l d h0 h, if_pos hq, cmpL_all q l d k (by omega) hk], rfl⟩
theorem CmpSt.getD {l L : List α} {m i : Nat} (s : CmpSt q l L m i) (d : α) {j : Nat} (h : m - 1 ≤ j) : L.getD j d = l.getD j d := by
 have e := congrArg (fun z => z[j - (m - 1)]?) s.tl
 simp only [List.getElem?_drop] at e
 have : m - 1 + (j - (m - 1)) = j := by omega
 rw [this] at e
 rw [List.getD_eq_getElem?_getD, List.getD_eq_getElem?_getD, e]
theorem CmpSt.skip {l L : List α} {m i : Nat} (s : CmpSt q l L m i) (d : α) (h : m < l.length) (hq : q (l.getD m d) (l.getD (m - 1) d)) : CmpSt q l L (m + 1) i :=
 ⟨s.len, s.pos, Nat.lt_succ_of_lt s.lt, h, by rw [cmpL_step q l d (by have := s.lt; omega) h, if_pos hq]; exact s.hd, by
  have e := congrArg (List.drop 1) s.tl
  rw [List.drop_drop, List.drop_drop] at e
  have h1 : m - 1 + 1 = m + 1 - 1 := by have := s.lt; omega
  rw [h1] at e
  exact e⟩
theorem CmpSt.keep {l L : List α} {m i : Nat} (s : CmpSt q l L m i) (d : α) (h : m < l.length) (hq : ¬ q (l.getD m d) (l.getD (m - 1) d)) : CmpSt q l (L.set i (l.getD m d)) (m + 1) (i + 1) := by
 have hl := s.len
 have hi := s.lt
 refine ⟨by rw [List.length_set]; exact hl, Nat.succ_pos _, by omega, h, ?_, ?_⟩
 ·rw [cmpL_step q l d (by omega) h, if_neg hq, ← s.hd, List.take_succ_eq_append_getElem (by rw [List.length_set]; omega), List.getElem_set_self, List.take_set_of_le (Nat.le_refl _)]
 ·have e := congrArg (List.drop 1) s.tl
  rw [List.drop_drop, List.drop_drop] at e
  have h1 : m - 1 + 1 = m + 1 - 1 := by omega
  rw [h1] at e
  rw [List.drop_set_of_lt (by omega)]
  exact e
end
end Go.Proofs.YtcncpbcbedfakaaGreat
end
section
namespace Go.Proofs.YtcncpbcbedfakaaGreat
section
variable {α : Type} {r : Row α}
theorem cells_app (l l' : List α) : r.cells (l ++ l') = r.cells l ++ r.cells l' := List.flatMap_append
theorem over_row (l : List α) (i : Nat) (x : α) (h : i < l.length) : over (r.cells l) (i * r.sz) (r.f x) = r.cells (l.set i x) := by
 have e : i * r.sz + r.sz = (i + 1) * r.sz := (Nat.succ_mul i r.sz).symm
 unfold over
 rw [r.len, e, r.cells_take, r.cells_drop, List.set_eq_take_append_cons_drop, if_pos h, cells_app, List.append_assoc]
 rfl
theorem cells_repl (n : Nat) (z : α) : r.cells (List.replicate n z) = (List.replicate n (r.f z)).flatten := by
 induction n with
 | zero => rfl
 | succ n ih =>
  rw [List.replicate_succ, List.replicate_succ, List.flatten_cons, ← ih]
  rfl
theorem over_tail (l : List α) (i n : Nat) (z : α) (h : i + n = l.length) : over (r.cells l) (i * r.sz) (List.replicate n (r.f z)).flatten = r.cells (l.take i ++ List.replicate n z) := by
 have hl : (List.replicate n (r.f z)).flatten.length = n * r.sz := by rw [← cells_repl, r.cells_len, List.length_replicate]
 unfold over
 rw [hl, ← Nat.add_mul, h, r.cells_take, r.cells_drop, List.drop_length, cells_app, cells_repl]
 exact List.append_nil _
theorem stB_row {h : List AB} {id : Nat} {l : List α} (hi : h[id]? = some (resB r true l)) {i : Nat} {x : α} (hl : i < l.length) (hx : (r.f x).all AV.flat = true) : stB h id (i * r.sz) (r.f x) = some (h.set id (resB r true (l.set i x))) := by
 have hle : i * r.sz + r.sz ≤ l.length * r.sz := by rw [← Nat.succ_mul]; exact Nat.mul_le_mul_right _ hl
 unfold resB at hi
 rw [if_neg (by omega)] at hi
 unfold stB
 rw [hi]
 dsimp only
 rw [if_pos ⟨by rw [r.len, r.cells_len]; exact hle, hx⟩, over_row l i x hl]
 unfold resB
 rw [List.length_set, if_neg (by omega)]
theorem stB_tail {h : List AB} {id : Nat} {l : List α} (hi : h[id]? = some (resB r true l)) {i n : Nat} {z : α} (hl : i + n = l.length) (hn : 0 < n) (hz : (r.f z).all AV.flat = true) : stB h id (i * r.sz) (List.replicate n (r.f z)).flatten = some (h.set id (resB r true (l.take i ++ List.replicate n z))) := by
 have hlen : (List.replicate n (r.f z)).flatten.length = n * r.sz := by rw [← cells_repl, r.cells_len, List.length_replicate]
 unfold resB at hi
 rw [if_neg (by omega)] at hi
 unfold stB
 rw [hi]
 dsimp only
 have hall : (List.replicate n (r.f z)).flatten.all (wrOk true) = true := by
  rw [List.all_eq_true]
  intro x hx
  rw [List.mem_flatten] at hx
  obtain ⟨k, hk, hxk⟩ := hx
  rw [(List.mem_replicate.1 hk).2] at hxk
  exact List.all_eq_true.1 hz x hxk
 rw [if_pos ⟨by rw [hlen, ← Nat.add_mul, hl, r.cells_len]; exact Nat.le_refl _, hall⟩, over_tail l i n z hl]
 unfold resB
 have e : (l.take i ++ List.replicate n z).length = l.length := by rw [List.length_append, List.length_take, List.length_replicate]; omega
 rw [e, if_neg (by omega)]
theorem rdBlk_row {h : List AB} {id : Nat} {m : Bool} {l : List α} (hi : h[id]? = some (resB r m l)) (h0 : 0 < l.length) (x : List AB) : rdBlk (h ++ x) id = some (r.cells l) := by
 unfold rdBlk
 rw [List.getElem?_append_left (List.getElem?_eq_some_iff.1 hi).1, hi]
 unfold resB
 rw [if_neg (by omega)]
theorem ld_row {h : List AB} {id o j : Nat} {m : Bool} {l : List α} (hi : h[id]? = some (resB r m l)) (hj : j < l.length) (ho : o = j * r.sz) (x : List AB) : ldV (h ++ x) (some r.sz) (.p id o) = some (.ag (r.f (l.getD j r.d))) := by
 subst ho
 have hle : j * r.sz + r.sz ≤ l.length * r.sz := by rw [← Nat.succ_mul]; exact Nat.mul_le_mul_right _ hj
 simp only [ldV, rdBlk_row hi (by omega : 0 < l.length), Option.bind_some]
 rw [if_pos (by rw [r.cells_len]; exact hle), r.cells_drop, List.drop_eq_getElem_cons hj, List.getD_eq_getElem?_getD, List.getElem?_eq_getElem hj]
 congr 2
 exact (List.take_left' (r.len _) : (r.f l[j] ++ r.cells (l.drop (j + 1))).take r.sz = r.f l[j])
theorem st_row {h : List AB} {id o j : Nat} {l : List α} (hi : h[id]? = some (resB r true l)) (hj : j < l.length) (ho : o = j * r.sz) {y : α} (hy : (r.f y).all AV.flat = true) (x : List AB) : stV (h ++ x) (some r.sz) (.p id o) (.ag (r.f y)) = some (h.set id (resB r true (l.set j y)) ++ x) := by
 subst ho
 have hlt := (List.getElem?_eq_some_iff.1 hi).1
 have hi2 : (h ++ x)[id]? = some (resB r true l) := by rw [List.getElem?_append_left hlt]; exact hi
 simp only [stV]
 rw [if_pos (r.len y), stB_row hi2 hj hy, List.set_append_left _ _ hlt]
end
end Go.Proofs.YtcncpbcbedfakaaGreat
end
section
namespace Go.Proofs.YtcncpbcbedfakaaGreat
set_option maxRecDepth 100000
set_option maxHeartbeats 4000000
set_option linter.unusedSimpArgs false
def clrV (h : List AB) (z : List AV) : AV → Option (AV × List AB)
 | .ns => some (.tu [], h)
 | .se => some (.tu [], h)
 | .sl id off n _ _ => if n = 0 then some (.tu [], h) else (stB h id off ((List.replicate n z).flatten)).map (.tu [], ·)
 | _ => none
theorem opR_clr {T : Env} {fr : List AV} {h : List AB} (z : List AV) (x : Opd) : opR T (.clr z x) fr h = clrV h z (x.ev fr) := by
 show (match x.ev fr with | .ns => _ | .se => _ | .sl id off n _ _ => _ | _ => _) = _
 unfold clrV
 split <;> rfl
theorem clr_tail {h : List AB} {id i n : Nat} {l : List Dg} (hi : h[id]? = some (resB idR true l)) (hl : i + n = l.length) (hn : 0 < n) (c : Nat) (x : List AB) : clrV (h ++ x) (idR.f zeroD) (.sl id (0 + i * 32) n c (some 32)) = some (.tu [], h.set id (resB idR true (l.take i ++ List.replicate n zeroD)) ++ x) := by
 have hlt := (List.getElem?_eq_some_iff.1 hi).1
 have hi2 : (h ++ x)[id]? = some (resB idR true l) := by rw [List.getElem?_append_left hlt]; exact hi
 have := stB_tail (r := idR) hi2 hl hn (id_all zeroD)
 simp only [clrV]
 rw [if_neg (by omega), Nat.zero_add, show i * 32 = i * idR.sz from rfl, this, List.set_append_left _ _ hlt]
 rfl
theorem cp_end {h : List AB} {id i n : Nat} {L m : List Dg} (hlt : id < h.length) (hL : L.length = n) (hi : i ≤ n) (h0 : 0 < n) (ht : L.take i = m) : Bt Tryz.prog h.length [.sl id 0 i n (some 32)] (h.set id (resB idR true L) ++ []) [rsl idR id m] (h.set id (resB idR true m)) := by
 subst ht hL
 rw [List.append_nil]
 have hb := Bt.take (P := Tryz.prog) (p := h.length) (fr := [.sl id 0 i L.length (some 32)]) (h := h.set id (resB idR true L)) (i := id) (n := i) (m := true) (l := L) (List.getElem?_set_self hlt) hi
 rw [List.set_set] at hb
 refine hb.trans (Bt.wk ⟨?_, trivial⟩)
 have e : AV.sl id 0 i L.length (some 32) = cutS (rsl idR id L) i := by
  unfold rsl
  rw [if_neg (by omega)]
  rfl
 rw [e]
 exact cutS_wk id hi
def cpI (l : List Dg) : List Dg := cmpL Eq l
theorem set_asis {h : List AB} {id : Nat} {B : AB} (e : h[id]? = some B) : h.set id B = h := by
 apply List.ext_getElem?
 intro j
 rw [List.getElem?_set]
 split
 ·rename_i hij
  subst hij
  first | rw [if_pos (List.getElem?_eq_some_iff.1 e).1, e] | rw [e]
 ·rfl
open Classical in
noncomputable def T_cmpI : List AV → List AB → Option (AV × List AB)
 | [s], h => (getS idR h s).bind fun l => match idOf s with
   | [id] => if s = rsl idR id l ∧ h[id]? = some (resB idR true l) ∧ 2 ≤ l.length ∧ l.length ≤ 1000000 then some (rsl idR id (cpI l), h.set id (resB idR true (cpI l))) else none
   | _ => none
 | _, _ => none
theorem cmpI_spec : Spec Tryz.prog 68 T_cmpI := by
 intro args h v h' e
 unfold T_cmpI at e
 split at e
 ·rename_i s
  obtain ⟨l, hs, e⟩ := getS_bind e
  split at e
  ·rename_i id hid
   split at e
   ·rename_i hc
    cases e
    obtain ⟨h1, h2, h0, h3⟩ := hc
    have hlt := (List.getElem?_eq_some_iff.1 h2).1
    have hS : rsl idR id l = .sl id 0 l.length l.length (some 32) := by unfold rsl; rw [if_neg (by omega)]; rfl
    rw [h1, hS]
    refine FnAt.c (FnAt.run (by kernel_rfl) (T := ⟨[], []⟩) ⟨trivial, trivial⟩ Tryz.func68 sw68 fun ho hh => ?_)
    have ld := fun (x : List AB) (o j : Nat) (hj : j < l.length) (q : o = j * 32) => ld_row (r := idR) h2 hj q x
    have g0 : ((l.length : Int) < 2) = False := eq_false (by omega)
    unfold w68
    simp only [rep_0, rep_s, walkW, walkX, if_true, if_false, reduceIte, Nat.reduceAdd, Nat.reduceSub, Nat.reduceLeDiff, Nat.reduceEqDiff, Nat.reduceMul, Nat.reduceLT, Int.reduceLT, Int.reduceLE, Int.reduceEq, lenV, g0, false_implies, true_and]
    refine W_loopF (S := Nat) (fun k => l.length - k) (fun k => [.sl id 0 l.length l.length (some 32)] ++ tp 2 ++ [.i .i64 k] ++ tp 57) (fun k => 0 < k ∧ k ≤ l.length ∧ ∀ j, 0 < j → j < k → ¬ l.getD j idR.d = l.getD (j - 1) idR.d) 1 ⟨Nat.one_pos, by omega, fun j a b => absurd a (by omega)⟩ (by simp only [walkW, walkX, if_true, if_false, reduceIte, Nat.reduceAdd, Nat.reduceSub, Nat.reduceLeDiff, Nat.reduceEqDiff, Nat.reduceMul, Nat.reduceLT, Int.reduceLT, Int.reduceLE, Int.reduceEq]) fun k hk => ?_
    obtain ⟨hk0, hk1, hk2⟩ := hk
    by_cases hkl : k < l.length
    ·have g1 : ((k : Int) < (l.length : Int)) = True := eq_true (by omega)
     have g2 : (k - 1 < l.length) = True := eq_true (by omega)
     have e1 : IntKind.i64.wrap ((k : Int) + 1) = ((k + 1 : Nat) : Int) := wrap_in (by unfold In64; omega)
     have e2 : IntKind.i64.wrap ((k : Int) - 1) = ((k - 1 : Nat) : Int) := by
      have : (k : Int) - 1 = ((k - 1 : Nat) : Int) := by omega
      rw [this]
      exact wrap_in (by unfold In64; omega)
     have l1 := fun x => ld x (0 + k * 32) k hkl (by omega)
     have l2 := fun x => ld x (0 + (k - 1) * 32) (k - 1) (by omega) (by omega)
     simp only [idR_sz] at l1 l2
     have sK : slL 32 (.sl id 0 l.length l.length (some 32)) (some (.i .i64 (k : Int))) none none = some (.sl id (0 + k * 32) (l.length - k) (l.length - k) (some 32)) := by
      simp [slL, bnd, kcut, hkl, Nat.le_of_lt hkl, Nat.ne_of_gt hk0]
     simp only [walkW, walkQ, walkX, if_true, if_false, ↓reduceIte, Nat.reduceAdd, Nat.reduceSub, Nat.reduceLeDiff, Nat.reduceEqDiff, Nat.reduceMul, Nat.reduceLT, Int.reduceLT, Int.reduceLE, Int.reduceEq, CO.tmps, Opd.tmps, optT, Nat.reducePow, Nat.reduceDiv, Nat.reduceMod, lenV, g1, g2, hkl, iadV, e1, e2, l1, l2, eqc_id, AV.ok, qOk_q, id_ok, hlt, Nat.add_zero, if_true, true_and, decide_true, sK]
     refine ⟨fun q => ?_, fun q => ⟨k + 1, ⟨by omega, by omega, fun j a b => ?_⟩, by omega, Wk.refl _⟩⟩
     ·have hset : h.set id (resB idR true l) = h := set_asis h2
      refine W_loopS (S := Nat × Nat × List Dg) (fun s => l.length - s.1) (fun s => [.sl id 0 l.length l.length (some 32)] ++ tp 2 ++ [.i .i64 s.2.1, .sl id (0 + k * 32) (l.length - k) (l.length - k) (some 32), .i .i64 s.1] ++ tp 55) (fun s => h.set id (resB idR true s.2.2) ++ []) (fun s => 0 < s.1 ∧ CmpSt Eq l s.2.2 (k + s.1) s.2.1) (1, k, l) ⟨Nat.one_pos, CmpSt.first Eq l idR.d hk0 hkl hk2 q⟩ (by rw [hset]; exact Bt.wk (by simp only [walkW, walkX, if_true, if_false, reduceIte, Nat.reduceAdd, Nat.reduceSub, Nat.reduceLeDiff, Nat.reduceEqDiff, Nat.reduceMul, Nat.reduceLT, Int.reduceLT, Int.reduceLE, Int.reduceEq])) fun s hs => ?_
      obtain ⟨j, i, L⟩ := s
      obtain ⟨hj0, st⟩ := hs
      dsimp only at hj0 st ⊢
      have hL := st.len
      have hi := st.lt
      have hle := st.le
      have hi2 : (h.set id (resB idR true L))[id]? = some (resB idR true L) := List.getElem?_set_self hlt
      by_cases hjl : k + j < l.length
      ·have g3 : ((j : Int) < ((l.length - k : Nat) : Int)) = True := eq_true (by omega)
       have g4 : (j < l.length - k) = True := eq_true (by omega)
       have g5 : (j - 1 < l.length - k) = True := eq_true (by omega)
       have e3 : IntKind.i64.wrap ((j : Int) + 1) = ((j + 1 : Nat) : Int) := wrap_in (by unfold In64; omega)
       have e4 : IntKind.i64.wrap ((j : Int) - 1) = ((j - 1 : Nat) : Int) := by
        have : (j : Int) - 1 = ((j - 1 : Nat) : Int) := by omega
        rw [this]
        exact wrap_in (by unfold In64; omega)
       have e5 : IntKind.i64.wrap ((i : Int) + 1) = ((i + 1 : Nat) : Int) := wrap_in (by unfold In64; omega)
       have q1 := fun x => ld_row (r := idR) (o := 0 + (k * 32 + j * 32)) (j := k + j) hi2 (by omega) (by rw [idR_sz]; omega) x
       have q2 := fun x => ld_row (r := idR) (o := 0 + (k * 32 + (j - 1) * 32)) (j := k + j - 1) hi2 (by omega) (by rw [idR_sz]; omega) x
       simp only [idR_sz, st.getD Eq idR.d (show k + j - 1 ≤ k + j by omega), st.getD Eq idR.d (Nat.le_refl (k + j - 1))] at q1 q2
       simp only [walkW, walkQ, walkX, if_true, if_false, ↓reduceIte, Nat.reduceAdd, Nat.reduceSub, Nat.reduceLeDiff, Nat.reduceEqDiff, Nat.reduceMul, Nat.reduceLT, Int.reduceLT, Int.reduceLE, Int.reduceEq, CO.tmps, Opd.tmps, optT, Nat.reducePow, Nat.reduceDiv, Nat.reduceMod, lenV, g3, g4, g5, iadV, e3, e4, e5, q1, q2, eqc_id, AV.ok, qOk_q, id_ok, hlt, List.length_set, Nat.add_zero, if_true, true_and, decide_true]
       have q3 := fun x => st_row (r := idR) (o := 0 + i * 32) (j := i) (y := l.getD (k + j) idR.d) hi2 (by omega) (by rw [idR_sz]; omega) (id_all _) x
       have g6 : (i < l.length) = True := eq_true (by omega)
       simp only [idR_sz, List.set_set] at q3
       simp only [walkW, walkQ, walkX, if_true, if_false, ↓reduceIte, Nat.reduceAdd, Nat.reduceSub, Nat.reduceLeDiff, Nat.reduceEqDiff, Nat.reduceMul, Nat.reduceLT, Int.reduceLT, Int.reduceLE, Int.reduceEq, CO.tmps, Opd.tmps, optT, Nat.reducePow, Nat.reduceDiv, Nat.reduceMod, lenV, g4, g6, iadV, q1, q3, e3, e5, false_implies]
       exact ⟨fun q => ⟨(j + 1, i + 1, L.set i (l.getD (k + j) idR.d)), ⟨Nat.succ_pos _, st.keep Eq idR.d hjl q⟩, by dsimp only; omega, Bt.wk (by simp only [walkW, walkX, if_true, if_false, reduceIte, Nat.reduceAdd, Nat.reduceSub, Nat.reduceLeDiff, Nat.reduceEqDiff, Nat.reduceMul, Nat.reduceLT, Int.reduceLT, Int.reduceLE, Int.reduceEq])⟩, fun q => ⟨(j + 1, i, L), ⟨Nat.succ_pos _, st.skip Eq idR.d hjl (Classical.not_not.1 q)⟩, by dsimp only; omega, Bt.wk (by simp only [walkW, walkX, if_true, if_false, reduceIte, Nat.reduceAdd, Nat.reduceSub, Nat.reduceLeDiff, Nat.reduceEqDiff, Nat.reduceMul, Nat.reduceLT, Int.reduceLT, Int.reduceLE, Int.reduceEq])⟩⟩
      ·have g3 : ((j : Int) < ((l.length - k : Nat) : Int)) = False := eq_false (by omega)
       simp only [walkW, walkX, if_true, if_false, reduceIte, Nat.reduceAdd, Nat.reduceSub, Nat.reduceLeDiff, Nat.reduceEqDiff, Nat.reduceMul, Nat.reduceLT, Int.reduceLT, Int.reduceLE, Int.reduceEq, lenV, g3, false_implies, true_and]
       have g6 : (i < l.length) = True := eq_true (by omega)
       have sI : slL 32 (.sl id 0 l.length l.length (some 32)) (some (.i .i64 (i : Int))) none none = some (.sl id (0 + i * 32) (l.length - i) (l.length - i) (some 32)) := by
        have i0 : i < l.length := by omega
        simp [slL, bnd, kcut, i0, Nat.le_of_lt i0, Nat.ne_of_gt st.pos]
       have sJ : slL 32 (.sl id 0 l.length l.length (some 32)) none (some (.i .i64 (i : Int))) none = some (.sl id 0 i l.length (some 32)) := by
        have i0 : i ≤ l.length := by omega
        simp [slL, bnd, kcut, i0]
       have zi : ∀ (zl : List AV), zl = idR.f zeroD → ∀ x, clrV (h.set id (resB idR true L) ++ x) zl (.sl id (0 + i * 32) (l.length - i) (l.length - i) (some 32)) = some (.tu [], h.set id (resB idR true (L.take i ++ List.replicate (l.length - i) zeroD)) ++ x) := fun zl hz x => by
        rw [hz, clr_tail hi2 (by omega) (by omega), List.set_set]
       have zj := zi _ (show (List.replicate 32 (AV.i .u8 0)) = idR.f zeroD from rfl)
       simp only [List.replicate] at zj
       simp only [walkW, walkX, if_true, if_false, reduceIte, Nat.reduceAdd, Nat.reduceSub, Nat.reduceLeDiff, Nat.reduceEqDiff, Nat.reduceMul, Nat.reduceLT, Int.reduceLT, Int.reduceLE, Int.reduceEq, sI, sJ, opR_clr, zj]
       have hm : (L.take i ++ List.replicate (l.length - i) zeroD).take i = cpI l := by
        rw [List.take_left' (by rw [List.length_take]; omega), st.hd]
        have : k + j = l.length := by omega
        rw [this, List.take_length]
        rfl
       exact cp_end hlt (by rw [List.length_append, List.length_take, List.length_replicate]; omega) (by omega) (by omega) hm
     ·rcases Nat.eq_or_lt_of_le (Nat.le_of_lt_succ b) with z | z
      ·subst z; exact q
      ·exact hk2 j a z
    ·have g1 : ((k : Int) < (l.length : Int)) = False := eq_false (by omega)
     simp only [walkW, walkX, if_true, if_false, reduceIte, Nat.reduceAdd, Nat.reduceSub, Nat.reduceLeDiff, Nat.reduceEqDiff, Nat.reduceMul, Nat.reduceLT, Int.reduceLT, Int.reduceLE, Int.reduceEq, lenV, g1, false_implies, true_and]
     have hk3 : k = l.length := by omega
     have ha : cpI l = l := by
      unfold cpI
      have := cmpL_all Eq l idR.d l.length (Nat.le_refl _) (by rw [← hk3]; exact hk2)
      rwa [List.take_length] at this
     rw [ha, hS, set_asis h2]
     exact Bt.eq rfl (List.append_nil h)
   ·cases e
  ·cases e
 ·cases e
end Go.Proofs.YtcncpbcbedfakaaGreat
end
section
namespace Go.Proofs.YtcncpbcbedfakaaGreat
set_option maxRecDepth 100000
set_option maxHeartbeats 4000000
set_option linter.unusedSimpArgs false
theorem W_dmkP {c : Ctx} {k : List IT} {fr : List AV} {h : List AB} {len0 n anc : Nat} {past : List Pt} {d : Option Nat} {l : List DOp} (rs : List Nat) (vs : List AV) (v : AV) : W c (.dmk [] vs (some (v, maskB rs [] 0 h)) len0 n anc past d l :: k) fr h = (okL (fun i => decide (i < h.length)) vs = true ∧ HOk h ∧ indA len0 anc past [] past = true ∧ v.ok (qOk len0 h.length h.length anc past) = true ∧
      W c (.drw len0 (n + 1) (⟨n, h.length, h.length, seen len0 anc (bareP past) h.length, []⟩ :: past) l :: k) (put fr d v) h) := by
  rw [← indA_eq, W_dmkB]
  have e1 : (maskB rs [] 0 h).length = h.length := maskB_len _ _ _ _
  have e2 : mergeB [] (maskB rs [] 0 h) 0 h = h := by
    refine List.ext_getElem? fun i => ?_
    rw [mergeB_get]
    split
    · rw [if_neg (by simp)]
    · rename_i hi
      rw [Nat.zero_add, List.getElem?_eq_none (by omega), List.getElem?_eq_none (by omega)]
  have e3 : (maskB rs [] 0 h).drop h.length = [] := List.drop_eq_nil_of_le (by omega)
  simp only [e1, e2, e3, List.all_nil, Nat.le_refl, true_and]
theorem HOk_set {h : List AB} (hh : HOk h) {α : Type} {r : Row α} (id : Nat) (m : Bool) (L : List α)  : HOk (h.set id (resB r m L) ++ []) = True := by
 refine eq_true fun i B hB => ?_
 rw [List.append_nil] at hB ⊢
 rw [List.length_set]
 rw [List.getElem?_set] at hB
 split at hB
 ·split at hB
  ·cases hB
   unfold resB
   split
   ·rfl
   ·rfl
  ·cases hB
 ·exact hh i B hB
theorem HOk_self {h : List AB} (hh : HOk h) : HOk (h ++ []) = True := eq_true (by rw [List.append_nil]; exact hh)
theorem clr_tailH {h : List AB} {id i n : Nat} {l : List Hd} (hi : h[id]? = some (resB heldR true l)) (hl : i + n = l.length) (hn : 0 < n) (c : Nat) (x : List AB) : clrV (h ++ x) (heldR.f ((0, 0), zeroD)) (.sl id (0 + i * 34) n c (some 34)) = some (.tu [], h.set id (resB heldR true (l.take i ++ List.replicate n ((0, 0), zeroD))) ++ x) := by
 have hlt := (List.getElem?_eq_some_iff.1 hi).1
 have hi2 : (h ++ x)[id]? = some (resB heldR true l) := by rw [List.getElem?_append_left hlt]; exact hi
 have := stB_tail (r := heldR) hi2 hl hn (held_all1 ((0, 0), zeroD))
 simp only [clrV]
 rw [if_neg (by omega), Nat.zero_add, show i * 34 = i * heldR.sz from rfl, this, List.set_append_left _ _ hlt]
 rfl
theorem cp_endH {h : List AB} {id i n : Nat} {L m : List Hd} (hlt : id < h.length) (hL : L.length = n) (hi : i ≤ n) (h0 : 0 < n) (ht : L.take i = m) : Bt Tryz.prog h.length [.sl id 0 i n (some 34)] (h.set id (resB heldR true L) ++ []) [rsl heldR id m] (h.set id (resB heldR true m)) := by
 subst ht hL
 rw [List.append_nil]
 have hb := Bt.take (P := Tryz.prog) (p := h.length) (fr := [.sl id 0 i L.length (some 34)]) (h := h.set id (resB heldR true L)) (i := id) (n := i) (m := true) (l := L) (List.getElem?_set_self hlt) hi
 rw [List.set_set] at hb
 refine hb.trans (Bt.wk ⟨?_, trivial⟩)
 have e : AV.sl id 0 i L.length (some 34) = cutS (rsl heldR id L) i := by
  unfold rsl
  rw [if_neg (by omega)]
  rfl
 rw [e]
 exact cutS_wk id hi
abbrev sdP (x y : Hd) : Prop := x.1 = y.1
def cpH (l : List Hd) : List Hd := cmpL sdP l
theorem cpH_short {l : List Hd} (h : l.length < 2) : cpH l = l := by
 unfold cpH
 match l, h with
 | [], _ => rfl
 | [a], _ => rfl
open Classical in
noncomputable def T_cmpH : List AV → List AB → Option (AV × List AB)
 | [s, .f (.func 111) [] []], h => (getS heldR h s).bind fun l => match idOf s with
   | [id] => if s = rsl heldR id l ∧ h[id]? = some (resB heldR true l) ∧ l.length ≤ 1000000 then some (rsl heldR id (cpH l), h.set id (resB heldR true (cpH l))) else none
   | _ => none
 | _, _ => none
theorem cmpH_spec : Spec Tryz.prog 109 T_cmpH := by
 intro args h v h' e
 unfold T_cmpH at e
 split at e
 ·rename_i s
  obtain ⟨l, hs, e⟩ := getS_bind e
  split at e
  ·rename_i id hid
   split at e
   ·rename_i hc
    cases e
    obtain ⟨h1, h2, h3⟩ := hc
    have hlt := (List.getElem?_eq_some_iff.1 h2).1
    by_cases h0 : l.length < 2
    ·rw [cpH_short h0, set_asis h2, ← h1]
     refine FnAt.c (FnAt.run (by kernel_rfl) (T := ⟨[], []⟩) ⟨trivial, trivial⟩ Tryz.func109 sw109 fun ho hh => ?_)
     simp only [okL_cons, Bool.and_eq_true] at ho
     have f1 := hs.fx ho.1 (sz := 34) rfl
     have g0 : ((l.length : Int) < 2) = True := eq_true (by omega)
     unfold w109
     simp only [rep_0, rep_s, walkW, walkX, if_true, if_false, reduceIte, Nat.reduceAdd, Nat.reduceSub, Nat.reduceLeDiff, Nat.reduceEqDiff, Nat.reduceMul, Nat.reduceLT, Int.reduceLT, Int.reduceLE, Int.reduceEq, f1, g0]
     exact ⟨Bt.eq rfl (List.append_nil h), fun q => q.elim⟩
    have hS : rsl heldR id l = .sl id 0 l.length l.length (some 34) := by unfold rsl; rw [if_neg (by omega)]; rfl
    rw [h1, hS]
    refine FnAt.c (FnAt.run (by kernel_rfl) (T := ⟨[⟨111, T_sameDot, fun _ => []⟩], []⟩) ⟨⟨sameDot_spec, trivial⟩, trivial⟩ Tryz.func109 sw109 fun ho hh => ?_)
    have hokS := fun L => HOk_set (r := heldR) hh id true L
    have hokZ := HOk_self hh
    have ld := fun (x : List AB) (o j : Nat) (hj : j < l.length) (q : o = j * 34) => ld_row (r := heldR) h2 hj q x
    have g0 : ((l.length : Int) < 2) = False := eq_false (by omega)
    unfold w109
    simp only [rep_0, rep_s, walkW, walkX, if_true, if_false, reduceIte, Nat.reduceAdd, Nat.reduceSub, Nat.reduceLeDiff, Nat.reduceEqDiff, Nat.reduceMul, Nat.reduceLT, Int.reduceLT, Int.reduceLE, Int.reduceEq, lenV, g0, false_implies, true_and]
    refine W_loopF (S := Nat) (fun k => l.length - k) (fun k => [.sl id 0 l.length l.length (some 34), .f (.func 111) [] []] ++ tp 3 ++ [.i .i64 k] ++ tp 60) (fun k => 0 < k ∧ k ≤ l.length ∧ ∀ j, 0 < j → j < k → ¬ (l.getD j heldR.d).1 = (l.getD (j - 1) heldR.d).1) 1 ⟨Nat.one_pos, by omega, fun j a b => absurd a (by omega)⟩ (by simp only [walkW, walkX, if_true, if_false, reduceIte, Nat.reduceAdd, Nat.reduceSub, Nat.reduceLeDiff, Nat.reduceEqDiff, Nat.reduceMul, Nat.reduceLT, Int.reduceLT, Int.reduceLE, Int.reduceEq]) fun k hk => ?_
    obtain ⟨hk0, hk1, hk2⟩ := hk
    by_cases hkl : k < l.length
    ·have g1 : ((k : Int) < (l.length : Int)) = True := eq_true (by omega)
     have g2 : (k - 1 < l.length) = True := eq_true (by omega)
     have e1 : IntKind.i64.wrap ((k : Int) + 1) = ((k + 1 : Nat) : Int) := wrap_in (by unfold In64; omega)
     have e2 : IntKind.i64.wrap ((k : Int) - 1) = ((k - 1 : Nat) : Int) := by
      have : (k : Int) - 1 = ((k - 1 : Nat) : Int) := by omega
      rw [this]
      exact wrap_in (by unfold In64; omega)
     have l1 := fun x => ld x (0 + k * 34) k hkl (by omega)
     have l2 := fun x => ld x (0 + (k - 1) * 34) (k - 1) (by omega) (by omega)
     simp only [heldR_sz] at l1 l2
     have sK : slL 34 (.sl id 0 l.length l.length (some 34)) (some (.i .i64 (k : Int))) none none = some (.sl id (0 + k * 34) (l.length - k) (l.length - k) (some 34)) := by
      simp [slL, bnd, kcut, hkl, Nat.le_of_lt hkl, Nat.ne_of_gt hk0]
     simp only [walkW, walkQ, walkX, if_true, if_false, ↓reduceIte, Nat.reduceAdd, Nat.reduceSub, Nat.reduceLeDiff, Nat.reduceEqDiff, Nat.reduceMul, Nat.reduceLT, Int.reduceLT, Int.reduceLE, Int.reduceEq, CO.tmps, Opd.tmps, optT, Nat.reducePow, Nat.reduceDiv, Nat.reduceMod, lenV, g1, g2, hkl, iadV, e1, e2, l1, l2, T_sameDot, getH_f, W_dmkP, hokS, hokZ, AV.ok, qOk_q, held_ok, hlt, Nat.add_zero, if_true, true_and, decide_true, sK]
     refine ⟨fun q => ?_, fun q => ⟨k + 1, ⟨by omega, by omega, fun j a b => ?_⟩, by omega, Wk.refl _⟩⟩
     ·have hset : h.set id (resB heldR true l) = h := set_asis h2
      refine W_loopS (S := Nat × Nat × List Hd) (fun s => l.length - s.1) (fun s => [.sl id 0 l.length l.length (some 34), .f (.func 111) [] []] ++ tp 3 ++ [.i .i64 s.2.1, .sl id (0 + k * 34) (l.length - k) (l.length - k) (some 34), .i .i64 s.1] ++ tp 58) (fun s => h.set id (resB heldR true s.2.2) ++ []) (fun s => 0 < s.1 ∧ CmpSt sdP l s.2.2 (k + s.1) s.2.1) (1, k, l) ⟨Nat.one_pos, CmpSt.first sdP l heldR.d hk0 hkl hk2 q⟩ (by rw [hset]; exact Bt.wk (by simp only [walkW, walkX, if_true, if_false, reduceIte, Nat.reduceAdd, Nat.reduceSub, Nat.reduceLeDiff, Nat.reduceEqDiff, Nat.reduceMul, Nat.reduceLT, Int.reduceLT, Int.reduceLE, Int.reduceEq])) fun s hs => ?_
      obtain ⟨j, i, L⟩ := s
      obtain ⟨hj0, st⟩ := hs
      dsimp only at hj0 st ⊢
      have hL := st.len
      have hi := st.lt
      have hle := st.le
      have hi2 : (h.set id (resB heldR true L))[id]? = some (resB heldR true L) := List.getElem?_set_self hlt
      by_cases hjl : k + j < l.length
      ·have g3 : ((j : Int) < ((l.length - k : Nat) : Int)) = True := eq_true (by omega)
       have g4 : (j < l.length - k) = True := eq_true (by omega)
       have g5 : (j - 1 < l.length - k) = True := eq_true (by omega)
       have e3 : IntKind.i64.wrap ((j : Int) + 1) = ((j + 1 : Nat) : Int) := wrap_in (by unfold In64; omega)
       have e4 : IntKind.i64.wrap ((j : Int) - 1) = ((j - 1 : Nat) : Int) := by
        have : (j : Int) - 1 = ((j - 1 : Nat) : Int) := by omega
        rw [this]
        exact wrap_in (by unfold In64; omega)
       have e5 : IntKind.i64.wrap ((i : Int) + 1) = ((i + 1 : Nat) : Int) := wrap_in (by unfold In64; omega)
       have q1 := fun x => ld_row (r := heldR) (o := 0 + (k * 34 + j * 34)) (j := k + j) hi2 (by omega) (by rw [heldR_sz]; omega) x
       have q2 := fun x => ld_row (r := heldR) (o := 0 + (k * 34 + (j - 1) * 34)) (j := k + j - 1) hi2 (by omega) (by rw [heldR_sz]; omega) x
       simp only [heldR_sz, st.getD sdP heldR.d (show k + j - 1 ≤ k + j by omega), st.getD sdP heldR.d (Nat.le_refl (k + j - 1))] at q1 q2
       simp only [walkW, walkQ, walkX, if_true, if_false, ↓reduceIte, Nat.reduceAdd, Nat.reduceSub, Nat.reduceLeDiff, Nat.reduceEqDiff, Nat.reduceMul, Nat.reduceLT, Int.reduceLT, Int.reduceLE, Int.reduceEq, CO.tmps, Opd.tmps, optT, Nat.reducePow, Nat.reduceDiv, Nat.reduceMod, lenV, g3, g4, g5, iadV, e3, e4, e5, q1, q2, T_sameDot, getH_f, W_dmkP, hokS, hokZ, AV.ok, qOk_q, held_ok, hlt, List.length_set, Nat.add_zero, if_true, true_and, decide_true]
       have q3 := fun x => st_row (r := heldR) (o := 0 + i * 34) (j := i) (y := l.getD (k + j) heldR.d) hi2 (by omega) (by rw [heldR_sz]; omega) (held_all1 _) x
       have g6 : (i < l.length) = True := eq_true (by omega)
       simp only [heldR_sz, List.set_set] at q3
       simp only [walkW, walkQ, walkX, if_true, if_false, ↓reduceIte, Nat.reduceAdd, Nat.reduceSub, Nat.reduceLeDiff, Nat.reduceEqDiff, Nat.reduceMul, Nat.reduceLT, Int.reduceLT, Int.reduceLE, Int.reduceEq, CO.tmps, Opd.tmps, optT, Nat.reducePow, Nat.reduceDiv, Nat.reduceMod, lenV, g4, g6, iadV, q1, q3, e3, e5, false_implies]
       exact ⟨fun q => ⟨(j + 1, i + 1, L.set i (l.getD (k + j) heldR.d)), ⟨Nat.succ_pos _, st.keep sdP heldR.d hjl q⟩, by dsimp only; omega, Bt.wk (by simp only [walkW, walkX, if_true, if_false, reduceIte, Nat.reduceAdd, Nat.reduceSub, Nat.reduceLeDiff, Nat.reduceEqDiff, Nat.reduceMul, Nat.reduceLT, Int.reduceLT, Int.reduceLE, Int.reduceEq])⟩, fun q => ⟨(j + 1, i, L), ⟨Nat.succ_pos _, st.skip sdP heldR.d hjl (Classical.not_not.1 q)⟩, by dsimp only; omega, Bt.wk (by simp only [walkW, walkX, if_true, if_false, reduceIte, Nat.reduceAdd, Nat.reduceSub, Nat.reduceLeDiff, Nat.reduceEqDiff, Nat.reduceMul, Nat.reduceLT, Int.reduceLT, Int.reduceLE, Int.reduceEq])⟩⟩
      ·have g3 : ((j : Int) < ((l.length - k : Nat) : Int)) = False := eq_false (by omega)
       simp only [walkW, walkX, if_true, if_false, reduceIte, Nat.reduceAdd, Nat.reduceSub, Nat.reduceLeDiff, Nat.reduceEqDiff, Nat.reduceMul, Nat.reduceLT, Int.reduceLT, Int.reduceLE, Int.reduceEq, lenV, g3, false_implies, true_and]
       have g6 : (i < l.length) = True := eq_true (by omega)
       have sI : slL 34 (.sl id 0 l.length l.length (some 34)) (some (.i .i64 (i : Int))) none none = some (.sl id (0 + i * 34) (l.length - i) (l.length - i) (some 34)) := by
        have i0 : i < l.length := by omega
        simp [slL, bnd, kcut, i0, Nat.le_of_lt i0, Nat.ne_of_gt st.pos]
       have sJ : slL 34 (.sl id 0 l.length l.length (some 34)) none (some (.i .i64 (i : Int))) none = some (.sl id 0 i l.length (some 34)) := by
        have i0 : i ≤ l.length := by omega
        simp [slL, bnd, kcut, i0]
       have zi : ∀ (zl : List AV), zl = heldR.f ((0, 0), zeroD) → ∀ x, clrV (h.set id (resB heldR true L) ++ x) zl (.sl id (0 + i * 34) (l.length - i) (l.length - i) (some 34)) = some (.tu [], h.set id (resB heldR true (L.take i ++ List.replicate (l.length - i) ((0, 0), zeroD))) ++ x) := fun zl hz x => by
        rw [hz, clr_tailH hi2 (by omega) (by omega), List.set_set]
       have zj := zi _ (show ([.i .i64 0, .i .i64 0] ++ List.replicate 32 (AV.i .u8 0)) = heldR.f ((0, 0), zeroD) from rfl)
       simp only [List.replicate, List.cons_append, List.nil_append] at zj
       simp only [walkW, walkX, if_true, if_false, reduceIte, Nat.reduceAdd, Nat.reduceSub, Nat.reduceLeDiff, Nat.reduceEqDiff, Nat.reduceMul, Nat.reduceLT, Int.reduceLT, Int.reduceLE, Int.reduceEq, sI, sJ, opR_clr, zj]
       have hm : (L.take i ++ List.replicate (l.length - i) ((0, 0), zeroD)).take i = cpH l := by
        rw [List.take_left' (by rw [List.length_take]; omega), st.hd]
        have : k + j = l.length := by omega
        rw [this, List.take_length]
        rfl
       exact cp_endH hlt (by rw [List.length_append, List.length_take, List.length_replicate]; omega) (by omega) (by omega) hm
     ·rcases Nat.eq_or_lt_of_le (Nat.le_of_lt_succ b) with z | z
      ·subst z; exact q
      ·exact hk2 j a z
    ·have g1 : ((k : Int) < (l.length : Int)) = False := eq_false (by omega)
     simp only [walkW, walkX, if_true, if_false, reduceIte, Nat.reduceAdd, Nat.reduceSub, Nat.reduceLeDiff, Nat.reduceEqDiff, Nat.reduceMul, Nat.reduceLT, Int.reduceLT, Int.reduceLE, Int.reduceEq, lenV, g1, false_implies, true_and]
     have hk3 : k = l.length := by omega
     have ha : cpH l = l := by
      unfold cpH
      have := cmpL_all sdP l heldR.d l.length (Nat.le_refl _) (by rw [← hk3]; exact hk2)
      rwa [List.take_length] at this
     rw [ha, hS, set_asis h2]
     exact Bt.eq rfl (List.append_nil h)
   ·cases e
  ·cases e
 ·cases e
end Go.Proofs.YtcncpbcbedfakaaGreat
end
section
namespace Go.Proofs.YtcncpbcbedfakaaGreat
section
variable {va vb vc : List Int} {da db dc : Dots}
theorem join_nf (a : NF va da) (b : NF vb db) : NF (joinO va vb da db).1 (joinO va vb da db).2 := NF.fm (joinL_ranged a.rg b.rg)
theorem join_mem (a : NF va da) (b : NF vb db) (d : Int × Int) : inC (joinO va vb da db).1 (joinO va vb da db).2 d ↔ inC va da d ∨ inC vb db d := by
 have := fm_in (joinL_ranged a.rg b.rg) d
 rw [join_in a.rg b.rg] at this
 exact this
theorem join_len (a : NF va da) (b : NF vb db) : (joinO va vb da db).2.length ≤ da.length + db.length := by
 have := fmO_len2 (joinL_ranged a.rg b.rg)
 rw [List.length_append] at this
 exact this
theorem join_comm (a : NF va da) (b : NF vb db) : joinO vb va db da = joinO va vb da db := by
 have := (join_nf b a).ext (join_nf a b) fun d => by rw [join_mem b a, join_mem a b, or_comm]
 exact this
end
end Go.Proofs.YtcncpbcbedfakaaGreat
end
section
namespace Go.Proofs.YtcncpbcbedfakaaGreat
structure RG (l : List Hd) (v : List Int) (ds : Dots) : Prop where
 nf : NF v ds
 len : ds.length ≤ 4096
 rise : l.Pairwise lessH
 sn : ∀ x ∈ l, inC v ds x.1
theorem RG.one {l : List Hd} {v : List Int} {ds : Dots} (a : RG l v ds) {x y : Hd} (hx : x ∈ l) (hy : y ∈ l) (h : x.1 = y.1) : x = y := by
 have := a.rise
 obtain ⟨i, hi, rfl⟩ := List.getElem_of_mem hx
 obtain ⟨j, hj, rfl⟩ := List.getElem_of_mem hy
 rcases Nat.lt_trichotomy i j with q | rfl | q
 ·have z := List.pairwise_iff_getElem.1 this i j hi hj q
  unfold lessH at z
  rw [h] at z
  exact absurd z (lessD_irrefl _)
 ·rfl
 ·have z := List.pairwise_iff_getElem.1 this j i hj hi q
  unfold lessH at z
  rw [h] at z
  exact absurd z (lessD_irrefl _)
theorem srt_rise {l m : List Hd} (hp : m.Perm l) (hs : m.Pairwise fun x y => ¬ lessD y.1 x.1) (hd : l.Pairwise fun x y => x.1 ≠ y.1) : m.Pairwise lessH := by
 have hd' : m.Pairwise fun x y => x.1 ≠ y.1 := (hp.pairwise_iff (fun {x y} h => Ne.symm h)).2 hd
 refine (hs.and hd').imp fun {x y} h => ?_
 rcases lessD_tri x.1 y.1 with q | q | q
 ·exact q
 ·exact absurd q h.2
 ·exact absurd q h.1
theorem rise_ne {l : List Hd} (h : l.Pairwise lessH) : l.Pairwise fun x y => x.1 ≠ y.1 := h.imp fun {x y} q e => by
 unfold lessH at q
 rw [e] at q
 exact lessD_irrefl _ q
open Classical in
noncomputable def outG (v : List Int) (ds : Dots) (l : List Hd) : List Hd := l.filter fun x => decide (¬ inC v ds x.1)
theorem outG_mem {v : List Int} {ds : Dots} {l : List Hd} {x : Hd} : x ∈ outG v ds l ↔ x ∈ l ∧ ¬ inC v ds x.1 := by simp [outG]
theorem outG_rise {v : List Int} {ds : Dots} {l : List Hd} (h : l.Pairwise lessH) : (outG v ds l).Pairwise lessH := h.filter _
def agreeP (l l' : List Hd) : Prop := ∀ x ∈ l, ∀ y ∈ l', x.1 = y.1 → x.2 = y.2
theorem agreeP.symm {l l' : List Hd} (h : agreeP l l') : agreeP l' l := fun x hx y hy e => (h y hy x hx e.symm).symm
open Classical in
noncomputable def jnU (l l' : List Hd) (v v' : List Int) (ds ds' : Dots) : List Hd := (l.filter fun x => decide (∃ y ∈ l', y.1 = x.1)) ++ outG v' ds' l ++ outG v ds l'
theorem jnU_mem {l l' : List Hd} {v v' : List Int} {ds ds' : Dots} {x : Hd} : x ∈ jnU l l' v v' ds ds' ↔ (x ∈ l ∧ ∃ y ∈ l', y.1 = x.1) ∨ (x ∈ l ∧ ¬ inC v' ds' x.1) ∨ (x ∈ l' ∧ ¬ inC v ds x.1) := by
 simp [jnU, outG]
theorem jnU_ne {l l' : List Hd} {v v' : List Int} {ds ds' : Dots} (a : RG l v ds) (b : RG l' v' ds') : (jnU l l' v v' ds ds').Pairwise fun x y => x.1 ≠ y.1 := by
 unfold jnU
 refine List.pairwise_append.2 ⟨List.pairwise_append.2 ⟨(rise_ne a.rise).filter _, rise_ne (outG_rise a.rise), fun x hx y hy e => ?_⟩, rise_ne (outG_rise b.rise), fun x hx y hy e => ?_⟩
 ·have hx' := (List.mem_filter.1 hx).2
  obtain ⟨z, hz, hz2⟩ := of_decide_eq_true hx'
  have := (outG_mem.1 hy).2
  rw [← e, ← hz2] at this
  exact this (b.sn z hz)
 ·have h1 := (outG_mem.1 hy).2
  rw [← e] at h1
  rcases List.mem_append.1 hx with q | q
  ·exact h1 (a.sn x (List.mem_filter.1 q).1)
  ·exact h1 (a.sn x (outG_mem.1 q).1)
structure Jn (l l' : List Hd) (v v' : List Int) (ds ds' : Dots) (m : List Hd) : Prop where
 rise : m.Pairwise lessH
 mem : ∀ x, x ∈ m ↔ x ∈ jnU l l' v v' ds ds'
theorem Jn.uniq {l l' : List Hd} {v v' : List Int} {ds ds' : Dots} {m m' : List Hd} (h : Jn l l' v v' ds ds' m) (h' : Jn l l' v v' ds ds' m') : m = m' :=
 ris_ext lessH_ord h.rise h'.rise fun x => by rw [h.mem, h'.mem]
theorem Jn.rg {l l' : List Hd} {v v' : List Int} {ds ds' : Dots} {m : List Hd} (h : Jn l l' v v' ds ds' m) (a : RG l v ds) (b : RG l' v' ds') (hl : (joinO v v' ds ds').2.length ≤ 4096) : RG m (joinO v v' ds ds').1 (joinO v v' ds ds').2 :=
 ⟨join_nf a.nf b.nf, hl, h.rise, fun x hx => (join_mem a.nf b.nf _).2 (by
  rcases jnU_mem.1 ((h.mem x).1 hx) with q | q | q
  ·exact .inl (a.sn x q.1)
  ·exact .inl (a.sn x q.1)
  ·exact .inr (b.sn x q.1))⟩
theorem jn_iff {l l' : List Hd} {v v' : List Int} {ds ds' : Dots} (g : agreeP l l') {x : Hd} : x ∈ jnU l l' v v' ds ds' ↔ (x ∈ l ∧ x ∈ l') ∨ (x ∈ l ∧ ¬ inC v' ds' x.1) ∨ (x ∈ l' ∧ ¬ inC v ds x.1) := by
 rw [jnU_mem]
 constructor
 ·rintro (⟨h1, y, hy, e⟩ | h | h)
  ·have : x = y := Prod.ext e.symm (g x h1 y hy e.symm)
   rw [← this] at hy
   exact .inl ⟨h1, hy⟩
  ·exact .inr (.inl h)
  ·exact .inr (.inr h)
 ·rintro (⟨h1, h2⟩ | h | h)
  ·exact .inl ⟨h1, x, h2, rfl⟩
  ·exact .inr (.inl h)
  ·exact .inr (.inr h)
section
variable {la lb lc : List Hd} {va vb vc : List Int} {da db dc : Dots}
theorem jn_comm (gab : agreeP la lb) {x : Hd} : x ∈ jnU lb la vb va db da ↔ x ∈ jnU la lb va vb da db := by
 rw [jn_iff gab, jn_iff gab.symm]
 constructor
 ·rintro (⟨h1, h2⟩ | h | h)
  ·exact .inl ⟨h2, h1⟩
  ·exact .inr (.inr h)
  ·exact .inr (.inl h)
 ·rintro (⟨h1, h2⟩ | h | h)
  ·exact .inl ⟨h2, h1⟩
  ·exact .inr (.inr h)
  ·exact .inr (.inl h)
end
end Go.Proofs.YtcncpbcbedfakaaGreat
end
