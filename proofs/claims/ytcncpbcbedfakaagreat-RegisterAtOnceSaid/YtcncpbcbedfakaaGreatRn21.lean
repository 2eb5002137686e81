/- Part 21 of what the laws' proofs rest on. No condition. -/
import Derived.Test.YtcncpbcbedfakaaGreatRn20
set_option linter.all false
section
namespace Go.Proofs.YtcncpbcbedfakaaGreat
section
variable {α : Type} {lt : α → α → Prop}
structure Strict (lt : α → α → Prop) : Prop where
 irr : ∀ a, ¬ lt a a
 tr : ∀ {a b c}, lt a b → lt b c → lt a c
theorem ris_ext (o : Strict lt) : ∀ {l l' : List α}, l.Pairwise lt → l'.Pairwise lt → (∀ d, d ∈ l ↔ d ∈ l') → l = l'
 | [], [], _, _, _ => rfl
 | [], b :: l', _, _, h => absurd ((h b).2 (.head _)) (by simp)
 | a :: l, [], _, _, h => absurd ((h a).1 (.head _)) (by simp)
 | a :: l, b :: l', h1, h2, h => by
  have r1 := List.pairwise_cons.1 h1
  have r2 := List.pairwise_cons.1 h2
  have e : a = b := by
   rcases List.mem_cons.1 ((h a).1 (.head _)) with q | q
   ·exact q
   ·rcases List.mem_cons.1 ((h b).2 (.head _)) with z | z
    ·exact z.symm
    ·exact absurd (o.tr (r2.1 a q) (r1.1 b z)) (o.irr _)
  subst e
  congr 1
  refine ris_ext o r1.2 r2.2 fun d => ⟨fun hd => ?_, fun hd => ?_⟩
  ·rcases List.mem_cons.1 ((h d).1 (.tail _ hd)) with q | q
   ·subst q; exact absurd (r1.1 _ hd) (o.irr _)
   ·exact q
  ·rcases List.mem_cons.1 ((h d).2 (.tail _ hd)) with q | q
   ·subst q; exact absurd (r2.1 _ hd) (o.irr _)
   ·exact q
theorem ris_adj (o : Strict lt) : ∀ {l : List α}, (∀ i (h : i + 1 < l.length), lt (l[i]'(by omega)) l[i + 1]) → l.Pairwise lt
 | [], _ => List.Pairwise.nil
 | [a], _ => List.pairwise_singleton _ _
 | a :: b :: l, h => by
  have ih := ris_adj o (l := b :: l) fun i hi => h (i + 1) (by simpa using hi)
  have h0 := h 0 (by simp)
  refine List.pairwise_cons.2 ⟨fun d hd => ?_, ih⟩
  rcases List.mem_cons.1 hd with rfl | q
  ·exact h0
  ·exact o.tr h0 ((List.pairwise_cons.1 ih).1 d q)
theorem ris_adj_iff (o : Strict lt) {l : List α} : l.Pairwise lt ↔ ∀ i (h : i + 1 < l.length), lt (l[i]'(by omega)) l[i + 1] :=
 ⟨fun h i hi => List.pairwise_iff_getElem.1 h i (i + 1) (by omega) hi (by omega), ris_adj o⟩
open Classical in
noncomputable def layG (lt : α → α → Prop) : List α → α → List α
 | [], h => [h]
 | x :: l, h => if lt h x then h :: x :: l else x :: layG lt l h
theorem layG_mem : ∀ (l : List α) (h y : α), y ∈ layG lt l h ↔ y = h ∨ y ∈ l
 | [], h, y => by simp [layG]
 | x :: l, h, y => by
  unfold layG
  split
  ·simp
  ·simp only [List.mem_cons, layG_mem l h y]
   constructor
   ·rintro (q | q | q)
    ·exact .inr (.inl q)
    ·exact .inl q
    ·exact .inr (.inr q)
   ·rintro (q | q | q)
    ·exact .inr (.inl q)
    ·exact .inl q
    ·exact .inr (.inr q)
theorem layG_len : ∀ (l : List α) (h : α), (layG lt l h).length = l.length + 1
 | [], h => rfl
 | x :: l, h => by
  unfold layG
  split
  ·rfl
  ·simp [layG_len l h]
theorem layG_rise (o : Strict lt) : ∀ {l : List α} {h : α}, l.Pairwise lt → (∀ x ∈ l, lt x h ∨ lt h x) → (layG lt l h).Pairwise lt
 | [], h, _, _ => List.pairwise_singleton _ _
 | x :: l, h, r, ht => by
  have rc := List.pairwise_cons.1 r
  unfold layG
  split
  ·rename_i q
   refine List.pairwise_cons.2 ⟨fun y hy => ?_, r⟩
   rcases List.mem_cons.1 hy with rfl | hy
   ·exact q
   ·exact o.tr q (rc.1 y hy)
  ·rename_i q
   refine List.pairwise_cons.2 ⟨fun y hy => ?_, layG_rise o rc.2 fun y hy => ht y (.tail _ hy)⟩
   rcases (layG_mem l h y).1 hy with rfl | hy
   ·exact (ht x (.head _)).resolve_right q
   ·exact rc.1 y hy
end
def lessH (a b : Hd) : Prop := lessD a.1 b.1
theorem lessH_ord : Strict lessH := ⟨fun a => lessD_irrefl _, fun h k => lessD_trans h k⟩
def cmpB : List UInt8 → List UInt8 → Int
 | [], [] => 0
 | [], _ :: _ => -1
 | _ :: _, [] => 1
 | a :: l, b :: l' => if a < b then -1 else if b < a then 1 else cmpB l l'
theorem cmpB_refl : ∀ l : List UInt8, cmpB l l = 0
 | [] => rfl
 | a :: l => by
  unfold cmpB
  rw [if_neg (UInt8.lt_irrefl a), if_neg (UInt8.lt_irrefl a), cmpB_refl l]
theorem cmpB_eq : ∀ {l l' : List UInt8}, cmpB l l' = 0 → l = l'
 | [], [], _ => rfl
 | [], _ :: _, h => by simp [cmpB] at h
 | _ :: _, [], h => by simp [cmpB] at h
 | a :: l, b :: l', h => by
  unfold cmpB at h
  split at h
  ·simp at h
  ·split at h
   ·simp at h
   ·rename_i h1 h2
    rw [cmpB_eq h, UInt8.le_antisymm (UInt8.not_lt.1 h2) (UInt8.not_lt.1 h1)]
theorem cmpB_swap : ∀ (l l' : List UInt8), cmpB l' l = - cmpB l l'
 | [], [] => rfl
 | [], _ :: _ => rfl
 | _ :: _, [] => rfl
 | a :: l, b :: l' => by
  unfold cmpB
  by_cases h1 : a < b
  ·rw [if_pos h1, if_neg (UInt8.lt_asymm h1), if_pos h1]; rfl
  ·by_cases h2 : b < a
   ·rw [if_pos h2, if_neg h1, if_pos h2]
   ·rw [if_neg h1, if_neg h2, if_neg h1, if_neg h2, cmpB_swap l l']
theorem cmpB_bd : ∀ (l l' : List UInt8), cmpB l l' = -1 ∨ cmpB l l' = 0 ∨ cmpB l l' = 1
 | [], [] => .inr (.inl rfl)
 | [], _ :: _ => .inl rfl
 | _ :: _, [] => .inr (.inr rfl)
 | a :: l, b :: l' => by
  unfold cmpB
  split
  ·exact .inl rfl
  ·split
   ·exact .inr (.inr rfl)
   ·exact cmpB_bd l l'
theorem cmpB_trans : ∀ {a b c : List UInt8}, cmpB a b < 0 → cmpB b c < 0 → cmpB a c < 0
 | [], [], _, h, _ => by simp [cmpB] at h
 | [], _ :: _, [], _, k => by simp [cmpB] at k
 | [], _ :: _, _ :: _, _, _ => by simp [cmpB]
 | _ :: _, [], _, h, _ => by simp [cmpB] at h
 | _ :: _, _ :: _, [], _, k => by simp [cmpB] at k
 | a :: l, b :: l', c :: l'', h, k => by
  unfold cmpB at h k ⊢
  by_cases h1 : a < b
  ·by_cases k1 : b < c
   ·rw [if_pos (UInt8.lt_trans h1 k1)]; omega
   ·rw [if_neg k1] at k
    by_cases k2 : c < b
    ·rw [if_pos k2] at k; omega
    ·have e : b = c := UInt8.le_antisymm (UInt8.not_lt.1 k2) (UInt8.not_lt.1 k1)
     subst e
     rw [if_pos h1]; omega
  ·rw [if_neg h1] at h
   by_cases h2 : b < a
   ·rw [if_pos h2] at h; omega
   ·rw [if_neg h2] at h
    have e : a = b := UInt8.le_antisymm (UInt8.not_lt.1 h2) (UInt8.not_lt.1 h1)
    subst e
    by_cases k1 : a < c
    ·rw [if_pos k1]; omega
    ·rw [if_neg k1] at k ⊢
     by_cases k2 : c < a
     ·rw [if_pos k2] at k; omega
     ·rw [if_neg k2] at k ⊢
      exact cmpB_trans h k
def cmpG (a b : Dg) : Int := cmpB a.l b.l
def lessG (a b : Dg) : Prop := cmpG a b < 0
theorem lessG_ord : Strict lessG := ⟨fun a h => by unfold lessG cmpG at h; rw [cmpB_refl] at h; omega, fun h k => cmpB_trans h k⟩
theorem lessG_tri (a b : Dg) : lessG a b ∨ a = b ∨ lessG b a := by
 unfold lessG cmpG
 rw [cmpB_swap a.l b.l]
 rcases cmpB_bd a.l b.l with q | q | q
 ·exact .inl (by omega)
 ·exact .inr (.inl (Dg.ext (cmpB_eq q)))
 ·exact .inr (.inr (by omega))
end Go.Proofs.YtcncpbcbedfakaaGreat
end
section
namespace Go.Proofs.YtcncpbcbedfakaaGreat
set_option maxRecDepth 100000
set_option maxHeartbeats 4000000
set_option linter.unusedSimpArgs false
theorem Rd.ldp {α : Type} {r : Row α} {h : List AB} {s : AV} {l : List α} (e : Rd r h s l) {sz : Nat} (hz : r.sz = sz) (n j m : Nat) (hn : n < l.length) (hm : j + m ≤ sz) : ldV h (some m) (elP sz s n j) = some (.ag (((r.f (l.getD n r.d)).drop j).take m)) := by
 subst hz
 obtain ⟨id, off, cap, k, xs, rfl, h1, h2, h3⟩ := e.blk n hn
 simp only [elP, ldV, h1, Option.bind_some]
 have hlt : n * r.sz + r.sz ≤ l.length * r.sz := by
  have := Nat.mul_le_mul_right r.sz (show n + 1 ≤ l.length from hn)
  rw [Nat.add_mul] at this
  omega
 rw [if_pos (by omega)]
 congr 2
 refine List.ext_getElem? fun i => ?_
 rw [List.getElem?_take, List.getElem?_take]
 split
 ·rename_i hi
  have key : (r.f (l.getD n r.d))[j + i]? = xs[off + (n * r.sz + (j + i))]? := by
   rw [← r.cells_get l n (j + i) hn (by omega), ← h3, List.getElem?_take, if_pos (by omega), List.getElem?_drop]
  rw [List.getElem?_drop, List.getElem?_drop, key]
  congr 1
  omega
 ·rfl
theorem held_fx {h : List AB} {s : AV} {l : List Hd} (e : Rd heldR h s l) : (∀ x n, n < l.length → ldV (h ++ x) (some 2) (elP 34 s n 0) = some (.ag [.i .i64 (l.getD n heldR.d).1.1, .i .i64 (l.getD n heldR.d).1.2])) ∧ (∀ x n, n < l.length → ldV (h ++ x) (some 32) (elP 34 s n 2) = some (.ag (idR.f (l.getD n heldR.d).2))) :=
 ⟨fun x n hn => by
  have := (e.app x).ldp heldR_sz n 0 2 hn (by decide)
  rw [held_dot, dotR_f] at this
  exact this, fun x n hn => by
  have := (e.app x).ldp heldR_sz n 2 32 hn (by decide)
  rw [held_id] at this
  exact this⟩
def fineP (v : List Int) (ds : Dots) (l : List Hd) (i : Nat) : Prop := ∀ k, k < i → (0 < k → lessD (l.getD (k - 1) heldR.d).1 (l.getD k heldR.d).1) ∧ (checkR v ds = 0 ∧ rhasP v ds (l.getD k heldR.d).1)
noncomputable instance (v : List Int) (ds : Dots) (l : List Hd) (i : Nat) : Decidable (fineP v ds l i) := Classical.propDecidable _
noncomputable def checkG (l : List Hd) (v : List Int) (ds : Dots) : Int := if checkR v ds ≠ 0 then checkR v ds else if fineP v ds l l.length then 0 else 2
end Go.Proofs.YtcncpbcbedfakaaGreat
end
section
namespace Go.Proofs.YtcncpbcbedfakaaGreat
set_option maxRecDepth 100000
set_option maxHeartbeats 4000000
set_option linter.unusedSimpArgs false
theorem held_len (x : Hd) : (heldR.f x).length = 34 := heldR.len x
theorem id_len (x : Dg) : (idR.f x).length = 32 := idR.len x
theorem held_take (x : Hd) : (heldR.f x).take 34 = heldR.f x := List.take_of_length_le (by rw [held_len]; exact Nat.le_refl _)
theorem id_take (x : Dg) : (idR.f x).take 32 = idR.f x := List.take_of_length_le (by rw [id_len]; exact Nat.le_refl _)
theorem over_at : ∀ (zs l : List AV), l.length = zs.length → over zs 0 l = l := by
 intro zs l h
 simp only [over, List.take_zero, List.nil_append, Nat.zero_add]
 rw [List.drop_eq_nil_of_le (by omega), List.append_nil]
noncomputable def outL (v : List Int) (ds : Dots) (l : List Hd) : List Hd := l.filter fun x => decide (¬ (checkR v ds = 0 ∧ rhasP v ds x.1))
theorem outL_step (v : List Int) (ds : Dots) {l : List Hd} {i : Nat} (h : i < l.length) : outL v ds (l.take (i + 1)) = outL v ds (l.take i) ++ (if ¬ (checkR v ds = 0 ∧ rhasP v ds (l.getD i heldR.d).1) then [l.getD i heldR.d] else []) := by
 unfold outL
 rw [List.take_succ_eq_append_getElem h, List.filter_append, List.getD_eq_getElem?_getD, List.getElem?_eq_getElem h]
 simp only [Option.getD_some, List.filter_cons, List.filter_nil, decide_eq_true_eq]
theorem outL_len (v : List Int) (ds : Dots) (l : List Hd) (i : Nat) : (outL v ds (l.take i)).length ≤ i := by
 unfold outL
 exact Nat.le_trans (List.length_filter_le _ _) (by rw [List.length_take]; omega)
end Go.Proofs.YtcncpbcbedfakaaGreat
end
section
namespace Go.Proofs.YtcncpbcbedfakaaGreat
set_option maxRecDepth 100000
set_option maxHeartbeats 4000000
set_option linter.unusedSimpArgs false
theorem eqcG (a b c d : Int) : eqCells [.i, .i] [.i .i64 a, .i .i64 b] [.i .i64 c, .i .i64 d] = some (decide (a = c ∧ b = d)) := by
 have := eqc2 (a, b) (c, d)
 simp only at this
 rw [this]
 congr 1
 exact decide_eq_decide.2 (by rw [Prod.mk.injEq])
noncomputable instance (l : List Hd) (x : Hd) (i : Nat) : Decidable (∃ y ∈ l.take i, lessH x y) := Classical.propDecidable _
end Go.Proofs.YtcncpbcbedfakaaGreat
end
section
namespace Go.Proofs.YtcncpbcbedfakaaGreat
set_option maxRecDepth 100000
set_option maxHeartbeats 4000000
set_option linter.unusedSimpArgs false
open Classical in
noncomputable def getH (a : AV) : Option Hd := if e : ∃ y, a = .ag (heldR.f y) then some e.choose else none
theorem getH_f (y : Hd) : getH (.ag (heldR.f y)) = some y := by
 have e : ∃ z, AV.ag (heldR.f y) = .ag (heldR.f z) := ⟨y, rfl⟩
 unfold getH
 rw [dif_pos e]
 have h := e.choose_spec
 rw [AV.ag.injEq] at h
 rw [← heldR.inj _ _ h]
theorem getH_bind {β : Type} {a : AV} {f : Hd → Option β} {b : β} (e : (getH a).bind f = some b) : ∃ y, a = .ag (heldR.f y) ∧ f y = some b := by
 unfold getH at e
 split at e
 ·rename_i h
  exact ⟨h.choose, h.choose_spec, e⟩
 ·cases e
section
variable {α : Type} {r : Row α}
theorem rsl_snoc (id : Nat) (l : List α) (x : α) : rsl r id (l ++ [x]) = .sl id 0 (l.length + 1) (l.length + 1) (some r.sz) := by
 unfold rsl
 rw [if_neg (by simp), List.length_append]
 rfl
theorem rsl_uno (id : Nat) (x : α) : rsl r id [x] = .sl id 0 1 1 (some r.sz) := _root_.id rfl
end
end Go.Proofs.YtcncpbcbedfakaaGreat
end
section
namespace Go.Proofs.YtcncpbcbedfakaaGreat
set_option maxRecDepth 100000
set_option maxHeartbeats 4000000
set_option linter.unusedSimpArgs false
theorem checkG_0 {l : List Hd} {v : List Int} {ds : Dots} (h : checkG l v ds = 0) : checkR v ds = 0 ∧ fineP v ds l l.length := by
 unfold checkG at h
 split at h
 ·rename_i c; exact absurd h c
 ·rename_i c
  split at h
  ·rename_i q; exact ⟨Decidable.not_not.1 c, q⟩
  ·cases h
end Go.Proofs.YtcncpbcbedfakaaGreat
end
section
namespace Go.Proofs.YtcncpbcbedfakaaGreat
set_option maxRecDepth 100000
set_option maxHeartbeats 4000000
set_option linter.unusedSimpArgs false
noncomputable def T_CloneInts : List AV → List AB → Option (AV × List AB)
 | [a], h => (getS intR h a).bind fun xs => if xs.length ≤ 1000000 then some (rsl intR h.length xs, h ++ [resB intR true xs]) else none
 | _, _ => none
theorem CloneInts_se (h : List AB) (xs : List Int) (h0 : xs.length = 0) : FnC Tryz.prog 105 [.se] h (rsl intR h.length xs) (h ++ [resB intR true xs]) := by
 refine FnAt.c (FnAt.run (by kernel_rfl) (T := ⟨[], []⟩) ⟨trivial, trivial⟩ Tryz.func105 sw105 fun ho hh => ?_)
 have fs : ∀ x : List AB, srcV (h ++ x) 1 .se = some (0, []) := fun _ => rfl
 unfold w105
 simp only [rep_0, rep_s, walkW, walkX, if_true, if_false, reduceIte, Nat.reduceAdd, Nat.reduceSub, Nat.reduceLeDiff, Nat.reduceEqDiff, Nat.reduceMul, Nat.reduceLT, Int.reduceLT, Int.reduceLE, Int.reduceEq, fs]
 exact Bt.one 0 hh (fun _ => Wk.empty _ _ _ _ _ _) (by simp) (fun h => absurd h0 h)
theorem CloneInts_ns (h : List AB) (xs : List Int) (h0 : xs.length = 0) : FnC Tryz.prog 105 [.ns] h (rsl intR h.length xs) (h ++ [resB intR true xs]) := by
 refine FnAt.c (FnAt.run (by kernel_rfl) (T := ⟨[], []⟩) ⟨trivial, trivial⟩ Tryz.func105 sw105 fun ho hh => ?_)
 unfold w105
 simp only [rep_0, rep_s, walkW, walkX, if_true, if_false, reduceIte, Nat.reduceAdd, Nat.reduceSub, Nat.reduceLeDiff, Nat.reduceEqDiff, Nat.reduceMul, Nat.reduceLT, Int.reduceLT, Int.reduceLE, Int.reduceEq]
 exact Bt.one0 h0 (Wk.nil _ _)
theorem CloneInts_spec : Spec Tryz.prog 105 T_CloneInts := by
 intro args h v h' e
 unfold T_CloneInts at e
 split at e
 ·rename_i a
  obtain ⟨xs, ha, e⟩ := getS_bind e
  split at e
  ·rename_i hl
   cases e
   by_cases hk : ∃ id off cap, a = .sl id off 0 cap (some 0)
   ·obtain ⟨id, off, cap, rfl⟩ := hk
    have h0 : xs.length = 0 := by have := ha.len; simp only [lenV, Option.some.injEq] at this; omega
    exact FnC.empty1 (CloneInts_ns h xs h0) (CloneInts_se h xs h0)
   have hs := ha.isSl
   have hlen := ha.len
   cases a <;> first | (cases hs; done) | skip
   ·rename_i id off len cap k
    have hq : eqNil (.sl id off len cap k) .ns = some false := by
     rw [eqNil_sl, if_neg]
     rintro ⟨rfl, rfl⟩
     exact hk ⟨_, _, _, rfl⟩
    refine FnAt.c (FnAt.run (by kernel_rfl) (T := ⟨[], []⟩) ⟨trivial, trivial⟩ Tryz.func105 sw105 fun ho hh => ?_)
    simp only [okL_cons, Bool.and_eq_true] at ho
    have fa := ha.fx ho.1 (sz := 1) rfl
    have fs := ha.src (sz := 1) rfl
    unfold w105
    by_cases h0 : xs.length = 0
    ·simp only [rep_0, rep_s, walkW, walkX, if_true, if_false, reduceIte, Nat.reduceAdd, Nat.reduceSub, Nat.reduceLeDiff, Nat.reduceEqDiff, Nat.reduceMul, Nat.reduceLT, Int.reduceLT, Int.reduceLE, Int.reduceEq, fa, fs, h0, hq]
     exact Bt.one 0 hh (fun _ => Wk.empty _ _ _ _ _ _) (by simp) (fun h => absurd h0 h)
    ·simp only [rep_0, rep_s, walkW, walkX, if_true, if_false, reduceIte, Nat.reduceAdd, Nat.reduceSub, Nat.reduceLeDiff, Nat.reduceEqDiff, Nat.reduceMul, Nat.reduceLT, Int.reduceLT, Int.reduceLE, Int.reduceEq, fa, fs, h0, hq]
     exact ⟨⟨by omega, by unfold maxLen; omega⟩, Bt.one 1 hh (fun h => absurd h h0) (by simp) (fun _ => ⟨rfl, rfl⟩)⟩
   ·exact CloneInts_se h xs (by simp only [lenV, Option.some.injEq] at hlen; omega)
   ·exact CloneInts_ns h xs (by simp only [lenV, Option.some.injEq] at hlen; omega)
  ·cases e
 ·cases e
noncomputable def T_CloneHelds : List AV → List AB → Option (AV × List AB)
 | [a], h => (getS heldR h a).bind fun xs => if xs.length ≤ 1000000 then some (rsl heldR h.length xs, h ++ [resB heldR true xs]) else none
 | _, _ => none
theorem CloneHelds_se (h : List AB) (xs : List Hd) (h0 : xs.length = 0) : FnC Tryz.prog 110 [.se] h (rsl heldR h.length xs) (h ++ [resB heldR true xs]) := by
 refine FnAt.c (FnAt.run (by kernel_rfl) (T := ⟨[], []⟩) ⟨trivial, trivial⟩ Tryz.func110 sw110 fun ho hh => ?_)
 have fs : ∀ x : List AB, srcV (h ++ x) 34 .se = some (0, []) := fun _ => rfl
 unfold w110
 simp only [rep_0, rep_s, walkW, walkX, if_true, if_false, reduceIte, Nat.reduceAdd, Nat.reduceSub, Nat.reduceLeDiff, Nat.reduceEqDiff, Nat.reduceMul, Nat.reduceLT, Int.reduceLT, Int.reduceLE, Int.reduceEq, fs]
 exact Bt.one 0 hh (fun _ => Wk.empty _ _ _ _ _ _) (by simp) (fun h => absurd h0 h)
theorem CloneHelds_ns (h : List AB) (xs : List Hd) (h0 : xs.length = 0) : FnC Tryz.prog 110 [.ns] h (rsl heldR h.length xs) (h ++ [resB heldR true xs]) := by
 refine FnAt.c (FnAt.run (by kernel_rfl) (T := ⟨[], []⟩) ⟨trivial, trivial⟩ Tryz.func110 sw110 fun ho hh => ?_)
 unfold w110
 simp only [rep_0, rep_s, walkW, walkX, if_true, if_false, reduceIte, Nat.reduceAdd, Nat.reduceSub, Nat.reduceLeDiff, Nat.reduceEqDiff, Nat.reduceMul, Nat.reduceLT, Int.reduceLT, Int.reduceLE, Int.reduceEq]
 exact Bt.one0 h0 (Wk.nil _ _)
theorem CloneHelds_spec : Spec Tryz.prog 110 T_CloneHelds := by
 intro args h v h' e
 unfold T_CloneHelds at e
 split at e
 ·rename_i a
  obtain ⟨xs, ha, e⟩ := getS_bind e
  split at e
  ·rename_i hl
   cases e
   by_cases hk : ∃ id off cap, a = .sl id off 0 cap (some 0)
   ·obtain ⟨id, off, cap, rfl⟩ := hk
    have h0 : xs.length = 0 := by have := ha.len; simp only [lenV, Option.some.injEq] at this; omega
    exact FnC.empty1 (CloneHelds_ns h xs h0) (CloneHelds_se h xs h0)
   have hs := ha.isSl
   have hlen := ha.len
   cases a <;> first | (cases hs; done) | skip
   ·rename_i id off len cap k
    have hq : eqNil (.sl id off len cap k) .ns = some false := by
     rw [eqNil_sl, if_neg]
     rintro ⟨rfl, rfl⟩
     exact hk ⟨_, _, _, rfl⟩
    refine FnAt.c (FnAt.run (by kernel_rfl) (T := ⟨[], []⟩) ⟨trivial, trivial⟩ Tryz.func110 sw110 fun ho hh => ?_)
    simp only [okL_cons, Bool.and_eq_true] at ho
    have fa := ha.fx ho.1 (sz := 34) rfl
    have fs := ha.src (sz := 34) rfl
    unfold w110
    by_cases h0 : xs.length = 0
    ·simp only [rep_0, rep_s, walkW, walkX, if_true, if_false, reduceIte, Nat.reduceAdd, Nat.reduceSub, Nat.reduceLeDiff, Nat.reduceEqDiff, Nat.reduceMul, Nat.reduceLT, Int.reduceLT, Int.reduceLE, Int.reduceEq, fa, fs, h0, hq, helds_all]
     exact Bt.one 0 hh (fun _ => Wk.empty _ _ _ _ _ _) (by simp) (fun h => absurd h0 h)
    ·simp only [rep_0, rep_s, walkW, walkX, if_true, if_false, reduceIte, Nat.reduceAdd, Nat.reduceSub, Nat.reduceLeDiff, Nat.reduceEqDiff, Nat.reduceMul, Nat.reduceLT, Int.reduceLT, Int.reduceLE, Int.reduceEq, fa, fs, h0, hq, helds_all]
     exact ⟨⟨by omega, by unfold maxLen; omega⟩, Bt.one 1 hh (fun h => absurd h h0) (by simp) (fun _ => ⟨rfl, rfl⟩)⟩
   ·exact CloneHelds_se h xs (by simp only [lenV, Option.some.injEq] at hlen; omega)
   ·exact CloneHelds_ns h xs (by simp only [lenV, Option.some.injEq] at hlen; omega)
  ·cases e
 ·cases e
theorem own_spec : Spec Tryz.prog 65 T_CopyCloud := by
 intro args h v h' e
 unfold T_CopyCloud at e
 split at e
 ·rename_i v d
  obtain ⟨xs, hv, e⟩ := getS_bind e
  obtain ⟨ds, hd, e⟩ := getS_bind e
  split at e
  ·rename_i hl
   cases e
   refine FnAt.c (FnAt.frz fun hz => ?_)
   rw [show h.length = (h.map AB.freeze).length from (List.length_map _).symm]
   replace hv := hv.frz
   replace hd := hd.frz
   generalize h.map AB.freeze = h at *
   refine FnAt.run (by kernel_rfl) (T := ⟨[⟨105, T_CloneInts, fun _ => []⟩, ⟨97, T_CloneDots, fun _ => []⟩], []⟩) ⟨⟨CloneInts_spec, CloneDots_spec, trivial⟩, trivial⟩ Tryz.func65 sw65 fun ho hh => ?_
   simp only [okL_cons, ok_ag, Bool.and_eq_true] at ho
   have f1 := hv.fx ho.1.1 (sz := 1) rfl
   have f2 := hd.fx ho.1.2.1 (sz := 2) rfl
   unfold w65
   simp only [rep_0, rep_s, walkW, walkQ, walkX, if_true, if_false, ↓reduceIte, Nat.reduceAdd, Nat.reduceSub, Nat.reduceLeDiff, Nat.reduceEqDiff, Nat.reduceMul, Nat.reduceLT, Int.reduceLT, Int.reduceLE, Int.reduceEq, CO.tmps, Opd.tmps, optT, Nat.reducePow, Nat.reduceDiv, Nat.reduceMod, f1, f2, T_CloneInts, T_CloneDots, hl.1, hl.2, HOk_own hh, mask_ownC hz, mask_ownQ hz, mask_ownQ0 hz]
   exact Bt.sel [2, 3] hh (by decide) (by simp only [walkS, FrSel, BlkSel, AV.ren, renL, AV.ok, okL, Option.some.injEq, exists_eq_left', List.length_cons, List.length_nil, Nat.reduceAdd, Nat.reduceLT, reduceCtorEq, implies_true, exists_eq']) (by simp only [walkS, FrSel, BlkSel, AV.ren, renL, AV.ok, okL, Option.some.injEq, exists_eq_left', List.length_cons, List.length_nil, Nat.reduceAdd, Nat.reduceLT, reduceCtorEq, implies_true, exists_eq'])
  ·cases e
 ·cases e
end Go.Proofs.YtcncpbcbedfakaaGreat
end
section
namespace Go.Proofs.YtcncpbcbedfakaaGreat
set_option maxRecDepth 100000
set_option maxHeartbeats 4000000
set_option linter.unusedSimpArgs false
abbrev jH (h : List AB) (s t s' t' sa sb : AV) (l : Dots) : List AB := h ++ jL h.length s t s' t' (apS dotR (h.length + 7) l) sa sb (resB dotR true l)
theorem jH_inj {h : List AB} {s t s' t' sa sb sa' sb' : AV} {l l' : Dots} (e : jH h s t s' t' sa sb l = jH h s t s' t' sa' sb' l') : sa = sa' ∧ sb = sb' ∧ l = l' := by
 replace e := List.append_cancel_left e
 simp only [jL, List.cons.injEq, AB.blk.injEq, and_true, true_and] at e
 obtain ⟨e1, e2, e3, e4⟩ := e
 exact ⟨e2, e3, apS_inj e1 e4⟩
def leastR (h : List AB) (s t s' t' sa sb : AV) (la lb l : Dots) (x : AV × List AB) : Prop :=
 if takeB la lb then ∃ sb', Prt h sb' (lb.drop 1) ∧ x = (.ag (dotR.f (lb.getD 0 dotR.d)), jH h s t s' t' sa sb' l)
 else ∃ sa', Prt h sa' (la.drop 1) ∧ x = (.ag (dotR.f (la.getD 0 dotR.d)), jH h s t s' t' sa' sb l)
def leastQ (h : List AB) (s t s' t' : AV) (hh : List AB) (x : AV × List AB) : Prop :=
 ∃ sa sb la lb l, Prt h sa la ∧ Prt h sb lb ∧ hh = jH h s t s' t' sa sb l ∧ leastR h s t s' t' sa sb la lb l x ∧ FnAt Tryz.prog 116 [.p (h.length + 4) 0, .p (h.length + 5) 0] hh x.1 x.2
open Classical in
noncomputable def leastT (h : List AB) (s t s' t' : AV) : List AV → List AB → Option (AV × List AB) := fun args hh =>
 if c : args = [.p (h.length + 4) 0, .p (h.length + 5) 0] ∧ ∃ x, leastQ h s t s' t' hh x then some (Classical.choose c.2) else none
theorem leastT_spec (h : List AB) (s t s' t' : AV) : Spec Tryz.prog 116 (leastT h s t s' t') := by
 intro args hh v h' e
 unfold leastT at e
 split at e
 ·rename_i c
  obtain ⟨rfl, hx⟩ := c
  obtain ⟨sa, sb, la, lb, l, _, _, _, _, q⟩ := Classical.choose_spec hx
  have e' := Option.some.inj e
  rw [e'] at q
  exact q.c
 ·cases e
theorem leastT_eq {h : List AB} {s t s' t' sa sb : AV} {la lb l : Dots} (pa : Prt h sa la) (pb : Prt h sb lb) (hx : ∃ x, leastR h s t s' t' sa sb la lb l x ∧ FnAt Tryz.prog 116 [.p (h.length + 4) 0, .p (h.length + 5) 0] (jH h s t s' t' sa sb l) x.1 x.2) :
  ∃ x, leastT h s t s' t' [.p (h.length + 4) 0, .p (h.length + 5) 0] (jH h s t s' t' sa sb l) = some x ∧ leastR h s t s' t' sa sb la lb l x := by
 obtain ⟨x, hr, hf⟩ := hx
 have c : ([.p (h.length + 4) 0, .p (h.length + 5) 0] : List AV) = [.p (h.length + 4) 0, .p (h.length + 5) 0] ∧ ∃ x, leastQ h s t s' t' (jH h s t s' t' sa sb l) x := ⟨rfl, x, sa, sb, la, lb, l, pa, pb, rfl, hr, hf⟩
 refine ⟨Classical.choose c.2, by unfold leastT; rw [dif_pos c], ?_⟩
 obtain ⟨sa2, sb2, la2, lb2, l2, pa2, pb2, e, hr2, _⟩ := Classical.choose_spec c.2
 obtain ⟨rfl, rfl, rfl⟩ := jH_inj e
 have e1 := pa.rd.inj pa2.rd
 have e2 := pb.rd.inj pb2.rd
 subst e1 e2
 exact hr2
def joinR (h : List AB) (s t s' t' sa sb : AV) (l : Dots) (a b : Int) : List AB := h ++ (jL h.length s t s' t' (.sl (h.length + 10) 0 (l.length + 1) (l.length + 1) (some 2)) sa sb .dead ++ [.blk true true [.i .i64 a, .i .i64 b], .blk true true [.i .i64 a, .i .i64 b], .blk true true (dotR.cells l ++ [.i .i64 a, .i .i64 b])])
def joinQ (h : List AB) (s t s' t' : AV) (a b : Int) (hh r : List AB) : Prop := ∃ sa sb l, l.length ≤ 1000000 ∧ hh = jH h s t s' t' sa sb l ∧ r = joinR h s t s' t' sa sb l a b
open Classical in
noncomputable def joinT (h : List AB) (s t s' t' : AV) : List AV → List AB → Option (AV × List AB)
 | [.ag [.i .i64 a, .i .i64 b]], hh => if c : ∃ r, joinQ h s t s' t' a b hh r then some (.b true, c.choose) else none
 | _, _ => none
theorem joinT_eq (h : List AB) (s t s' t' sa sb : AV) (l : Dots) (a b : Int) (hl : l.length ≤ 1000000) : joinT h s t s' t' [.ag [.i .i64 a, .i .i64 b]] (jH h s t s' t' sa sb l) = some (.b true, joinR h s t s' t' sa sb l a b) := by
 have hc : ∃ r, joinQ h s t s' t' a b (jH h s t s' t' sa sb l) r := ⟨_, sa, sb, l, hl, rfl, rfl⟩
 obtain ⟨sa', sb', l', _, e, e5⟩ := hc.choose_spec
 obtain ⟨rfl, rfl, rfl⟩ := jH_inj e
 simp only [joinT]
 rw [dif_pos hc, e5]
theorem joinT_spec (h : List AB) (s t s' t' : AV) : SpecR Tryz.prog (h.length + 6) (joinT h s t s' t') := by
 intro args hh v h' e
 unfold joinT at e
 split at e
 ·rename_i a b
  split at e
  ·rename_i hc
   cases e
   obtain ⟨sa, sb, l, h1, h2, h3⟩ := hc.choose_spec
   rw [h3, h2]
   exact join_round h s t s' t' sa sb l a b h1
  ·cases e
 ·cases e
theorem mrgD_nil (la lb : Dots) (h : la.length + lb.length = 0) : mrgD (la.length + lb.length) la lb = [] := by rw [h]; rfl
theorem mrgD_b (la lb : Dots) (h : la.length + lb.length ≠ 0) (c : takeB la lb) : 0 < lb.length ∧ mrgD (la.length + lb.length) la lb = lb.getD 0 dotR.d :: mrgD (la.length + (lb.drop 1).length) la (lb.drop 1) := by
 have hb : 0 < lb.length := by rcases c with q | q <;> omega
 refine ⟨hb, ?_⟩
 obtain ⟨n, hn⟩ : ∃ n, la.length + lb.length = n + 1 := ⟨la.length + lb.length - 1, by omega⟩
 rw [hn, show la.length + (lb.drop 1).length = n by rw [List.length_drop]; omega]
 conv => lhs; unfold mrgD
 rw [if_pos c]
theorem mrgD_a (la lb : Dots) (h : la.length + lb.length ≠ 0) (c : ¬ takeB la lb) : 0 < la.length ∧ mrgD (la.length + lb.length) la lb = la.getD 0 dotR.d :: mrgD ((la.drop 1).length + lb.length) (la.drop 1) lb := by
 have ha : 0 < la.length := by
  rcases Nat.eq_zero_or_pos la.length with q | q
  ·exact absurd (.inl q) c
  ·exact q
 refine ⟨ha, ?_⟩
 obtain ⟨n, hn⟩ : ∃ n, la.length + lb.length = n + 1 := ⟨la.length + lb.length - 1, by omega⟩
 rw [hn, show (la.drop 1).length + lb.length = n by rw [List.length_drop]; omega]
 conv => lhs; unfold mrgD
 rw [if_neg c]
theorem merged_fold (h : List AB) (hz : h.map AB.freeze = h) (hh : HOk h) {s t s' t' : AV} {v v' : List Int} {ds ds' : Dots} (hs : Rd intR h s v) (hs' : Rd intR h s' v') (pt : Prt h t ds) (pt' : Prt h t' ds')
  (os : s.ok (fun i => decide (i < h.length)) = true) (os' : s'.ok (fun i => decide (i < h.length)) = true) (hl : ds.length + ds'.length ≤ 20000) :
  FnAt Tryz.prog 115 [.y (h.length + 6), .p (h.length + 4) 0, .p (h.length + 5) 0] (h ++ [.blk false true [s, t], .blk false true [s', t'], .blk false true [.ns, .ns], .blk false true [.ns], .blk false true [t], .blk false true [t'], .lp .ready .n (jFr h.length s t s' t') [21] jA jB]) (.tu [])
   (h ++ [.blk false true [s, t], .blk false true [s', t'], .blk false true [.ns, .ns], .blk false true [apS dotR (h.length + 7) (mrgD (ds.length + ds'.length) ds ds')], .dead, .dead, .lp .ready .n (jFr h.length s t s' t') [21] jA jB, resB dotR true (mrgD (ds.length + ds'.length) ds ds')]) := by
 refine FnAt.run (by kernel_rfl) (T := ⟨[⟨116, leastT h s t s' t', fun _ => []⟩], [⟨h.length + 6, joinT h s t s' t', fun _ => []⟩]⟩) ⟨⟨leastT_spec h s t s' t', trivial⟩, ⟨joinT_spec h s t s' t', trivial⟩⟩ Tryz.func115 sw115 fun _ _ => ?_
 have f1 := hs.fx os (sz := 1) rfl
 have f2 := pt.rd.fx pt.ok (sz := 2) rfl
 have f3 := hs'.fx os' (sz := 1) rfl
 have f4 := pt'.rd.fx pt'.ok (sz := 2) rfl
 unfold w115
 simp only [rep_0, rep_s, walkW, walkX, if_true, if_false, reduceIte, Nat.reduceAdd, Nat.reduceSub, Nat.reduceLeDiff, Nat.reduceEqDiff, Nat.reduceMul, Nat.reduceLT, Int.reduceLT, Int.reduceLE, Int.reduceEq]
 refine W_loopS (S := AV × AV × Dots × Dots × Dots) (fun x => x.2.2.1.length + x.2.2.2.1.length) (fun _ => [.y (h.length + 6), .p (h.length + 4) 0, .p (h.length + 5) 0] ++ tp 1 ++ [.f (.func 116) [] [.p (h.length + 4) 0, .p (h.length + 5) 0]] ++ tp 12) (fun x => jH h s t s' t' x.1 x.2.1 x.2.2.2.2)
  (fun x => Prt h x.1 x.2.2.1 ∧ Prt h x.2.1 x.2.2.2.1 ∧ x.2.2.2.2 ++ mrgD (x.2.2.1.length + x.2.2.2.1.length) x.2.2.1 x.2.2.2.1 = mrgD (ds.length + ds'.length) ds ds' ∧ x.2.2.1.length + x.2.2.2.1.length + x.2.2.2.2.length ≤ 20000) (t, t', ds, ds', []) ⟨pt, pt', rfl, by simp only [List.length_nil]; omega⟩ ?_ fun x hx => ?_
 ·have e : jH h s t s' t' t t' [] = h ++ [.blk false true [s, t], .blk false true [s', t'], .blk false true [.ns, .ns], .blk false true [.ns], .blk false true [t], .blk false true [t'], .lp .ready .n (jFr h.length s t s' t') [21] jA jB] ++ List.replicate 1 .dead := by
   rw [List.append_assoc]
   rfl
  rw [e]
  refine Bt.trans (Bt.wk ?_) (Bt.pad _ _ 1)
  simp only [walkW, walkX, if_true, if_false, reduceIte, Nat.reduceAdd, Nat.reduceSub, Nat.reduceLeDiff, Nat.reduceEqDiff, Nat.reduceMul, Nat.reduceLT, Int.reduceLT, Int.reduceLE, Int.reduceEq]
 ·obtain ⟨sa, sb, la, lb, l⟩ := x
  obtain ⟨pa, pb, hM, hlen⟩ := hx
  dsimp only at pa pb hM hlen ⊢
  have f5 := pa.rd.fx pa.ok (sz := 2) rfl
  have f6 := pb.rd.fx pb.ok (sz := 2) rfl
  have ew : IntKind.i64.wrap ((la.length : Int) + (lb.length : Int)) = (la.length : Int) + (lb.length : Int) := wrap_in (by unfold In64; omega)
  by_cases hn : la.length + lb.length = 0
  ·have hg : ((0 : Int) < (la.length : Int) + (lb.length : Int)) = False := eq_false (by omega)
   simp only [jL, jFr, jA, jB, walkW, walkX, if_true, if_false, reduceIte, Nat.reduceAdd, Nat.reduceSub, Nat.reduceLeDiff, Nat.reduceEqDiff, Nat.reduceMul, Nat.reduceLT, Int.reduceLT, Int.reduceLE, Int.reduceEq, f1, f2, f3, f4, f5, f6, ew, hg, false_implies]
   have hl0 : l = mrgD (ds.length + ds'.length) ds ds' := by rw [← hM, mrgD_nil la lb hn, List.append_nil]
   rw [← hl0]
   have l1 := Bt.less (P := Tryz.prog) (p := h.length + 7) (fr := [.tu []]) (h := jH h s t s' t' sa sb l) (i := h.length + 4) (B := .blk false true [sa]) (B' := .dead) (by rw [own_at]; rfl) (fun _ _ _ _ _ _ => trivial) (fun q => by cases q) (fun q => by cases q)
   have l2 := Bt.less (P := Tryz.prog) (p := h.length + 7) (fr := [.tu []]) (h := (jH h s t s' t' sa sb l).set (h.length + 4) .dead) (i := h.length + 5) (B := .blk false true [sb]) (B' := .dead) (by rw [set_own, own_at]; rfl) (fun _ _ _ _ _ _ => trivial) (fun q => by cases q) (fun q => by cases q)
   have l3 := l1.trans l2
   rw [set_own, set_own] at l3
   exact l3
  ·have hg : ((0 : Int) < (la.length : Int) + (lb.length : Int)) = True := eq_true (by omega)
   have hleast := least_at h hz hh hs pt.rd hs' pt'.rd os pt.ok os' pt'.ok pa pb l hn
   have gl : l.length ≤ 1000000 := by omega
   have w1 : ∀ sel, Wk (s.ren (selN h.length sel)) s = True := fun sel => eq_true (Wk.ren (fun i hi => selN_old hi) os)
   have w2 : ∀ sel, Wk (t.ren (selN h.length sel)) t = True := fun sel => eq_true (Wk.ren (fun i hi => selN_old hi) pt.ok)
   have w3 : ∀ sel, Wk (s'.ren (selN h.length sel)) s' = True := fun sel => eq_true (Wk.ren (fun i hi => selN_old hi) os')
   have w4 : ∀ sel, Wk (t'.ren (selN h.length sel)) t' = True := fun sel => eq_true (Wk.ren (fun i hi => selN_old hi) pt'.ok)
   have w5 : ∀ sel, Wk (.ag [s.ren (selN h.length sel), t.ren (selN h.length sel)]) (.ag [s, t]) = True := fun sel => eq_true (Wk_ag ⟨of_eq_true (w1 sel), of_eq_true (w2 sel), trivial⟩)
   have w6 : ∀ sel, Wk (.ag [s'.ren (selN h.length sel), t'.ren (selN h.length sel)]) (.ag [s', t']) = True := fun sel => eq_true (Wk_ag ⟨of_eq_true (w3 sel), of_eq_true (w4 sel), trivial⟩)
   by_cases hc : takeB la lb
   ·obtain ⟨hb, hm⟩ := mrgD_b la lb hn hc
    rw [if_pos hc] at hleast
    obtain ⟨sb0, pb0, fa⟩ := hleast
    obtain ⟨x, e1, e2⟩ := leastT_eq pa pb ⟨(_, _), by unfold leastR; rw [if_pos hc]; exact ⟨sb0, pb0, rfl⟩, fa⟩
    unfold leastR at e2
    rw [if_pos hc] at e2
    obtain ⟨sb', pb', rfl⟩ := e2
    have w7 : ∀ sel, Wk (sa.ren (selN h.length sel)) sa = True := fun sel => eq_true (Wk.ren (fun i hi => selN_old hi) pa.ok)
    have w8 : ∀ sel, Wk (sb'.ren (selN h.length sel)) sb' = True := fun sel => eq_true (Wk.ren (fun i hi => selN_old hi) pb'.ok)
    have f7 := pb'.rd.fx pb'.ok (sz := 2) rfl
    have e3 := joinT_eq h s t s' t' sa sb' l (lb.getD 0 dotR.d).1 (lb.getD 0 dotR.d).2 gl
    simp only [dotR_f] at e1
    simp only [jL, jFr, jA, jB, walkW, walkX, if_true, if_false, reduceIte, Nat.reduceAdd, Nat.reduceSub, Nat.reduceLeDiff, Nat.reduceEqDiff, Nat.reduceMul, Nat.reduceLT, Int.reduceLT, Int.reduceLE, Int.reduceEq, f1, f2, f3, f4, f5, f6, ew, hg, false_implies, e1, e3]
    refine ⟨(sa, sb', la, lb.drop 1, l ++ [lb.getD 0 dotR.d]), ⟨pa, pb', ?_, ?_⟩, ?_, ?_⟩
    ·dsimp only
     rw [← hM, hm, List.append_assoc]
     rfl
    ·dsimp only
     rw [List.length_append, List.length_drop, List.length_singleton]
     omega
    ·dsimp only
     rw [List.length_drop]
     omega
    ·dsimp only
     simp only [joinR, jH, jL, jFr, jA, jB, apS_snoc, resB_snoc, lapp_cons, lapp_nil]
     refine Bt.selL 7 [0, 1, 2, 3, 4, 5, 6, 10] hh (by decide) (by decide) (by decide) (by decide) ?_ ?_
     ·simp only [walkS, FrSel, BlkSel, AV.ren, renL, AV.ok, okL, Option.some.injEq, exists_eq_left', List.length_cons, List.length_nil, Nat.reduceAdd, Nat.reduceLT, reduceCtorEq, implies_true, exists_eq', f1, f2, f3, f4, f5, f6, f7, w1, w2, w3, w4, w5, w6, w7, w8]
     ·simp only [walkS, FrSel, BlkSel, AV.ren, renL, AV.ok, okL, Option.some.injEq, exists_eq_left', List.length_cons, List.length_nil, Nat.reduceAdd, Nat.reduceLT, reduceCtorEq, implies_true, exists_eq', f1, f2, f3, f4, f5, f6, f7, w1, w2, w3, w4, w5, w6, w7, w8]
   ·obtain ⟨ha, hm⟩ := mrgD_a la lb hn hc
    rw [if_neg hc] at hleast
    obtain ⟨sa0, pa0, fa⟩ := hleast
    obtain ⟨x, e1, e2⟩ := leastT_eq pa pb ⟨(_, _), by unfold leastR; rw [if_neg hc]; exact ⟨sa0, pa0, rfl⟩, fa⟩
    unfold leastR at e2
    rw [if_neg hc] at e2
    obtain ⟨sa', pa', rfl⟩ := e2
    have w7 : ∀ sel, Wk (sa'.ren (selN h.length sel)) sa' = True := fun sel => eq_true (Wk.ren (fun i hi => selN_old hi) pa'.ok)
    have w8 : ∀ sel, Wk (sb.ren (selN h.length sel)) sb = True := fun sel => eq_true (Wk.ren (fun i hi => selN_old hi) pb.ok)
    have f7 := pa'.rd.fx pa'.ok (sz := 2) rfl
    have e3 := joinT_eq h s t s' t' sa' sb l (la.getD 0 dotR.d).1 (la.getD 0 dotR.d).2 gl
    simp only [dotR_f] at e1
    simp only [jL, jFr, jA, jB, walkW, walkX, if_true, if_false, reduceIte, Nat.reduceAdd, Nat.reduceSub, Nat.reduceLeDiff, Nat.reduceEqDiff, Nat.reduceMul, Nat.reduceLT, Int.reduceLT, Int.reduceLE, Int.reduceEq, f1, f2, f3, f4, f5, f6, ew, hg, false_implies, e1, e3]
    refine ⟨(sa', sb, la.drop 1, lb, l ++ [la.getD 0 dotR.d]), ⟨pa', pb, ?_, ?_⟩, ?_, ?_⟩
    ·dsimp only
     rw [← hM, hm, List.append_assoc]
     rfl
    ·dsimp only
     rw [List.length_append, List.length_drop, List.length_singleton]
     omega
    ·dsimp only
     rw [List.length_drop]
     omega
    ·dsimp only
     simp only [joinR, jH, jL, jFr, jA, jB, apS_snoc, resB_snoc, lapp_cons, lapp_nil]
     refine Bt.selL 7 [0, 1, 2, 3, 4, 5, 6, 10] hh (by decide) (by decide) (by decide) (by decide) ?_ ?_
     ·simp only [walkS, FrSel, BlkSel, AV.ren, renL, AV.ok, okL, Option.some.injEq, exists_eq_left', List.length_cons, List.length_nil, Nat.reduceAdd, Nat.reduceLT, reduceCtorEq, implies_true, exists_eq', f1, f2, f3, f4, f5, f6, f7, w1, w2, w3, w4, w5, w6, w7, w8]
     ·simp only [walkS, FrSel, BlkSel, AV.ren, renL, AV.ok, okL, Option.some.injEq, exists_eq_left', List.length_cons, List.length_nil, Nat.reduceAdd, Nat.reduceLT, reduceCtorEq, implies_true, exists_eq', f1, f2, f3, f4, f5, f6, f7, w1, w2, w3, w4, w5, w6, w7, w8]
end Go.Proofs.YtcncpbcbedfakaaGreat
end
section
namespace Go.Proofs.YtcncpbcbedfakaaGreat
set_option maxRecDepth 100000
set_option maxHeartbeats 4000000
set_option linter.unusedSimpArgs false
def T_merged : List AV → List AB → Option (AV × List AB)
 | [a, b], h => if a.isSl = true ∧ b.isSl = true then some (.f (.func 115) [] [.p (h.length + 0) 0, .p (h.length + 1) 0], h ++ [.blk false true [a], .blk false true [b]]) else none
 | _, _ => none
theorem merged_spec : Spec Tryz.prog 82 T_merged := by
 intro args h v h' e
 unfold T_merged at e
 split at e
 ·rename_i a b
  split at e
  ·rename_i hs
   cases e
   refine FnAt.c (FnAt.run (by kernel_rfl) (T := ⟨[], []⟩) ⟨trivial, trivial⟩ Tryz.func82 sw82 fun ho hh => ?_)
   unfold w82
   simp only [rep_0, rep_s, walkW, walkX, if_true, if_false, reduceIte, Nat.reduceAdd, Nat.reduceSub, Nat.reduceLeDiff, Nat.reduceEqDiff, Nat.reduceMul, Nat.reduceLT, Int.reduceLT, Int.reduceLE, Int.reduceEq, sl_one hs.1, sl_one hs.2, sl_cells hs.1, sl_cells hs.2]
   exact Bt.eq rfl rfl
  ·cases e
 ·cases e
def ws1 : List AV → List Nat
 | .p id _ :: _ => [id]
 | _ => []
theorem ws1_p (id o : Nat) (l : List AV) : ws1 (.p id o :: l) = [id] := _root_.id rfl
def joinO (v v' : List Int) (ds ds' : Dots) : List Int × Dots := fmO (joinL v v' 16) (ds ++ ds')
noncomputable def T_cJoinA : List AV → List AB → Option (AV × List AB)
 | [.ag [s, t], .ag [s', t']], h => (getS intR h s).bind fun v => (getS dotR h t).bind fun ds => (getS intR h s').bind fun v' => (getS dotR h t').bind fun ds' =>
   if t.capOk = true ∧ t'.capOk = true then
    if checkR v ds ≠ 0 then some (.tu [.ag [.ns, .ns], .i .i64 (checkR v ds)], h)
    else if checkR v' ds' ≠ 0 then some (.tu [.ag [.ns, .ns], .i .i64 (checkR v' ds')], h)
    else if (joinO v v' ds ds').2.length ≤ 4096 then some (.tu [.ag [rsl intR h.length (joinO v v' ds ds').1, apS dotR (h.length + 1) (joinO v v' ds ds').2], .i .i64 0], h ++ [resB intR true (joinO v v' ds ds').1, resB dotR true (joinO v v' ds ds').2])
    else some (.tu [.ag [.ns, .ns], .i .i64 10], h)
   else none
 | _, _ => none
theorem cJoinA_spec : Spec Tryz.prog 48 T_cJoinA := by
 intro args h v h' e
 unfold T_cJoinA at e
 split at e
 ·rename_i s t s' t'
  obtain ⟨vs, hs, e⟩ := getS_bind e
  obtain ⟨ds, ht, e⟩ := getS_bind e
  obtain ⟨vs', hs', e⟩ := getS_bind e
  obtain ⟨ds', ht', e⟩ := getS_bind e
  split at e
  ·rename_i hcap
   by_cases hq : checkR vs ds = 0 ∧ checkR vs' ds' = 0
   ·obtain ⟨c1, c2⟩ := hq
    obtain ⟨a1, a2, a3⟩ := check_fm c1
    obtain ⟨b1, b2, b3⟩ := check_fm c2
    obtain ⟨j1, j2⟩ := join_bld c1 c2
    rw [if_neg (not_not_intro c1), if_neg (not_not_intro c2)] at e
    have cb : (if checkR vs ds = 0 then checkR vs' ds' else checkR vs ds) = 0 := by rw [if_pos c1]; exact c2
    have main : ∀ h : List AB, h.map AB.freeze = h → Rd intR h s vs → Rd dotR h t ds → Rd intR h s' vs' → Rd dotR h t' ds' → ∀ x : AV × List AB, (if (joinO vs vs' ds ds').2.length ≤ 4096 then x = (.tu [.ag [rsl intR h.length (joinO vs vs' ds ds').1, apS dotR (h.length + 1) (joinO vs vs' ds ds').2], .i .i64 0], h ++ [resB intR true (joinO vs vs' ds ds').1, resB dotR true (joinO vs vs' ds ds').2]) else x = (.tu [.ag [.ns, .ns], .i .i64 10], h)) → FnAt Tryz.prog 48 [.ag [s, t], .ag [s', t']] h x.1 x.2 := by
     intro h hz hs ht hs' ht' x hx
     refine FnAt.run (by kernel_rfl) (T := ⟨[⟨76, T_cboth checkR, fun _ => []⟩, ⟨82, T_merged, fun _ => []⟩, ⟨83, T_first, ws1⟩, ⟨84, T_dots, ws1⟩, ⟨85, T_trimmed, ws1⟩, ⟨86, T_done, ws1⟩], []⟩) ⟨⟨cboth_spec checkR cCheck_spec, merged_spec, first_spec, dots_spec, trimmed_spec, done_spec, trivial⟩, trivial⟩ Tryz.func48 sw48 fun ho hh => ?_
     simp only [okL_cons, ok_ag, Bool.and_eq_true] at ho
     have f1 := hs.fx ho.1.1 (sz := 1) rfl
     have f2 := ht.fx ho.1.2.1 (sz := 2) rfl
     have f3 := hs'.fx ho.2.1.1 (sz := 1) rfl
     have f4 := ht'.fx ho.2.1.2.1 (sz := 2) rfl
     unfold w48
     simp only [rep_0, rep_s, walkW, walkX, if_true, if_false, reduceIte, Nat.reduceAdd, Nat.reduceSub, Nat.reduceLeDiff, Nat.reduceEqDiff, Nat.reduceMul, Nat.reduceLT, Int.reduceLT, Int.reduceLE, Int.reduceEq, f1, f2, f3, f4, T_cboth, T_merged, cb, ht.isSl, ht'.isSl, false_implies, decide_false]
     refine W_rf rfl (by simp only [walkW, walkX, if_true, if_false, reduceIte, Nat.reduceAdd, Nat.reduceSub, Nat.reduceLeDiff, Nat.reduceEqDiff, Nat.reduceMul, Nat.reduceLT, Int.reduceLT, Int.reduceLE, Int.reduceEq]) rfl (by simp only [walkW, walkX, if_true, if_false, reduceIte, Nat.reduceAdd, Nat.reduceSub, Nat.reduceLeDiff, Nat.reduceEqDiff, Nat.reduceMul, Nat.reduceLT, Int.reduceLT, Int.reduceLE, Int.reduceEq]; rfl) (merged_fold h hz hh hs hs' ⟨ht, hcap.1, ho.1.2.1⟩ ⟨ht', hcap.2, ho.2.1.2.1⟩ ho.1.1 ho.2.1.1 (by omega)) (by rw [own_at]; rfl) (by decide) ?_
     have hM := (mrgD_perm _ ds ds' rfl)
     have lM : (mrgD (ds.length + ds'.length) ds ds').length = ds.length + ds'.length := by rw [hM.length_eq, List.length_append]
     obtain ⟨n1, n2, n3⟩ := ranged_nil a1
     have lW : (vjoin (vjoin [] vs) vs').length ≤ 16 := by rw [vjoin_len]; have := b1.1; omega
     have nW : ∀ n ∈ vjoin (vjoin [] vs) vs', n ≤ 1048576 := fun n hn => by
      simp only [vjoin, jn, List.mem_map, List.mem_range] at hn
      obtain ⟨i, _, rfl⟩ := hn
      have q1 := vAt_le vs' (fun n hn => (b1.2.1 n hn).2) ((i + 1 : Nat) : Int)
      have q2 := vAt_le (vjoin [] vs) n1 ((i + 1 : Nat) : Int)
      simp only [vjoin, jn] at q2
      omega
     have l1 := a1.1
     have l2 := b1.1
     have g0 : (([] : List Int).length ≤ 1000000) = True := eq_true (Nat.zero_le _)
     have g1 : (vs.length ≤ 1000000) = True := eq_true (by omega)
     have g2 : (vs'.length ≤ 1000000) = True := eq_true (by omega)
     have g3 : ((vjoin [] vs).length ≤ 1000000) = True := eq_true (by omega)
     have g4 : ((vjoin [] vs).length ≤ maxLen) = True := eq_true (by unfold maxLen; omega)
     have g5 : ((vjoin (vjoin [] vs) vs').length ≤ maxLen) = True := eq_true (by unfold maxLen; omega)
     have g7 : ((mrgD (ds.length + ds'.length) ds ds').length ≤ maxLen) = True := eq_true (by rw [lM]; unfold maxLen; omega)
     have gc : ((vjoin (vjoin [] vs) vs').length ≤ 100000 ∧ (mrgD (ds.length + ds'.length) ds ds').length ≤ 100000 ∧ (∀ n ∈ vjoin (vjoin [] vs) vs', n ≤ 1048576) ∧ ∀ d ∈ mrgD (ds.length + ds'.length) ds ds', dottedP d) = True :=
      eq_true ⟨by omega, by rw [lM]; omega, nW, fun d hd => (List.mem_append.1 (hM.mem_iff.1 hd)).elim (a1.2.2 d) (b1.2.2 d)⟩
     have hA := absR_len (mrgD (ds.length + ds'.length) ds ds') (vjoin (vjoin [] vs) vs', [])
     have hfm : joinO vs vs' ds ds' = bldO (vjoin (vjoin [] vs) vs') (ds ++ ds') := j1.symm
     unfold bldO at hfm
     rw [← j2] at hfm
     generalize mrgD (ds.length + ds'.length) ds ds' = M at *
     generalize hW0 : vjoin (vjoin [] vs) vs' = W0 at *
     generalize hR : absR (W0, []) M = R at *
     have hfm1 : (joinO vs vs' ds ds').1 = R.1.take (topI R.1 R.1.length) := by rw [hfm]; exact trimV_top _ _ (Nat.le_refl _)
     have hfm2 : (joinO vs vs' ds ds').2 = R.2 := by rw [hfm]
     have htr := trimV_top R.1 R.1.length (Nat.le_refl _)
     have hti := topI_le R.1 R.1.length
     have hlen : (trimV R.1 R.1.length).length = topI R.1 R.1.length := by
      rw [htr, List.length_take]
      omega
     simp only [List.length_nil] at hA
     have gA : (R.1.length ≤ maxLen) = True := eq_true (by unfold maxLen; omega)
     have gB : (R.2.length ≤ maxLen) = True := eq_true (by rw [lM] at hA; unfold maxLen; omega)
     rw [hfm1, hfm2] at hx
     by_cases hq : R.1 = W0
     ·have gq := eq_true hq
      by_cases h6 : R.2.length ≤ 4096
      ·have g6 : ((4096 : Int) < (R.2.length : Int)) = False := eq_false (by omega)
       rw [if_pos h6] at hx
       subst hx
       simp only [walkW, walkD, walkX, if_true, if_false, reduceIte, Nat.reduceAdd, Nat.reduceSub, Nat.reduceLeDiff, Nat.reduceEqDiff, Nat.reduceMul, Nat.reduceLT, Int.reduceLT, Int.reduceLE, Int.reduceEq, CO.tmps, Opd.tmps, optT, Nat.reducePow, Nat.reduceDiv, Nat.reduceMod, f1, f2, f3, f4, T_first, T_dots, T_trimmed, T_done, g0, g1, g2, g3, g4, g5, g7, gc, hW0, hR, gq, gA, gB, g6, HOk_own hh, mask_own hz, boxOf_own, boxL_0, boxL_s, bx2_own, own_at', idOf_rsl, rsl_isSl, apS_isSl, AV.isNs, rsl_capOk, nsSl, cutS_rsl, ws1_p, apS_getP, cutS_one, cutS_cells, cutS_known, cutS_okr]
       rw [hq] at hlen hti ⊢
       rw [hlen]
       refine leaf_cutA (a := 10) (b := 11) hh hti ?_ (fun _ => ?_) (by decide) ?_ ?_ <;> rfl
      ·have g6 : ((4096 : Int) < (R.2.length : Int)) = True := eq_true (by omega)
       rw [if_neg h6] at hx
       subst hx
       simp only [walkW, walkD, walkX, if_true, if_false, reduceIte, Nat.reduceAdd, Nat.reduceSub, Nat.reduceLeDiff, Nat.reduceEqDiff, Nat.reduceMul, Nat.reduceLT, Int.reduceLT, Int.reduceLE, Int.reduceEq, CO.tmps, Opd.tmps, optT, Nat.reducePow, Nat.reduceDiv, Nat.reduceMod, f1, f2, f3, f4, T_first, T_dots, T_trimmed, T_done, g0, g1, g2, g3, g4, g5, g7, gc, hW0, hR, gq, gA, gB, g6, HOk_own hh, mask_own hz, boxOf_own, boxL_0, boxL_s, bx2_own, own_at', idOf_rsl, rsl_isSl, apS_isSl, AV.isNs, rsl_capOk, nsSl, cutS_rsl, ws1_p, apS_getP, cutS_one, cutS_cells, cutS_known, cutS_okr]
       exact Bt.drop _ hh rfl (by simp [AV.ok, okL])
     ·have gq := eq_false hq
      by_cases h6 : R.2.length ≤ 4096
      ·have g6 : ((4096 : Int) < (R.2.length : Int)) = False := eq_false (by omega)
       rw [if_pos h6] at hx
       subst hx
       simp only [walkW, walkD, walkX, if_true, if_false, reduceIte, Nat.reduceAdd, Nat.reduceSub, Nat.reduceLeDiff, Nat.reduceEqDiff, Nat.reduceMul, Nat.reduceLT, Int.reduceLT, Int.reduceLE, Int.reduceEq, CO.tmps, Opd.tmps, optT, Nat.reducePow, Nat.reduceDiv, Nat.reduceMod, f1, f2, f3, f4, T_first, T_dots, T_trimmed, T_done, g0, g1, g2, g3, g4, g5, g7, gc, hW0, hR, gq, gA, gB, g6, HOk_own hh, mask_own hz, boxOf_own, boxL_0, boxL_s, bx2_own, own_at', idOf_rsl, rsl_isSl, apS_isSl, AV.isNs, rsl_capOk, nsSl, cutS_rsl, ws1_p, apS_getP, cutS_one, cutS_cells, cutS_known, cutS_okr]
       rw [hlen]
       refine leaf_cutA (a := 11) (b := 12) hh hti ?_ (fun _ => ?_) (by decide) ?_ ?_ <;> rfl
      ·have g6 : ((4096 : Int) < (R.2.length : Int)) = True := eq_true (by omega)
       rw [if_neg h6] at hx
       subst hx
       simp only [walkW, walkD, walkX, if_true, if_false, reduceIte, Nat.reduceAdd, Nat.reduceSub, Nat.reduceLeDiff, Nat.reduceEqDiff, Nat.reduceMul, Nat.reduceLT, Int.reduceLT, Int.reduceLE, Int.reduceEq, CO.tmps, Opd.tmps, optT, Nat.reducePow, Nat.reduceDiv, Nat.reduceMod, f1, f2, f3, f4, T_first, T_dots, T_trimmed, T_done, g0, g1, g2, g3, g4, g5, g7, gc, hW0, hR, gq, gA, gB, g6, HOk_own hh, mask_own hz, boxOf_own, boxL_0, boxL_s, bx2_own, own_at', idOf_rsl, rsl_isSl, apS_isSl, AV.isNs, rsl_capOk, nsSl, cutS_rsl, ws1_p, apS_getP, cutS_one, cutS_cells, cutS_known, cutS_okr]
       exact Bt.drop _ hh rfl (by simp [AV.ok, okL])
    by_cases h6 : (joinO vs vs' ds ds').2.length ≤ 4096
    ·rw [if_pos h6] at e
     cases e
     refine FnAt.c (FnAt.frz fun hz => ?_)
     rw [show h.length = (h.map AB.freeze).length from (List.length_map _).symm]
     exact main _ hz hs.frz ht.frz hs'.frz ht'.frz (_, _) (by rw [if_pos h6])
    ·rw [if_neg h6] at e
     cases e
     refine FnAt.c (FnAt.frz0 fun hz => ?_)
     exact main _ hz hs.frz ht.frz hs'.frz ht'.frz (_, _) (by rw [if_neg h6])
   ·have hn : (if checkR vs ds = 0 then checkR vs' ds' else checkR vs ds) ≠ 0 := by
     split
     ·rename_i c1
      exact fun c2 => hq ⟨c1, c2⟩
     ·assumption
    have he : v = .tu [.ag [.ns, .ns], .i .i64 (if checkR vs ds = 0 then checkR vs' ds' else checkR vs ds)] ∧ h' = h := by
     by_cases c1 : checkR vs ds = 0
     ·have c2 : checkR vs' ds' ≠ 0 := fun c2 => hq ⟨c1, c2⟩
      rw [if_neg (not_not_intro c1), if_pos c2] at e
      cases e
      rw [if_pos c1]
      exact ⟨rfl, rfl⟩
     ·rw [if_pos c1] at e
      cases e
      rw [if_neg c1]
      exact ⟨rfl, rfl⟩
    obtain ⟨rfl, rfl⟩ := he
    clear e
    refine FnAt.c (FnAt.run (by kernel_rfl) (T := ⟨[⟨76, T_cboth checkR, fun _ => []⟩], []⟩) ⟨⟨cboth_spec checkR cCheck_spec, trivial⟩, trivial⟩ Tryz.func48 sw48 fun ho hh => ?_)
    simp only [okL_cons, ok_ag, Bool.and_eq_true] at ho
    have f1 := hs.fx ho.1.1 (sz := 1) rfl
    have f2 := ht.fx ho.1.2.1 (sz := 2) rfl
    have f3 := hs'.fx ho.2.1.1 (sz := 1) rfl
    have f4 := ht'.fx ho.2.1.2.1 (sz := 2) rfl
    have cb := eq_false hn
    unfold w48
    simp only [rep_0, rep_s, walkW, walkX, if_true, if_false, reduceIte, Nat.reduceAdd, Nat.reduceSub, Nat.reduceLeDiff, Nat.reduceEqDiff, Nat.reduceMul, Nat.reduceLT, Int.reduceLT, Int.reduceLE, Int.reduceEq, f1, f2, f3, f4, T_cboth, cb, false_implies]
    exact Bt.drop _ hh rfl (by simp [AV.ok, okL])
  ·cases e
 ·cases e
noncomputable def T_cJoin : List AV → List AB → Option (AV × List AB)
 | [.ag [s, t], .ag [s', t']], h => (getS intR h s).bind fun v => (getS dotR h t).bind fun ds => (getS intR h s').bind fun v' => (getS dotR h t').bind fun ds' =>
   if t.capOk = true ∧ t'.capOk = true then
    if checkR v ds ≠ 0 then some (.tu [.ag [.ns, .ns], .i .i64 (checkR v ds)], h)
    else if checkR v' ds' ≠ 0 then some (.tu [.ag [.ns, .ns], .i .i64 (checkR v' ds')], h)
    else if (joinO v v' ds ds').2.length ≤ 4096 then some (.tu [.ag [rsl intR h.length (joinO v v' ds ds').1, rsl dotR (h.length + 1) (joinO v v' ds ds').2], .i .i64 0], h ++ [resB intR true (joinO v v' ds ds').1, resB dotR true (joinO v v' ds ds').2])
    else some (.tu [.ag [.ns, .ns], .i .i64 10], h)
   else none
 | _, _ => none
theorem cJoin_spec : Spec Tryz.prog 48 T_cJoin := by
 intro args h v h' e
 unfold T_cJoin at e
 split at e
 ·rename_i s t s' t'
  obtain ⟨vs, hs, e⟩ := getS_bind e
  obtain ⟨ds, ht, e⟩ := getS_bind e
  obtain ⟨vs', hs', e⟩ := getS_bind e
  obtain ⟨ds', ht', e⟩ := getS_bind e
  split at e
  ·rename_i hcap
   have key : ∀ v h', T_cJoinA [.ag [s, t], .ag [s', t']] h = some (v, h') → FnC Tryz.prog 48 [.ag [s, t], .ag [s', t']] h v h' := fun v h' q => cJoinA_spec _ _ _ _ q
   simp only [T_cJoinA, hs.get, ht.get, hs'.get, ht'.get, Option.bind_some] at key
   rw [if_pos hcap] at key
   split at e
   ·rename_i c
    cases e
    exact key _ _ (by rw [if_pos c])
   ·rename_i c
    split at e
    ·rename_i c2
     cases e
     exact key _ _ (by rw [if_neg c, if_pos c2])
    ·rename_i c2
     split at e
     ·rename_i c3
      cases e
      exact (key _ _ (by rw [if_neg c, if_neg c2, if_pos c3])).bt leaf_ap
     ·rename_i c3
      cases e
      exact key _ _ (by rw [if_neg c, if_neg c2, if_neg c3])
  ·cases e
 ·cases e
end Go.Proofs.YtcncpbcbedfakaaGreat
end
section
namespace Go.Proofs.YtcncpbcbedfakaaGreat
theorem chk0 (v : List Int) (ds : Dots) (c : checkR v ds = 0) : rangedP v ds ∧ ds.length ≤ 4096 := ⟨(check_fm c).1, (check_fm c).2.1⟩
theorem max_chk {v : List Int} (p : ∀ n ∈ v, 0 ≤ n) (ds : Dots) (r : Int) : ∀ i, maxC v ds r i = maxR v ds r i
 | 0 => (rAt_vAt p r).symm
 | i + 1 => by
  unfold maxC maxR
  rw [max_chk p ds r i]
theorem next_chk (v : List Int) (ds : Dots) (r : Int) : nextC checkR v ds r = nextR v ds r := by
 unfold nextC nextR
 by_cases c : checkR v ds = 0
 ·rw [if_neg (not_not_intro c), if_neg (not_not_intro c)]
  obtain ⟨h1, _, _⟩ := check_fm c
  rw [max_chk (fun n hn => (h1.2.1 n hn).1)]
  have := maxR_bd v ds h1 r ds.length (Nat.le_refl _)
  by_cases hr : r < 1 ∨ 16 < r
  ·rw [if_pos hr, if_pos hr]
  ·rw [if_neg hr, if_neg hr]
   by_cases hm : maxR v ds r ds.length = 1048576
   ·rw [if_pos (by omega), if_pos hm]
   ·rw [if_neg (by omega), if_neg hm]
 ·rw [if_pos c, if_pos c]
theorem Has_spec : Spec Tryz.prog 39 T_rHas := by
 intro args h v h' e
 unfold T_rHas at e
 split at e
 ·rename_i s t a b
  refine cHas_spec checkR chk0 cCheck_spec _ h v h' ?_
  simp only [T_cHas]
  rw [← e]
  congr 1
  funext v
  congr 1
  funext ds
  rw [decide_eq_decide.2 (and_congr_right fun c => has_chk c (a, b))]
 ·cases e
theorem Next_spec : Spec Tryz.prog 41 T_rNext := by
 intro args h v h' e
 unfold T_rNext at e
 split at e
 ·refine cNext_spec checkR cCheck_spec _ h v h' ?_
  simp only [T_cNext, next_chk]
  exact e
 ·cases e
end Go.Proofs.YtcncpbcbedfakaaGreat
end
section
namespace Go.Proofs.YtcncpbcbedfakaaGreat
set_option maxRecDepth 100000
set_option maxHeartbeats 4000000
set_option linter.unusedSimpArgs false
noncomputable def T_pahead : List AV → List AB → Option (AV × List AB)
 | [a, b], h => (getH a).bind fun x => (getH b).bind fun y => some (.i .i64 (cmpD x.1 y.1), h)
 | _, _ => none
theorem pahead_spec : Spec Tryz.prog 50 T_pahead := by
 intro args h v h' e
 unfold T_pahead at e
 split at e
 ·rename_i a b
  obtain ⟨x, hx, e2⟩ := getH_bind e
  obtain ⟨y, hy, e3⟩ := getH_bind e2
  clear e e2
  subst hx hy
  cases e3
  refine FnAt.c (FnAt.frz0 fun hz => ?_)
  generalize h.map AB.freeze = h at *
  refine FnAt.run (by kernel_rfl) (T := ⟨[⟨90, T_Compare, fun _ => []⟩, ⟨89, T_Or, fun _ => []⟩], []⟩) ⟨⟨Compare_spec, Or_spec, trivial⟩, trivial⟩ Tryz.func50 sw50 fun ho hh => ?_
  unfold w50
  have k0 : ∀ z : Hd, (heldR.f z)[0]? = some (.i .i64 z.1.1) := fun _ => rfl
  have k1 : ∀ z : Hd, (heldR.f z)[1]? = some (.i .i64 z.1.2) := fun _ => rfl
  simp only [rep_0, rep_s, walkW, walkQ, walkX, if_true, if_false, ↓reduceIte, Nat.reduceAdd, Nat.reduceSub, Nat.reduceLeDiff, Nat.reduceEqDiff, Nat.reduceMul, Nat.reduceLT, Int.reduceLT, Int.reduceLE, Int.reduceEq, CO.tmps, Opd.tmps, optT, Nat.reducePow, Nat.reduceDiv, Nat.reduceMod, T_Compare, T_Or, k0, k1, held_all1, held_len, HOk_own hh, mask_ownC hz, mask_ownQ hz, mask_ownQ0 hz]
  exact Bt.dropI _ hh (by simp only [orI, cmpD]; by_cases h1 : cmpI x.1.1 y.1.1 = 0 <;> by_cases h2 : cmpI x.1.2 y.1.2 = 0 <;> simp [h1, h2])
 ·cases e
noncomputable def T_sameDot : List AV → List AB → Option (AV × List AB)
 | [a, b], h => (getH a).bind fun x => (getH b).bind fun y => some (.b (decide (x.1 = y.1)), h)
 | _, _ => none
theorem sameDot_spec : Spec Tryz.prog 111 T_sameDot := by
 intro args h v h' e
 unfold T_sameDot at e
 split at e
 ·rename_i a b
  obtain ⟨x, hx, e2⟩ := getH_bind e
  obtain ⟨y, hy, e3⟩ := getH_bind e2
  clear e e2
  subst hx hy
  cases e3
  refine FnAt.c (FnAt.run (by kernel_rfl) (T := ⟨[], []⟩) ⟨trivial, trivial⟩ Tryz.func111 sw111 fun ho hh => ?_)
  unfold w111
  have kd : ∀ z : Hd, (heldR.f z).take 2 = [.i .i64 z.1.1, .i .i64 z.1.2] := fun _ => rfl
  simp only [rep_0, rep_s, walkW, walkQ, walkX, if_true, if_false, ↓reduceIte, Nat.reduceAdd, Nat.reduceSub, Nat.reduceLeDiff, Nat.reduceEqDiff, Nat.reduceMul, Nat.reduceLT, Int.reduceLT, Int.reduceLE, Int.reduceEq, CO.tmps, Opd.tmps, optT, Nat.reducePow, Nat.reduceDiv, Nat.reduceMod, kd, held_all1, held_len, eqcG]
  exact Bt.dropB _ hh (decide_eq_decide.2 ⟨fun q => Prod.ext q.1 q.2, fun q => by rw [q]; exact ⟨rfl, rfl⟩⟩)
 ·cases e
end Go.Proofs.YtcncpbcbedfakaaGreat
end
