/- Part 23 of what the laws' proofs rest on. No condition. -/
import Derived.Test.YtcncpbcbedfakaaGreatRn22
set_option linter.all false
section
namespace Go.Proofs.YtcncpbcbedfakaaGreat
set_option maxRecDepth 100000
set_option maxHeartbeats 4000000
set_option linter.unusedSimpArgs false
theorem cmps_full {α : Type} (q : α → α → Prop) [DecidableRel q] : ∀ (l : List α) (p : α), (cmps q p l).length = l.length → (p :: l).Pairwise (fun _ _ => True) ∧ ∀ i (h : i + 1 < (p :: l).length), ¬ q (p :: l)[i + 1] ((p :: l)[i]'(by omega))
 | [], p, _ => ⟨List.pairwise_singleton _ _, fun i h => by simp at h⟩
 | x :: l, p, e => by
  simp only [cmps] at e
  split at e
  ·have := cmps_len q l x
   simp only [List.length_cons] at e
   omega
  ·rename_i hq
   simp only [List.length_cons, Nat.add_right_cancel_iff] at e
   refine ⟨List.pairwise_of_forall (fun _ _ => trivial), fun i h => ?_⟩
   cases i with
   | zero => exact hq
   | succ i => exact (cmps_full q l x e).2 i (by simpa using h)
theorem rising_iff (l : List Hd) : (rswP l 0 ∧ (cpH l).length = l.length) ↔ l.Pairwise lessH := by
 rw [ris_adj_iff lessH_ord]
 have gd : ∀ k (h : k < l.length), l.getD k heldR.d = l[k] := fun k h => by rw [List.getD_eq_getElem?_getD, List.getElem?_eq_getElem h]; rfl
 constructor
 ·rintro ⟨h1, h2⟩ i hi
  have a1 := h1 (i + 1) (Nat.zero_le _) (Nat.succ_pos _) hi
  rw [gd _ hi, Nat.add_sub_cancel, gd i (by omega), cmpD_lt] at a1
  have a2 : ¬ l[i + 1].1 = (l[i]'(by omega)).1 := by
   unfold cpH at h2
   cases l with
   | nil => simp at hi
   | cons a l =>
    simp only [cmpL, List.length_cons, Nat.add_right_cancel_iff] at h2
    exact (cmps_full sdP l a h2).2 i hi
  rcases lessD_tri (l[i]'(by omega)).1 l[i + 1].1 with q | q | q
  ·exact q
  ·exact absurd q.symm a2
  ·exact absurd q a1
 ·intro h
  have hk : ∀ k, 0 < k → k < l.length → lessD (l.getD (k - 1) heldR.d).1 (l.getD k heldR.d).1 := fun k h1 h2 => by
   obtain ⟨j, rfl⟩ : ∃ j, k = j + 1 := ⟨k - 1, by omega⟩
   rw [gd _ h2, Nat.add_sub_cancel, gd j (by omega)]
   exact h j h2
  refine ⟨fun k _ h1 h2 q => ?_, ?_⟩
  ·rw [cmpD_lt] at q
   exact lessD_irrefl _ (lessD_trans q (hk k h1 h2))
  ·have := cmpL_all sdP l heldR.d l.length (Nat.le_refl _) fun k h1 h2 q => by
    have z := hk k h1 h2
    rw [show (l.getD k heldR.d).1 = (l.getD (k - 1) heldR.d).1 from q] at z
    exact lessD_irrefl _ z
   rw [List.take_length] at this
   unfold cpH
   rw [this]
noncomputable instance (l : List Hd) : Decidable (l.Pairwise lessH) := Classical.propDecidable _
noncomputable def T_rising : List AV → List AB → Option (AV × List AB)
 | [s], h => (getS heldR h s).bind fun l => if l.length ≤ 1000000 then some (.b (decide (l.Pairwise lessH)), h) else none
 | _, _ => none
theorem rising_spec : Spec Tryz.prog 71 T_rising := by
 intro args h v h' e
 unfold T_rising at e
 split at e
 ·rename_i s
  obtain ⟨l, hl, e⟩ := getS_bind e
  split at e
  ·rename_i hL
   cases e
   refine FnAt.c (FnAt.run (by kernel_rfl) (T := ⟨[⟨108, T_isS, fun _ => []⟩, ⟨110, T_CloneHelds, fun _ => []⟩, ⟨109, T_cmpH, fun _ => []⟩], []⟩) ⟨⟨isS_spec, CloneHelds_spec, cmpH_spec, trivial⟩, trivial⟩ Tryz.func71 sw71 fun ho hh => ?_)
   simp only [okL_cons, Bool.and_eq_true] at ho
   have f1 := hl.fx ho.1 (sz := 34) rfl
   unfold w71
   have hL' := eq_true hL
   have hm : (l.length ≤ maxLen) = True := eq_true hl.2
   by_cases c : rswP l 0
   ·have c' := eq_true c
    simp only [rep_0, rep_s, walkW, walkX, if_true, if_false, reduceIte, Nat.reduceAdd, Nat.reduceSub, Nat.reduceLeDiff, Nat.reduceEqDiff, Nat.reduceMul, Nat.reduceLT, Int.reduceLT, Int.reduceLE, Int.reduceEq, f1, T_isS, T_CloneHelds, T_cmpH, c', hL', hm, idOf_rsl, rsl_get, own_at', rsl_len]
    exact ⟨Bt.dropB _ hh (decide_eq_decide.2 ⟨fun q => (rising_iff l).1 ⟨c, q⟩, fun q => ((rising_iff l).2 q).2⟩), fun q => q.elim⟩
   ·have c' := eq_false c
    simp only [rep_0, rep_s, walkW, walkX, if_true, if_false, reduceIte, Nat.reduceAdd, Nat.reduceSub, Nat.reduceLeDiff, Nat.reduceEqDiff, Nat.reduceMul, Nat.reduceLT, Int.reduceLT, Int.reduceLE, Int.reduceEq, f1, T_isS, T_CloneHelds, T_cmpH, c', hL']
    refine ⟨fun q => q.elim, ?_⟩
    exact Bt.dropB _ hh (decide_eq_false fun z => c ((rising_iff l).2 z).1).symm
  ·cases e
 ·cases e
theorem checkG_iff {l : List Hd} {v : List Int} {ds : Dots} (c : checkR v ds = 0) : fineP v ds l l.length ↔ l.Pairwise lessH ∧ ¬ ∃ x ∈ l, lostP v ds x := by
 rw [ris_adj_iff lessH_ord]
 have gd : ∀ k (h : k < l.length), l.getD k heldR.d = l[k] := fun k h => by rw [List.getD_eq_getElem?_getD, List.getElem?_eq_getElem h]; rfl
 constructor
 ·intro h
  refine ⟨fun i hi => ?_, ?_⟩
  ·have := (h (i + 1) hi).1 (Nat.succ_pos _)
   rw [gd _ hi, Nat.add_sub_cancel, gd i (by omega)] at this
   exact this
  ·rintro ⟨x, hx, hl⟩
   obtain ⟨i, hi, rfl⟩ := List.getElem_of_mem hx
   have := (h i hi).2
   rw [gd i hi] at this
   exact hl this
 ·rintro ⟨h1, h2⟩ k hk
  refine ⟨fun h0 => ?_, ?_⟩
  ·obtain ⟨j, rfl⟩ : ∃ j, k = j + 1 := ⟨k - 1, by omega⟩
   rw [gd _ hk, Nat.add_sub_cancel, gd j (by omega)]
   exact h1 j hk
  ·rw [gd k hk]
   exact Decidable.not_not.1 fun q => h2 ⟨_, List.getElem_mem hk, q⟩
theorem checkG_rg {l : List Hd} {v : List Int} {ds : Dots} : checkG l v ds = 0 ↔ RG l v ds := by
 constructor
 ·intro h
  obtain ⟨c, f⟩ := checkG_0 h
  obtain ⟨h1, h2⟩ := (checkG_iff c).1 f
  refine ⟨nf_check c, (check_fm c).2.1, h1, fun x hx => ?_⟩
  have : checkR v ds = 0 ∧ rhasP v ds x.1 := Decidable.not_not.1 fun q => h2 ⟨x, hx, q⟩
  exact (rhas_in (nf_check c).rg x.1).1 this.2
 ·intro h
  have c := h.nf.check h.len
  unfold checkG
  rw [if_neg (not_not_intro c), if_pos ((checkG_iff c).2 ⟨h.rise, ?_⟩)]
  rintro ⟨x, hx, hl⟩
  exact hl ⟨c, (rhas_in h.nf.rg x.1).2 (h.sn x hx)⟩
noncomputable def T_pgCheck : List AV → List AB → Option (AV × List AB)
 | [.ag [l, s, t]], h => (getS heldR h l).bind fun hs => (getS intR h s).bind fun v => (getS dotR h t).bind fun ds => if hs.length ≤ 1000000 then some (.i .i64 (checkG hs v ds), h) else none
 | _, _ => none
theorem pgCheck_spec : Spec Tryz.prog 27 T_pgCheck := by
 intro args h v h' e
 unfold T_pgCheck at e
 split at e
 ·rename_i l s t
  obtain ⟨hs, hl, e⟩ := getS_bind e
  obtain ⟨xs, hv, e⟩ := getS_bind e
  obtain ⟨ds, hd, e⟩ := getS_bind e
  split at e
  ·rename_i hL
   cases e
   refine FnAt.c (FnAt.run (by kernel_rfl) (T := ⟨[⟨59, T_chk checkR, fun _ => []⟩, ⟨71, T_rising, fun _ => []⟩, ⟨72, T_CFL, fun _ => []⟩], []⟩) ⟨⟨cCheck_spec, rising_spec, CFL_spec, trivial⟩, trivial⟩ Tryz.func27 sw27 fun ho hh => ?_)
   simp only [okL_cons, ok_ag, Bool.and_eq_true] at ho
   have f1 := hl.fx ho.1.1 (sz := 34) rfl
   have f2 := hv.fx ho.1.2.1 (sz := 1) rfl
   have f3 := hd.fx ho.1.2.2.1 (sz := 2) rfl
   have hL' := eq_true hL
   unfold w27
   by_cases c : checkR xs ds = 0
   case neg =>
    have c' := eq_false c
    have hG : checkG hs xs ds = checkR xs ds := by unfold checkG; rw [if_pos c]
    rw [hG]
    simp only [rep_0, rep_s, walkW, walkX, if_true, if_false, reduceIte, Nat.reduceAdd, Nat.reduceSub, Nat.reduceLeDiff, Nat.reduceEqDiff, Nat.reduceMul, Nat.reduceLT, Int.reduceLT, Int.reduceLE, Int.reduceEq, f1, f2, f3, T_chk, c', not_false_eq_true, not_true_eq_false, decide_true, decide_false, false_implies, true_implies, true_and, and_true]
    exact Bt.dropI _ hh rfl
   have hG : checkG hs xs ds = if hs.Pairwise lessH ∧ ¬ ∃ x ∈ hs, lostP xs ds x then 0 else 2 := by
    unfold checkG
    rw [if_neg (not_not_intro c)]
    by_cases q : fineP xs ds hs hs.length
    ·rw [if_pos q, if_pos ((checkG_iff c).1 q)]
    ·rw [if_neg q, if_neg fun z => q ((checkG_iff c).2 z)]
   rw [hG]
   by_cases c1 : hs.Pairwise lessH
   ·have c1' := eq_true c1
    by_cases c2 : ∃ x ∈ hs, lostP xs ds x
    ·have c2' := eq_true c2
     rw [if_neg fun z => z.2 c2]
     simp only [rep_0, rep_s, walkW, walkX, if_true, if_false, reduceIte, Nat.reduceAdd, Nat.reduceSub, Nat.reduceLeDiff, Nat.reduceEqDiff, Nat.reduceMul, Nat.reduceLT, Int.reduceLT, Int.reduceLE, Int.reduceEq, f1, f2, f3, T_chk, T_rising, T_CFL, rdBlk_app, c, c1', c2', hL', not_false_eq_true, not_true_eq_false, decide_true, decide_false, false_implies, true_implies, true_and, and_true]
     exact Bt.dropI _ hh rfl
    ·have c2' := eq_false c2
     rw [if_pos ⟨c1, c2⟩]
     simp only [rep_0, rep_s, walkW, walkX, if_true, if_false, reduceIte, Nat.reduceAdd, Nat.reduceSub, Nat.reduceLeDiff, Nat.reduceEqDiff, Nat.reduceMul, Nat.reduceLT, Int.reduceLT, Int.reduceLE, Int.reduceEq, f1, f2, f3, T_chk, T_rising, T_CFL, rdBlk_app, c, c1', c2', hL', not_false_eq_true, not_true_eq_false, decide_true, decide_false, false_implies, true_implies, true_and, and_true]
     exact Bt.dropI _ hh rfl
   ·have c1' := eq_false c1
    rw [if_neg fun z => c1 z.1]
    simp only [rep_0, rep_s, walkW, walkX, if_true, if_false, reduceIte, Nat.reduceAdd, Nat.reduceSub, Nat.reduceLeDiff, Nat.reduceEqDiff, Nat.reduceMul, Nat.reduceLT, Int.reduceLT, Int.reduceLE, Int.reduceEq, f1, f2, f3, T_chk, T_rising, T_CFL, rdBlk_app, c, c1', hL', not_false_eq_true, not_true_eq_false, decide_true, decide_false, false_implies, true_implies, true_and, and_true]
    exact Bt.dropI _ hh rfl
  ·cases e
 ·cases e
end Go.Proofs.YtcncpbcbedfakaaGreat
end
section
namespace Go.Proofs.YtcncpbcbedfakaaGreat
set_option maxRecDepth 100000
set_option maxHeartbeats 4000000
set_option linter.unusedSimpArgs false
theorem rdBlk_undead {h : List AB} {id i : Nat} {xs : List AV} (e : rdBlk (h.set id .dead) i = some xs) : rdBlk h i = some xs := by
 unfold rdBlk at e ⊢
 rw [List.getElem?_set] at e
 by_cases q : id = i
 ·rw [if_pos q] at e
  split at e <;> first | (cases e; done) | skip
  rename_i h2
  split at h2 <;> cases h2
 ·rw [if_neg q] at e
  exact e
theorem Rd.undead {α : Type} {r : Row α} {h : List AB} {id : Nat} {s : AV} {l : List α} (e : Rd r (h.set id .dead) s l) : Rd r h s l := by
 refine ⟨?_, e.2⟩
 have e1 := e.1
 cases s with
 | sl i off len cap k =>
  simp only [rdS] at e1 ⊢
  split at e1
  ·rename_i h0
   rw [if_pos h0]
   exact e1
  ·rename_i h0
   rw [if_neg h0]
   obtain ⟨xs, h1, e2⟩ := Option.bind_eq_some_iff.1 e1
   rw [rdBlk_undead h1]
   exact e2
 | ns => exact e1
 | se => exact e1
 | _ => cases e1
def T_unseen : List AV → List AB → Option (AV × List AB)
 | [l, .ag [v, d]], h => if l.isSl = true ∧ v.isSl = true ∧ d.isSl = true then some (.f (.func 81) [] [.p (h.length + 0) 0, .p (h.length + 1) 0], h ++ [.blk false true [l], .blk false true [v, d]]) else none
 | _, _ => none
theorem unseen_spec : Spec Tryz.prog 46 T_unseen := by
 intro args h v h' e
 unfold T_unseen at e
 split at e
 ·rename_i l v d
  split at e
  ·rename_i hs
   cases e
   refine FnAt.c (FnAt.run (by kernel_rfl) (T := ⟨[], []⟩) ⟨trivial, trivial⟩ Tryz.func46 sw46 fun ho hh => ?_)
   unfold w46
   simp only [rep_0, rep_s, walkW, walkX, if_true, if_false, reduceIte, Nat.reduceAdd, Nat.reduceSub, Nat.reduceLeDiff, Nat.reduceEqDiff, Nat.reduceMul, Nat.reduceLT, Int.reduceLT, Int.reduceLE, Int.reduceEq, sl_one hs.1, sl_one hs.2.1, sl_one hs.2.2, sl_cells hs.1]
   exact Bt.eq rfl rfl
  ·cases e
 ·cases e
def qA : CC := (.reg 2 [⟨some 5, none, .new true [.i .i64 0, .i .i64 0, .i .u8 0, .i .u8 0, .i .u8 0, .i .u8 0, .i .u8 0, .i .u8 0, .i .u8 0, .i .u8 0, .i .u8 0, .i .u8 0, .i .u8 0, .i .u8 0, .i .u8 0, .i .u8 0, .i .u8 0, .i .u8 0, .i .u8 0, .i .u8 0, .i .u8 0, .i .u8 0, .i .u8 0, .i .u8 0, .i .u8 0, .i .u8 0, .i .u8 0, .i .u8 0, .i .u8 0, .i .u8 0, .i .u8 0, .i .u8 0, .i .u8 0, .i .u8 0]⟩, ⟨none, none, .st (some 34) (.t 5) (.t 7)⟩])
def qB : CC := (.block 1 (.reg 3 [⟨some 8, none, .ld none (.t 2)⟩, ⟨some 9, none, .ld (some 34) (.t 5)⟩, ⟨some 10, none, .bls true 1 [.i .i64 0, .i .i64 0, .i .u8 0, .i .u8 0, .i .u8 0, .i .u8 0, .i .u8 0, .i .u8 0, .i .u8 0, .i .u8 0, .i .u8 0, .i .u8 0, .i .u8 0, .i .u8 0, .i .u8 0, .i .u8 0, .i .u8 0, .i .u8 0, .i .u8 0, .i .u8 0, .i .u8 0, .i .u8 0, .i .u8 0, .i .u8 0, .i .u8 0, .i .u8 0, .i .u8 0, .i .u8 0, .i .u8 0, .i .u8 0, .i .u8 0, .i .u8 0, .i .u8 0, .i .u8 0] [(0, 34, .t 9)]⟩, ⟨some 11, none, .app false true 34 48 (.t 8) (.t 10)⟩, ⟨none, none, .st none (.t 2) (.t 11)⟩]))
def qFr (p : Nat) (s f : AV) : List AV := [s, f, .p (p + 0) 0, .tu [], .ns, .tu [], f, .tu [], .tu [], .tu [], .tu [], .tu [], .tu []]
def AIn (h : List AB) (s : AV) (l0 : List Hd) (h1 : List AB) : Prop := (s = .ns ∧ l0 = [] ∧ h1 = h) ∨ ∃ id, s = rsl heldR id l0 ∧ l0 ≠ [] ∧ h[id]? = some (resB heldR true l0) ∧ h1 = h.set id .dead
theorem AIn.len {h h1 : List AB} {s : AV} {l0 : List Hd} (a : AIn h s l0 h1) : h1.length = h.length := by
 rcases a with ⟨_, _, rfl⟩ | ⟨id, _, _, _, rfl⟩
 ·rfl
 ·exact List.length_set
def qL (p : Nat) (s f acc : AV) (B : AB) : List AB := [.blk false true [acc], .lp .ready .n (qFr p s f) [7] qA qB, B]
def qR (p : Nat) (s f : AV) (l : List Hd) (x : Hd) : List AB := qL p s f (.sl (p + 6) 0 (l.length + 1) (l.length + 1) (some 34)) .dead ++ [.blk true true (heldR.f x), .blk true true (heldR.f x), .blk true true (heldR.f x), .blk true true (heldR.cells l ++ heldR.f x)]
theorem appW_base {h : List AB} {id : Nat} {l0 : List Hd} (hi : h[id]? = some (resB heldR true l0)) (h0 : l0 ≠ []) (hl : l0.length ≤ 1000000) (L : List AB) (ys : List AV) :
  appW (h ++ L) true 34 48 (rsl heldR id l0) 1 ys = some (.sl (h.length + L.length) 0 (l0.length + 1) (l0.length + 1) (some 34), h.set id .dead ++ (L ++ [.blk true true (heldR.cells l0 ++ ys)])) := by
 have hn : l0.length ≠ 0 := fun q => h0 (List.eq_nil_of_length_eq_zero q)
 have hlt := (List.getElem?_eq_some_iff.1 hi).1
 have hi2 : (h ++ L)[id]? = some (.blk true true (heldR.cells l0)) := by
  rw [List.getElem?_append_left hlt, hi]
  unfold resB
  rw [if_neg hn]
 have hc : (heldR.cells l0).length = l0.length * 34 := heldR.cells_len _
 unfold rsl
 rw [if_neg hn]
 unfold appW
 dsimp only
 rw [if_neg (by decide), if_neg (by omega), hi2]
 simp only [true_and, Nat.zero_add, hc, Nat.le_refl, show (l0.length + 1) * 48 ≤ 140737488355328 by omega, show l0.length + 1 ≤ maxLen by unfold maxLen; omega, if_true, reduceCtorEq, if_false, List.drop_zero, List.length_append, heldR_sz]
 rw [if_pos (by decide), List.set_append_left _ _ hlt, List.append_assoc]
theorem q_first {h h1 : List AB} {s f : AV} {l0 : List Hd} (a : AIn h s l0 h1) (x : Hd) (hl : l0.length ≤ 1000000) :
  RdAt' Tryz.prog (h.length + 1) [.ag (heldR.f x)] (h ++ (qL h.length s f s .dead ++ [.blk true true (heldR.f x)])) (.b true) (h1 ++ qR h.length s f l0 x) := by
 refine RdAt'.run (by kernel_rfl) (T := ⟨[], []⟩) ⟨trivial, trivial⟩ (by rw [own_at]; rfl) rfl ?_
 have ln := a.len
 have fs : ∀ L k o v, stV (h1 ++ L) none (.p (h.length + k) o) v = if v.one = true then (ownW L k o [v]).map (h1 ++ ·) else none := fun L k o v => by rw [← ln]; exact st_own L k o v
 have key : ∀ (L : List AB) (k : Nat), (h1 ++ L)[h.length + k]? = L[k]? := fun L k => by rw [← ln]; exact own_at L k
 have kset : ∀ (L : List AB) (k : Nat) (B : AB), (h1 ++ L).set (h.length + k) B = h1 ++ L.set k B := fun L k B => by rw [← ln]; exact set_own L k B
 have z3 : (1 * 48 ≤ 140737488355328 ∧ 1 ≤ maxLen) = True := eq_true ⟨by decide, by unfold maxLen; omega⟩
 simp only [qFr, setPs, qA, qL, walkW, walkX, if_true, if_false, reduceIte, Nat.reduceAdd, Nat.reduceSub, Nat.reduceLeDiff, Nat.reduceEqDiff, Nat.reduceMul, Nat.reduceLT, Int.reduceLT, Int.reduceLE, Int.reduceEq, held_all1, held_len, held_take, over_at, List.length_cons, List.length_nil]
 refine ⟨_, _, _, _, _, by rw [own_at]; rfl, ?_⟩
 rcases a with ⟨rfl, rfl, rfl⟩ | ⟨id, rfl, h0, hi, rfl⟩
 ·simp only [qB, walkW, walkX, if_true, if_false, reduceIte, Nat.reduceAdd, Nat.reduceSub, Nat.reduceLeDiff, Nat.reduceEqDiff, Nat.reduceMul, Nat.reduceLT, Int.reduceLT, Int.reduceLE, Int.reduceEq, held_all1, held_len, held_take, over_at, List.length_cons, List.length_nil, z3]
  exact ⟨by unfold maxLen; omega, _, _, _, _, _, _, by rw [key]; rfl, rfl, by unfold rdEnd; dsimp only; rw [kset]; rfl⟩
 ·have fa := appW_base hi h0 hl
  simp only [qB, walkW, walkX, if_true, if_false, reduceIte, Nat.reduceAdd, Nat.reduceSub, Nat.reduceLeDiff, Nat.reduceEqDiff, Nat.reduceMul, Nat.reduceLT, Int.reduceLT, Int.reduceLE, Int.reduceEq, held_all1, held_len, held_take, over_at, List.length_cons, List.length_nil, fa, fs]
  exact ⟨_, _, _, _, _, _, by rw [key]; rfl, rfl, by unfold rdEnd; dsimp only; rw [kset]; rfl⟩
theorem q_next {h : List AB} {s f : AV} {l : List Hd} (h0 : l ≠ []) (x : Hd) (hl : l.length ≤ 1000000) :
  RdAt' Tryz.prog (h.length + 1) [.ag (heldR.f x)] (h ++ (qL h.length s f (apS heldR (h.length + 2) l) (resB heldR true l) ++ [.blk true true (heldR.f x)])) (.b true) (h ++ qR h.length s f l x) := by
 refine RdAt'.run (by kernel_rfl) (T := ⟨[], []⟩) ⟨trivial, trivial⟩ (by rw [own_at]; rfl) rfl ?_
 have hn : l.length ≠ 0 := fun q => h0 (List.eq_nil_of_length_eq_zero q)
 have gr : ∀ id, apS heldR id l = rsl heldR id l := fun id => apS_rsl _ hn
 have fa := fun L k ys hb => appW_rslP (h := h) (p := h.length) rfl (r := heldR) (sz := 34) rfl L k l 48 1 ys hn hb (by decide) (by omega) (by unfold maxLen; omega)
 simp only [gr, qFr, setPs, qA, qL, walkW, walkX, if_true, if_false, reduceIte, Nat.reduceAdd, Nat.reduceSub, Nat.reduceLeDiff, Nat.reduceEqDiff, Nat.reduceMul, Nat.reduceLT, Int.reduceLT, Int.reduceLE, Int.reduceEq, held_all1, held_len, held_take, over_at, List.length_cons, List.length_nil]
 refine ⟨_, _, _, _, _, by rw [own_at]; rfl, ?_⟩
 simp only [qB, walkW, walkX, if_true, if_false, reduceIte, Nat.reduceAdd, Nat.reduceSub, Nat.reduceLeDiff, Nat.reduceEqDiff, Nat.reduceMul, Nat.reduceLT, Int.reduceLT, Int.reduceLE, Int.reduceEq, held_all1, held_len, held_take, over_at, List.length_cons, List.length_nil, fa]
 exact ⟨_, _, _, _, _, _, by rw [own_at]; rfl, rfl, by unfold rdEnd; dsimp only; rw [set_own]; rfl⟩
def qQ (h h1 : List AB) (s f : AV) (l0 : List Hd) (x : Hd) (hh r : List AB) : Prop :=
 (hh = h ++ (qL h.length s f s .dead ++ [.blk true true (heldR.f x)]) ∧ r = h1 ++ qR h.length s f l0 x) ∨
 ∃ l, l ≠ [] ∧ l.length ≤ 1000000 ∧ hh = h1 ++ (qL h.length s f (apS heldR (h.length + 2) l) (resB heldR true l) ++ [.blk true true (heldR.f x)]) ∧ r = h1 ++ qR h.length s f l x
open Classical in
noncomputable def qT (h h1 : List AB) (s f : AV) (l0 : List Hd) : List AV → List AB → Option (AV × List AB)
 | [a], hh => (getH a).bind fun x => if c : ∃ r, qQ h h1 s f l0 x hh r then some (.b true, c.choose) else none
 | _, _ => none
theorem resB_ne {l : List Hd} (h0 : l ≠ []) : resB heldR true l ≠ .dead := by
 unfold resB
 rw [if_neg fun q => h0 (List.eq_nil_of_length_eq_zero q)]
 exact fun q => by cases q
theorem qT_first {h h1 : List AB} {s f : AV} {l0 : List Hd} (a : AIn h s l0 h1) (x : Hd) : qT h h1 s f l0 [.ag (heldR.f x)] (h ++ (qL h.length s f s .dead ++ [.blk true true (heldR.f x)])) = some (.b true, h1 ++ qR h.length s f l0 x) := by
 have hc : ∃ r, qQ h h1 s f l0 x (h ++ (qL h.length s f s .dead ++ [.blk true true (heldR.f x)])) r := ⟨_, .inl ⟨rfl, rfl⟩⟩
 simp only [qT, getH_f, Option.bind_some]
 rw [dif_pos hc]
 rcases hc.choose_spec with ⟨_, e⟩ | ⟨l, h0, _, e, _⟩
 ·rw [e]
 ·have := (List.append_inj e a.len.symm).2
  simp only [qL, List.cons_append, List.nil_append, List.cons.injEq] at this
  exact absurd this.2.2.1.symm (resB_ne h0)
theorem qT_next {h h1 : List AB} {s f : AV} {l0 : List Hd} (a : AIn h s l0 h1) (x : Hd) {l : List Hd} (h0 : l ≠ []) (hl : l.length ≤ 1000000) : qT h h1 s f l0 [.ag (heldR.f x)] (h1 ++ (qL h.length s f (apS heldR (h.length + 2) l) (resB heldR true l) ++ [.blk true true (heldR.f x)])) = some (.b true, h1 ++ qR h.length s f l x) := by
 have hc : ∃ r, qQ h h1 s f l0 x (h1 ++ (qL h.length s f (apS heldR (h.length + 2) l) (resB heldR true l) ++ [.blk true true (heldR.f x)])) r := ⟨_, .inr ⟨l, h0, hl, rfl, rfl⟩⟩
 simp only [qT, getH_f, Option.bind_some]
 rw [dif_pos hc]
 rcases hc.choose_spec with ⟨e, _⟩ | ⟨l', h0', _, e, e2⟩
 ·have := (List.append_inj e a.len).2
  simp only [qL, List.cons_append, List.nil_append, List.cons.injEq] at this
  exact absurd this.2.2.1 (resB_ne h0)
 ·rw [e2]
  have := List.append_cancel_left e
  simp only [qL, List.cons_append, List.nil_append, List.cons.injEq, AB.blk.injEq, true_and, and_true] at this
  rw [apS_inj this.1 this.2]
theorem qT_spec {h h1 : List AB} {s f : AV} {l0 : List Hd} (a : AIn h s l0 h1) (hl : l0.length ≤ 1000000) : SpecR Tryz.prog (h.length + 1) (qT h h1 s f l0) := by
 intro args hh v h' e
 unfold qT at e
 split at e
 ·obtain ⟨x, hx, e2⟩ := getH_bind e
  clear e
  subst hx
  split at e2
  ·rename_i hc
   cases e2
   rcases hc.choose_spec with ⟨e1, e2⟩ | ⟨l, h0, h2, e1, e2⟩
   ·rw [e2, e1]
    exact q_first a x hl
   ·rw [e2, e1]
    have := q_next (h := h1) (s := s) (f := f) h0 x h2
    rw [a.len] at this
    exact this
  ·cases e2
 ·cases e
theorem AIn.hok {h h1 : List AB} {s : AV} {l0 : List Hd} (a : AIn h s l0 h1) (hh : HOk h) : HOk h1 := by
 rcases a with ⟨_, _, rfl⟩ | ⟨id, _, _, _, rfl⟩
 ·exact hh
 ·exact HOk_dead hh id
theorem AIn.rd {h h1 : List AB} {s : AV} {l0 : List Hd} (a : AIn h s l0 h1) {α : Type} {r : Row α} {t : AV} {l : List α} (e : Rd r h1 t l) : Rd r h t l := by
 rcases a with ⟨_, _, rfl⟩ | ⟨id, _, _, _, rfl⟩
 ·exact e
 ·exact e.undead
theorem AIn.rb {h h1 : List AB} {s : AV} {l0 : List Hd} (a : AIn h s l0 h1) {i : Nat} {xs : List AV} (e : rdBlk h1 i = some xs) : rdBlk h i = some xs := by
 rcases a with ⟨_, _, rfl⟩ | ⟨id, _, _, _, rfl⟩
 ·exact e
 ·exact rdBlk_undead e
def qH (h h1 : List AB) (s f : AV) (l0 : List Hd) (o : List Hd) : List AB := if o = [] then h ++ qL h.length s f s .dead else h1 ++ qL h.length s f (apS heldR (h.length + 2) (l0 ++ o)) (resB heldR true (l0 ++ o))
theorem unseen_fold {h h1 : List AB} {s : AV} {l0 : List Hd} (a : AIn h s l0 h1) (hh : HOk h) {i1 i2 : Nat} {l v d : AV} {hs : List Hd} {vs : List Int} {ds : Dots} (b1 : rdBlk h1 i1 = some [l]) (b2 : rdBlk h1 i2 = some [v, d]) (hl : Rd heldR h1 l hs) (hv : Rd intR h1 v vs) (hd : Rd dotR h1 d ds)
  (ol : l.ok (fun i => decide (i < h.length)) = true) (os : s.ok (fun i => decide (i < h.length)) = true) (hL : hs.length ≤ 100000) (hL0 : l0.length ≤ 100000) (f : AV) (of : f.ok (fun i => decide (i < h.length)) = true) :
  FnAt Tryz.prog 81 [.y (h.length + 1), .p i1 0, .p i2 0] (h ++ [.blk false true [s], .lp .ready .n (qFr h.length s f) [7] qA qB]) (.tu []) (qH h h1 s f l0 (outL vs ds hs)) := by
 refine FnAt.run (by kernel_rfl) (T := ⟨[⟨39, T_rHas, fun _ => []⟩], [⟨h.length + 1, qT h h1 s f l0, fun _ => []⟩]⟩) ⟨⟨Has_spec, trivial⟩, ⟨qT_spec a (by omega), trivial⟩⟩ Tryz.func81 sw81 fun _ _ => ?_
 have ln := a.len
 have f1 := rdBlk_fx (a.rb b1)
 have f2 := rdBlk_fx (a.rb b2)
 have g1 := (rdBlk_fx b1).2.1
 have g2 := (rdBlk_fx b2).2.2.1
 have fl := (a.rd hl).fx ol (sz := 34) rfl
 have ol1 : l.ok (fun i => decide (i < h1.length)) = true := by rw [ln]; exact ol
 have gl := hl.fx ol1 (sz := 34) rfl
 have k1 : ∀ x, getS intR (h ++ x) v = some vs := fun x => ((a.rd hv).app x).get
 have k2 : ∀ x, getS dotR (h ++ x) d = some ds := fun x => ((a.rd hd).app x).get
 have k3 : ∀ x, getS intR (h1 ++ x) v = some vs := fun x => (hv.app x).get
 have k4 : ∀ x, getS dotR (h1 ++ x) d = some ds := fun x => (hd.app x).get
 have e1i : i1 < h.length := rdBlk_lt (a.rb b1)
 have e2i : i2 < h.length := rdBlk_lt (a.rb b2)
 have up : ∀ (t : AV), t.ok (fun i => decide (i < h.length)) = true → ∀ c, t.ok (fun i => decide (i < h.length + c)) = true := fun t ht c => AV.ok_mono (fun i q => by simp only [decide_eq_true_eq] at q ⊢; omega) t ht
 have rn : ∀ (t : AV), t.ok (fun i => decide (i < h.length)) = true → ∀ sel, Wk (t.ren (selN h.length sel)) t := fun t ht sel => Wk.ren (fun i hi => selN_old hi) ht
 have fo := fun c => And.intro (up l ol c) (And.intro (up s os c) (And.intro (up f of c) (And.intro (decide_eq_true (p := i1 < h.length + c) (by omega)) (decide_eq_true (p := i2 < h.length + c) (by omega)))))
 have fr := fun sel => And.intro (rn l ol sel) (And.intro (rn s os sel) (And.intro (rn f of sel) (And.intro (selN_old (sel := sel) e1i) (selN_old (sel := sel) e2i))))
 have fo1 := fo
 have fr1 := fr
 rw [← ln] at fo1 fr1
 have hh1 := a.hok hh
 have ao : ∀ (n : Nat) (L : List Hd), (apS heldR (n + 2) L).ok (fun i => decide (i < n + 3)) = true := fun n L => apS_ok _ _ _ (by simp)
 unfold w81
 simp only [rep_0, rep_s, walkW, walkX, if_true, if_false, reduceIte, Nat.reduceAdd, Nat.reduceSub, Nat.reduceLeDiff, Nat.reduceEqDiff, Nat.reduceMul, Nat.reduceLT, Int.reduceLT, Int.reduceLE, Int.reduceEq, f1, f2, fl]
 refine W_loopS (S := Nat) (fun i => hs.length - i) (fun i => [.y (h.length + 1), .p i1 0, .p i2 0] ++ tp 3 ++ [l, .i .i64 hs.length, .i .i64 i] ++ tp 15) (fun i => qH h h1 s f l0 (outL vs ds (hs.take i))) (fun i => i ≤ hs.length) 0 (Nat.zero_le _) ?_ fun i hi => ?_
 ·have z0 : outL vs ds (hs.take 0) = [] := rfl
  show Bt _ _ _ _ _ (qH h h1 s f l0 (outL vs ds (hs.take 0)))
  rw [z0]
  unfold qH
  rw [if_pos rfl]
  have e : h ++ qL h.length s f s .dead = h ++ [.blk false true [s], .lp .ready .n (qFr h.length s f) [7] qA qB] ++ List.replicate 1 .dead := by
   rw [List.append_assoc]
   rfl
  rw [e]
  refine Bt.trans (Bt.wk ?_) (Bt.pad _ _ 1)
  simp only [walkW, walkX, if_true, if_false, reduceIte, Nat.reduceAdd, Nat.reduceSub, Nat.reduceLeDiff, Nat.reduceEqDiff, Nat.reduceMul, Nat.reduceLT, Int.reduceLT, Int.reduceLE, Int.reduceEq]
 ·by_cases gi : i < hs.length
  ·have gi' := eq_true gi
   have e1 : IntKind.i64.wrap ((i : Int) + 1) = ((i + 1 : Nat) : Int) := wrap_in (by unfold In64; omega)
   have hst := outL_step vs ds gi
   generalize hy : hs.getD i heldR.d = y at *
   have lo := outL_len vs ds hs i
   generalize ho : outL vs ds (hs.take i) = o at *
   have f5 : ∀ (H : List AB) (a1 a2 a3 : AB) (x : List AB), ldV (H ++ (a1 :: a2 :: a3 :: .blk true true (heldR.f y) :: x)) (some 2) (.p (H.length + 3) 0) = some (.ag [.i .i64 y.1.1, .i .i64 y.1.2]) := fun H a1 a2 a3 x => by
    rw [lda_own]
    simp only [ownC_s, ownC_0, Option.bind_some, held_len, Nat.zero_add]
    rw [if_pos (by decide), held_dot, dotR_f]
   by_cases hp : checkR vs ds = 0 ∧ rhasP vs ds y.1
   ·have hp' : (checkR vs ds = 0 ∧ rhasP vs ds (y.1.1, y.1.2)) = True := eq_true hp
    rw [if_neg (not_not_intro hp), List.append_nil] at hst
    by_cases h0 : o = []
    ·unfold qH
     rw [if_pos h0]
     simp only [qL, walkW, walkX, if_true, if_false, reduceIte, Nat.reduceAdd, Nat.reduceSub, Nat.reduceLeDiff, Nat.reduceEqDiff, Nat.reduceMul, Nat.reduceLT, Int.reduceLT, Int.reduceLE, Int.reduceEq, f1, f2, fl, gi', hy, f5, held_all1, held_len, held_take, over_at, List.length_cons, List.length_nil, T_rHas, k1, k2, hp', e1, not_true_eq_false, decide_false, decide_true]
     refine ⟨i + 1, gi, by dsimp only; omega, ?_⟩
     dsimp only
     rw [hst, if_pos h0]
     exact Bt.selL 2 [0, 1, 2] hh (by decide) (by decide) (by decide) (by decide) (by simp only [walkS, FrSel, BlkSel, AV.ren, renL, AV.ok, okL, Option.some.injEq, exists_eq_left', List.length_cons, List.length_nil, Nat.reduceAdd, Nat.reduceLT, reduceCtorEq, implies_true, exists_eq', qFr, fo, fr, ao]) (by simp only [walkS, FrSel, BlkSel, AV.ren, renL, AV.ok, okL, Option.some.injEq, exists_eq_left', List.length_cons, List.length_nil, Nat.reduceAdd, Nat.reduceLT, reduceCtorEq, implies_true, exists_eq', qFr, fo, fr, ao])
    ·unfold qH
     rw [if_neg h0, ← ln]
     simp only [qL, walkW, walkX, if_true, if_false, reduceIte, Nat.reduceAdd, Nat.reduceSub, Nat.reduceLeDiff, Nat.reduceEqDiff, Nat.reduceMul, Nat.reduceLT, Int.reduceLT, Int.reduceLE, Int.reduceEq, g1, g2, gl, gi', hy, f5, held_all1, held_len, held_take, over_at, List.length_cons, List.length_nil, T_rHas, k3, k4, hp', e1, not_true_eq_false, decide_false, decide_true]
     refine ⟨i + 1, gi, by dsimp only; omega, ?_⟩
     dsimp only
     rw [hst, if_neg h0]
     exact Bt.selL 2 [0, 1, 2] hh1 (by decide) (by decide) (by decide) (by decide) (by simp only [walkS, FrSel, BlkSel, AV.ren, renL, AV.ok, okL, Option.some.injEq, exists_eq_left', List.length_cons, List.length_nil, Nat.reduceAdd, Nat.reduceLT, reduceCtorEq, implies_true, exists_eq', qFr, fo1, fr1, ao, heldR_sz]) (by simp only [walkS, FrSel, BlkSel, AV.ren, renL, AV.ok, okL, Option.some.injEq, exists_eq_left', List.length_cons, List.length_nil, Nat.reduceAdd, Nat.reduceLT, reduceCtorEq, implies_true, exists_eq', qFr, fo1, fr1, ao])
   ·have hp' : (checkR vs ds = 0 ∧ rhasP vs ds (y.1.1, y.1.2)) = False := eq_false hp
    rw [if_pos hp] at hst
    have hne : o ++ [y] ≠ [] := by simp
    by_cases h0 : o = []
    ·have q1 := qT_first (f := f) a y
     unfold qH
     rw [if_pos h0]
     simp only [qL, lapp_cons, lapp_nil] at q1
     simp only [qL, walkW, walkX, if_true, if_false, reduceIte, Nat.reduceAdd, Nat.reduceSub, Nat.reduceLeDiff, Nat.reduceEqDiff, Nat.reduceMul, Nat.reduceLT, Int.reduceLT, Int.reduceLE, Int.reduceEq, f1, f2, fl, gi', hy, f5, held_all1, held_len, held_take, over_at, List.length_cons, List.length_nil, T_rHas, k1, k2, hp', e1, not_false_eq_true, decide_false, decide_true, q1]
     refine ⟨i + 1, gi, by dsimp only; omega, ?_⟩
     dsimp only
     rw [hst, if_neg hne, h0, List.nil_append, ← ln]
     simp only [qR, qL, lapp_cons, lapp_nil, apS_snoc, resB_snoc]
     exact Bt.selL 2 [0, 1, 6] hh1 (by decide) (by decide) (by decide) (by decide) (by simp only [walkS, FrSel, BlkSel, AV.ren, renL, AV.ok, okL, Option.some.injEq, exists_eq_left', List.length_cons, List.length_nil, Nat.reduceAdd, Nat.reduceLT, reduceCtorEq, implies_true, exists_eq', qFr, fo1, fr1, ao, heldR_sz]) (by simp only [walkS, FrSel, BlkSel, AV.ren, renL, AV.ok, okL, Option.some.injEq, exists_eq_left', List.length_cons, List.length_nil, Nat.reduceAdd, Nat.reduceLT, reduceCtorEq, implies_true, exists_eq', qFr, fo1, fr1, ao])
    ·have q1 := qT_next (f := f) a y (l := l0 ++ o) (by simp [h0]) (by rw [List.length_append]; omega)
     unfold qH
     rw [if_neg h0]
     rw [← ln] at q1 ⊢
     simp only [qL, lapp_cons, lapp_nil] at q1
     simp only [qL, walkW, walkX, if_true, if_false, reduceIte, Nat.reduceAdd, Nat.reduceSub, Nat.reduceLeDiff, Nat.reduceEqDiff, Nat.reduceMul, Nat.reduceLT, Int.reduceLT, Int.reduceLE, Int.reduceEq, g1, g2, gl, gi', hy, f5, held_all1, held_len, held_take, over_at, List.length_cons, List.length_nil, T_rHas, k3, k4, hp', e1, not_false_eq_true, decide_false, decide_true, q1]
     refine ⟨i + 1, gi, by dsimp only; omega, ?_⟩
     dsimp only
     rw [hst, if_neg hne, ← List.append_assoc]
     simp only [qR, qL, lapp_cons, lapp_nil, apS_snoc, resB_snoc]
     exact Bt.selL 2 [0, 1, 6] hh1 (by decide) (by decide) (by decide) (by decide) (by simp only [walkS, FrSel, BlkSel, AV.ren, renL, AV.ok, okL, Option.some.injEq, exists_eq_left', List.length_cons, List.length_nil, Nat.reduceAdd, Nat.reduceLT, reduceCtorEq, implies_true, exists_eq', qFr, fo1, fr1, ao, heldR_sz]) (by simp only [walkS, FrSel, BlkSel, AV.ren, renL, AV.ok, okL, Option.some.injEq, exists_eq_left', List.length_cons, List.length_nil, Nat.reduceAdd, Nat.reduceLT, reduceCtorEq, implies_true, exists_eq', qFr, fo1, fr1, ao])
  ·obtain rfl : i = hs.length := by omega
   have gi' := eq_false gi
   rw [List.take_length]
   unfold qH
   by_cases h0 : outL vs ds hs = []
   ·rw [if_pos h0]
    simp only [qL, walkW, walkX, if_true, if_false, reduceIte, Nat.reduceAdd, Nat.reduceSub, Nat.reduceLeDiff, Nat.reduceEqDiff, Nat.reduceMul, Nat.reduceLT, Int.reduceLT, Int.reduceLE, Int.reduceEq, f1, f2, fl, gi', false_implies, true_and]
    exact Bt.refl _ _ _
   ·rw [if_neg h0]
    rw [← ln]
    simp only [qL, walkW, walkX, if_true, if_false, reduceIte, Nat.reduceAdd, Nat.reduceSub, Nat.reduceLeDiff, Nat.reduceEqDiff, Nat.reduceMul, Nat.reduceLT, Int.reduceLT, Int.reduceLE, Int.reduceEq, g1, g2, gl, gi', false_implies, true_and]
    exact Bt.refl _ _ _
theorem AIn.isSl {h h1 : List AB} {s : AV} {l0 : List Hd} (a : AIn h s l0 h1) : s.isSl = true := by
 rcases a with ⟨rfl, _, _⟩ | ⟨id, rfl, _, _, _⟩
 ·rfl
 ·exact rsl_isSl _ _
theorem aseq_at {h h1 : List AB} {s : AV} {l0 : List Hd} (a : AIn h s l0 h1) {i1 i2 : Nat} {l v d : AV} {hs : List Hd} {vs : List Int} {ds : Dots} (b1 : bxS h1 i1 = some l) (b2 : rdBlk h1 i2 = some [v, d]) (hl : Rd heldR h1 l hs) (hv : Rd intR h1 v vs) (hd : Rd dotR h1 d ds) (hL : hs.length ≤ 100000) (hL0 : l0.length ≤ 100000) :
  FnC Tryz.prog 45 [s, .f (.func 81) [] [.p i1 0, .p i2 0]] h (if outL vs ds hs = [] then s else apS heldR h.length (l0 ++ outL vs ds hs)) (if outL vs ds hs = [] then h else h1 ++ [resB heldR true (l0 ++ outL vs ds hs)]) := by
 refine FnAt.c (FnAt.run (by kernel_rfl) (T := ⟨[], []⟩) ⟨trivial, trivial⟩ Tryz.func45 sw45 fun ho hh => ?_)
 simp only [okL_cons, Bool.and_eq_true] at ho
 have ln := a.len
 have hh1 := a.hok hh
 have os := a.isSl
 have ol := bxS_ok b1 hh1
 rw [ln] at ol
 have uf := unseen_fold a hh (bxS_rd b1) b2 hl hv hd ol ho.1 hL hL0 _ ho.2.1
 unfold w45
 by_cases h0 : outL vs ds hs = []
 ·unfold qH at uf
  rw [if_pos h0] at uf ⊢
  rw [if_pos h0]
  simp only [rep_0, rep_s, walkW, walkX, if_true, if_false, reduceIte, Nat.reduceAdd, Nat.reduceSub, Nat.reduceLeDiff, Nat.reduceEqDiff, Nat.reduceMul, Nat.reduceLT, Int.reduceLT, Int.reduceLE, Int.reduceEq, sl_one os, sl_cells os]
  refine W_rf rfl (by simp only [walkW, walkX, if_true, if_false, reduceIte, Nat.reduceAdd, Nat.reduceSub, Nat.reduceLeDiff, Nat.reduceEqDiff, Nat.reduceMul, Nat.reduceLT, Int.reduceLT, Int.reduceLE, Int.reduceEq]) rfl (by simp only [walkW, walkX, if_true, if_false, reduceIte, Nat.reduceAdd, Nat.reduceSub, Nat.reduceLeDiff, Nat.reduceEqDiff, Nat.reduceMul, Nat.reduceLT, Int.reduceLT, Int.reduceLE, Int.reduceEq]; rfl) uf (by rw [own_at]; rfl) (by decide) ?_
  simp only [qL, qFr, walkW, walkX, if_true, if_false, reduceIte, Nat.reduceAdd, Nat.reduceSub, Nat.reduceLeDiff, Nat.reduceEqDiff, Nat.reduceMul, Nat.reduceLT, Int.reduceLT, Int.reduceLE, Int.reduceEq]
  exact Bt.drop _ hh rfl (by simp only [okL_cons, okL_nil, ho.1, Bool.and_true])
 ·unfold qH at uf
  rw [if_neg h0] at uf ⊢
  rw [if_neg h0]
  simp only [rep_0, rep_s, walkW, walkX, if_true, if_false, reduceIte, Nat.reduceAdd, Nat.reduceSub, Nat.reduceLeDiff, Nat.reduceEqDiff, Nat.reduceMul, Nat.reduceLT, Int.reduceLT, Int.reduceLE, Int.reduceEq, sl_one os, sl_cells os]
  refine W_rf rfl (by simp only [walkW, walkX, if_true, if_false, reduceIte, Nat.reduceAdd, Nat.reduceSub, Nat.reduceLeDiff, Nat.reduceEqDiff, Nat.reduceMul, Nat.reduceLT, Int.reduceLT, Int.reduceLE, Int.reduceEq]) rfl (by simp only [walkW, walkX, if_true, if_false, reduceIte, Nat.reduceAdd, Nat.reduceSub, Nat.reduceLeDiff, Nat.reduceEqDiff, Nat.reduceMul, Nat.reduceLT, Int.reduceLT, Int.reduceLE, Int.reduceEq]; rfl) uf (by rw [← ln, own_at]; rfl) (by decide) ?_
  rw [← ln]
  simp only [qL, qFr, walkW, walkX, if_true, if_false, reduceIte, Nat.reduceAdd, Nat.reduceSub, Nat.reduceLeDiff, Nat.reduceEqDiff, Nat.reduceMul, Nat.reduceLT, Int.reduceLT, Int.reduceLE, Int.reduceEq]
  have ao : (apS heldR h1.length (l0 ++ outL vs ds hs)).ok (fun i => decide (i < h1.length + 1)) = true := apS_ok _ _ _ (by simp)
  exact Bt.sel [2] hh1 (by decide) (by simp only [walkS, FrSel, BlkSel, AV.ren, renL, AV.ok, okL, Option.some.injEq, exists_eq_left', List.length_cons, List.length_nil, Nat.reduceAdd, Nat.reduceLT, reduceCtorEq, implies_true, exists_eq']) (by simp only [walkS, FrSel, BlkSel, AV.ren, renL, AV.ok, okL, Option.some.injEq, exists_eq_left', List.length_cons, List.length_nil, Nat.reduceAdd, Nat.reduceLT, reduceCtorEq, implies_true, exists_eq', ao])
noncomputable def qIn (h : List AB) (i1 i2 : Nat) : Option (List Hd × List Int × Dots) := (bxS h i1).bind fun l => match rdBlk h i2 with
 | some [v, d] => (getS heldR h l).bind fun hs => (getS intR h v).bind fun vs => (getS dotR h d).bind fun ds => some (hs, vs, ds)
 | _ => none
theorem qIn_some {h : List AB} {i1 i2 : Nat} {x : List Hd × List Int × Dots} (e : qIn h i1 i2 = some x) : ∃ l v d, bxS h i1 = some l ∧ rdBlk h i2 = some [v, d] ∧ Rd heldR h l x.1 ∧ Rd intR h v x.2.1 ∧ Rd dotR h d x.2.2 := by
 unfold qIn at e
 obtain ⟨l, b1, e⟩ := Option.bind_eq_some_iff.1 e
 split at e
 ·rename_i v d b2
  obtain ⟨hs, h1, e⟩ := getS_bind e
  obtain ⟨vs, h2, e⟩ := getS_bind e
  obtain ⟨ds, h3, e⟩ := getS_bind e
  cases e
  exact ⟨l, v, d, b1, b2, h1, h2, h3⟩
 ·cases e
theorem qIn_eq {h : List AB} {i1 i2 : Nat} {l v d : AV} {hs : List Hd} {vs : List Int} {ds : Dots} (b1 : bxS h i1 = some l) (b2 : rdBlk h i2 = some [v, d]) (h1 : getS heldR h l = some hs) (h2 : getS intR h v = some vs) (h3 : getS dotR h d = some ds) : qIn h i1 i2 = some (hs, vs, ds) := by
 unfold qIn
 rw [b1, Option.bind_some, b2]
 simp only [h1, h2, h3, Option.bind_some]
noncomputable def T_ASeq0 : List AV → List AB → Option (AV × List AB)
 | [.ns, .f (.func 81) [] [.p i1 0, .p i2 0]], h => (qIn h i1 i2).bind fun x => if x.1.length ≤ 100000 then some (apS heldR h.length (outL x.2.1 x.2.2 x.1), h ++ [resB heldR true (outL x.2.1 x.2.2 x.1)]) else none
 | _, _ => none
theorem ASeq0_spec : Spec Tryz.prog 45 T_ASeq0 := by
 intro args h v h' e
 unfold T_ASeq0 at e
 split at e
 ·rename_i i1 i2
  obtain ⟨⟨hs, vs, ds⟩, hx, e⟩ := Option.bind_eq_some_iff.1 e
  obtain ⟨l, v, d, b1, b2, h1, h2, h3⟩ := qIn_some hx
  dsimp only at *
  split at e
  ·rename_i hL
   cases e
   have := aseq_at (h := h) (h1 := h) (s := .ns) (l0 := []) (.inl ⟨rfl, rfl, rfl⟩) b1 b2 h1 h2 h3 hL (Nat.zero_le _)
   by_cases h0 : outL vs ds hs = []
   ·rw [if_pos h0, if_pos h0] at this
    rw [h0]
    exact this.bt (Bt.pad _ _ 1)
   ·rw [if_neg h0, if_neg h0, List.nil_append] at this
    exact this
  ·cases e
 ·cases e
open Classical in
noncomputable def T_ASeq1 : List AV → List AB → Option (AV × List AB)
 | [s, .f (.func 81) [] [.p i1 0, .p i2 0]], h => match idOf s with
  | [id] => (getS heldR h s).bind fun l0 => if s = rsl heldR id l0 ∧ l0 ≠ [] ∧ h[id]? = some (resB heldR true l0) ∧ l0.length ≤ 100000 then
    (qIn (h.set id .dead) i1 i2).bind fun x => if x.1.length ≤ 100000 then
     if outL x.2.1 x.2.2 x.1 = [] then some (s, h) else some (apS heldR h.length (l0 ++ outL x.2.1 x.2.2 x.1), h.set id .dead ++ [resB heldR true (l0 ++ outL x.2.1 x.2.2 x.1)])
    else none
   else none
  | _ => none
 | _, _ => none
theorem ASeq1_spec : Spec Tryz.prog 45 T_ASeq1 := by
 intro args h v h' e
 unfold T_ASeq1 at e
 split at e
 ·rename_i s i1 i2
  split at e
  ·rename_i id hid
   obtain ⟨l0, hs0, e⟩ := getS_bind e
   split at e
   ·rename_i hc
    obtain ⟨c1, c2, c3, c4⟩ := hc
    obtain ⟨⟨hs, vs, ds⟩, hx, e⟩ := Option.bind_eq_some_iff.1 e
    obtain ⟨l, v, d, b1, b2, h1, h2, h3⟩ := qIn_some hx
    dsimp only at *
    split at e
    ·rename_i hL
     have := aseq_at (h := h) (h1 := h.set id .dead) (s := s) (l0 := l0) (.inr ⟨id, c1, c2, c3, rfl⟩) b1 b2 h1 h2 h3 hL c4
     split at e
     ·rename_i h0
      cases e
      rw [if_pos h0, if_pos h0] at this
      exact this
     ·rename_i h0
      cases e
      rw [if_neg h0, if_neg h0] at this
      exact this
    ·cases e
   ·cases e
  ·cases e
 ·cases e
noncomputable def T_Coll : List AV → List AB → Option (AV × List AB)
 | [.f (.func 81) [] [.p i1 0, .p i2 0]], h => (qIn h i1 i2).bind fun x => if x.1.length ≤ 100000 then some (apS heldR h.length (outL x.2.1 x.2.2 x.1), h ++ [resB heldR true (outL x.2.1 x.2.2 x.1)]) else none
 | _, _ => none
theorem Coll_spec : Spec Tryz.prog 60 T_Coll := by
 intro args h v h' e
 unfold T_Coll at e
 split at e
 ·rename_i i1 i2
  obtain ⟨x, hx, e⟩ := Option.bind_eq_some_iff.1 e
  split at e
  ·rename_i hL
   cases e
   refine FnAt.c (FnAt.run (by kernel_rfl) (T := ⟨[⟨45, T_ASeq0, fun _ => []⟩], []⟩) ⟨⟨ASeq0_spec, trivial⟩, trivial⟩ Tryz.func60 sw60 fun ho hh => ?_)
   have hx' : qIn (h ++ []) i1 i2 = some x := by rw [List.append_nil]; exact hx
   have hL' := eq_true hL
   unfold w60
   simp only [rep_0, rep_s, walkW, walkX, if_true, if_false, reduceIte, Nat.reduceAdd, Nat.reduceSub, Nat.reduceLeDiff, Nat.reduceEqDiff, Nat.reduceMul, Nat.reduceLT, Int.reduceLT, Int.reduceLE, Int.reduceEq, T_ASeq0, hx', hL']
   exact Bt.eq rfl rfl
  ·cases e
 ·cases e
end Go.Proofs.YtcncpbcbedfakaaGreat
end
section
namespace Go.Proofs.YtcncpbcbedfakaaGreat
set_option maxRecDepth 100000
set_option maxHeartbeats 4000000
set_option linter.unusedSimpArgs false
theorem qIn_own {h L : List AB} {a b : Nat} {l v d : AV} {hs : List Hd} {vs : List Int} {ds : Dots} (b1 : bxL L a = some l) (b2 : ownC L b = some [v, d]) (h1 : getS heldR (h ++ L) l = some hs) (h2 : getS intR (h ++ L) v = some vs) (h3 : getS dotR (h ++ L) d = some ds) : qIn (h ++ L) (h.length + a) (h.length + b) = some (hs, vs, ds) := by
 refine qIn_eq ?_ (by rw [rdBlk_app]; exact b2) h1 h2 h3
 rw [← b1]
 exact bxS_own L a
theorem Wk_tu {l' l : List AV} (h : WkL l' l) : Wk (.tu l') (.tu l) := fun ρ c v => by
 cases v with
 | tu _ cs hn hv =>
  have := WkL.vl h (cs := cs) ⟨hn, hv⟩
  exact .tu l' cs this.1 this.2
theorem reg_ap {h H : List AB} {id : Nat} {L : List Hd} {a b e : AV} : Bt Tryz.prog h.length [.tu [.ag [apS heldR id L, a, b], e]] H [.tu [.ag [rsl heldR id L, a, b], e]] H := Bt.wk ⟨Wk_tu ⟨Wk_ag ⟨apS_wk _ _, Wk.refl _, Wk.refl _, trivial⟩, Wk.refl _, trivial⟩, trivial⟩
theorem outL_le (v : List Int) (ds : Dots) (l : List Hd) : (outL v ds l).length ≤ l.length := List.length_filter_le _ _
noncomputable def T_pClear : List AV → List AB → Option (AV × List AB)
 | [.ag [l, s, t], .ag [s', t']], h => (getS heldR h l).bind fun hs => (getS intR h s).bind fun v => (getS dotR h t).bind fun ds => (getS intR h s').bind fun v' => (getS dotR h t').bind fun ds' =>
   if hs.length ≤ 100000 ∧ t.capOk = true ∧ t'.capOk = true then
    if checkG hs v ds ≠ 0 then some (.tu [.ag [.ns, .ns, .ns], .i .i64 (checkG hs v ds)], h)
    else if checkR v' ds' ≠ 0 then some (.tu [.ag [.ns, .ns, .ns], .i .i64 (checkR v' ds')], h)
    else if (joinO v v' ds ds').2.length ≤ 4096 then some (.tu [.ag [rsl heldR h.length (outL v' ds' hs), rsl intR (h.length + 1) (joinO v v' ds ds').1, rsl dotR (h.length + 2) (joinO v v' ds ds').2], .i .i64 0], h ++ [resB heldR true (outL v' ds' hs), resB intR true (joinO v v' ds ds').1, resB dotR true (joinO v v' ds ds').2])
    else some (.tu [.ag [.ns, .ns, .ns], .i .i64 10], h)
   else none
 | _, _ => none
theorem pClear_at {h : List AB} (hz : h.map AB.freeze = h) {l s t s' t' : AV} {hs : List Hd} {xs xs' : List Int} {ds ds' : Dots} (hl : Rd heldR h l hs) (hv : Rd intR h s xs) (hd : Rd dotR h t ds) (hv' : Rd intR h s' xs') (hd' : Rd dotR h t' ds') (hL : hs.length ≤ 100000) (k1 : t.capOk = true) (k2 : t'.capOk = true) (v : AV) (h' : List AB) (e : T_pClear [.ag [l, s, t], .ag [s', t']] h = some (v, h')) :
  FnAt Tryz.prog 20 [.ag [l, s, t], .ag [s', t']] h v h' := by
 simp only [T_pClear, hl.get, hv.get, hd.get, hv'.get, hd'.get, Option.bind_some] at e
 rw [if_pos ⟨hL, k1, k2⟩] at e
 refine FnAt.run (by kernel_rfl) (T := ⟨[⟨27, T_pgCheck, fun _ => []⟩, ⟨59, T_chk checkR, fun _ => []⟩, ⟨48, T_cJoin, fun _ => []⟩, ⟨46, T_unseen, fun _ => []⟩, ⟨60, T_Coll, fun _ => []⟩, ⟨65, T_CopyCloud, fun _ => []⟩], []⟩) ⟨⟨pgCheck_spec, cCheck_spec, cJoin_spec, unseen_spec, Coll_spec, own_spec, trivial⟩, trivial⟩ Tryz.func20 sw20 fun ho hh => ?_
 simp only [okL_cons, ok_ag, Bool.and_eq_true] at ho
 have f1 := hl.fx ho.1.1 (sz := 34) rfl
 have f2 := hv.fx ho.1.2.1 (sz := 1) rfl
 have f3 := hd.fx ho.1.2.2.1 (sz := 2) rfl
 have f4 := hv'.fx ho.2.1.1 (sz := 1) rfl
 have f5 := hd'.fx ho.2.1.2.1 (sz := 2) rfl
 have hL' : (hs.length ≤ 1000000) = True := eq_true (by omega)
 unfold w20
 by_cases c0 : checkG hs xs ds = 0
 case neg =>
  rw [if_pos c0] at e
  cases e
  have c0' := eq_false c0
  simp only [rep_0, rep_s, walkW, walkQ, walkX, if_true, if_false, ↓reduceIte, Nat.reduceAdd, Nat.reduceSub, Nat.reduceLeDiff, Nat.reduceEqDiff, Nat.reduceMul, Nat.reduceLT, Int.reduceLT, Int.reduceLE, Int.reduceEq, CO.tmps, Opd.tmps, optT, Nat.reducePow, Nat.reduceDiv, Nat.reduceMod, f1, f2, f3, f4, f5, T_pgCheck, T_chk, c0', hL', not_false_eq_true, decide_true, HOk_own hh, mask_ownC hz, mask_ownQ hz, mask_ownQ0 hz]
  exact Bt.drop _ hh rfl (by simp only [ok_tu, okL_cons, okL_nil, ok_ag, ok_ns, ok_i, Bool.and_true])
 rw [if_neg (not_not_intro c0)] at e
 by_cases c1 : checkR xs' ds' = 0
 case neg =>
  rw [if_pos c1] at e
  cases e
  have c1' := eq_false c1
  simp only [rep_0, rep_s, walkW, walkQ, walkX, if_true, if_false, ↓reduceIte, Nat.reduceAdd, Nat.reduceSub, Nat.reduceLeDiff, Nat.reduceEqDiff, Nat.reduceMul, Nat.reduceLT, Int.reduceLT, Int.reduceLE, Int.reduceEq, CO.tmps, Opd.tmps, optT, Nat.reducePow, Nat.reduceDiv, Nat.reduceMod, f1, f2, f3, f4, f5, T_pgCheck, T_chk, c0, c1', hL', ne_eq, not_false_eq_true, not_true_eq_false, decide_true, decide_false, HOk_own hh, mask_ownC hz, mask_ownQ hz, mask_ownQ0 hz]
  exact Bt.drop _ hh rfl (by simp only [ok_tu, okL_cons, okL_nil, ok_ag, ok_ns, ok_i, Bool.and_true])
 rw [if_neg (not_not_intro c1)] at e
 have c2 := (checkG_0 c0).1
 have hL2 : (hs.length ≤ 100000) = True := eq_true hL
 by_cases g : (joinO xs xs' ds ds').2.length ≤ 4096
 ·rw [if_pos g] at e
  cases e
  have g' := eq_true g
  have ao : (apS heldR h.length (outL xs' ds' hs)).ok (fun i => decide (i < h.length + 3)) = true := apS_ok _ _ _ (by simp)
  have qi : ∀ (L : List AB) (a b : Nat), bxL L a = some l → ownC L b = some [s', t'] → qIn (h ++ L) (h.length + a) (h.length + b) = some (hs, xs', ds') := fun L a b b1 b2 => qIn_own b1 b2 (hl.app L).get (hv'.app L).get (hd'.app L).get
  have na := join_nf (nf_check c2) (nf_check c1)
  have g6 : ((joinO xs xs' ds ds').1.length ≤ 1000000 ∧ (joinO xs xs' ds ds').2.length ≤ 1000000) = True := eq_true ⟨by have := na.rg.1; omega, by omega⟩
  have n1 : ((joinO xs xs' ds ds').1.length ≤ maxLen) = True := eq_true (by have := na.rg.1; unfold maxLen; omega)
  have n2 : ((joinO xs xs' ds ds').2.length ≤ maxLen) = True := eq_true (by unfold maxLen; omega)
  simp only [rep_0, rep_s, walkW, walkQ, walkX, if_true, if_false, ↓reduceIte, Nat.reduceAdd, Nat.reduceSub, Nat.reduceLeDiff, Nat.reduceEqDiff, Nat.reduceMul, Nat.reduceLT, Int.reduceLT, Int.reduceLE, Int.reduceEq, CO.tmps, Opd.tmps, optT, Nat.reducePow, Nat.reduceDiv, Nat.reduceMod, f1, f2, f3, f4, f5, T_pgCheck, T_chk, T_cJoin, T_unseen, T_Coll, T_CopyCloud, c0, c1, c2, g', g6, n1, n2, hL', hL2, k1, k2, hl.isSl, hv'.isSl, hd'.isSl, qi, ne_eq, not_false_eq_true, not_true_eq_false, decide_true, decide_false, HOk_own hh, mask_ownC hz, mask_ownQ hz, mask_ownQ0 hz]
  refine Bt.trans ?_ reg_ap
  exact Bt.sel [8, 9, 10] hh (by decide) (by simp only [walkS, FrSel, BlkSel, AV.ren, renL, AV.ok, okL, Option.some.injEq, exists_eq_left', List.length_cons, List.length_nil, Nat.reduceAdd, Nat.reduceLT, reduceCtorEq, implies_true, exists_eq']) (by simp only [walkS, FrSel, BlkSel, AV.ren, renL, AV.ok, okL, Option.some.injEq, exists_eq_left', List.length_cons, List.length_nil, Nat.reduceAdd, Nat.reduceLT, reduceCtorEq, implies_true, exists_eq', ao])
 ·rw [if_neg g] at e
  cases e
  have g' := eq_false g
  simp only [rep_0, rep_s, walkW, walkQ, walkX, if_true, if_false, ↓reduceIte, Nat.reduceAdd, Nat.reduceSub, Nat.reduceLeDiff, Nat.reduceEqDiff, Nat.reduceMul, Nat.reduceLT, Int.reduceLT, Int.reduceLE, Int.reduceEq, CO.tmps, Opd.tmps, optT, Nat.reducePow, Nat.reduceDiv, Nat.reduceMod, f1, f2, f3, f4, f5, T_pgCheck, T_chk, T_cJoin, c0, c1, c2, g', hL', k1, k2, ne_eq, not_false_eq_true, not_true_eq_false, decide_true, decide_false, HOk_own hh, mask_ownC hz, mask_ownQ hz, mask_ownQ0 hz]
  exact Bt.drop _ hh rfl (by simp only [ok_tu, okL_cons, okL_nil, ok_ag, ok_ns, ok_i, Bool.and_true])
theorem pClear_spec : Spec Tryz.prog 20 T_pClear := by
 intro args h v h' e
 unfold T_pClear at e
 split at e
 ·rename_i l s t s' t'
  obtain ⟨hs, hl, e⟩ := getS_bind e
  obtain ⟨xs, hv, e⟩ := getS_bind e
  obtain ⟨ds, hd, e⟩ := getS_bind e
  obtain ⟨xs', hv', e⟩ := getS_bind e
  obtain ⟨ds', hd', e⟩ := getS_bind e
  split at e
  ·rename_i hL
   split at e
   ·rename_i c
    cases e
    refine FnAt.c (FnAt.frz0 fun hz => pClear_at hz hl.frz hv.frz hd.frz hv'.frz hd'.frz hL.1 hL.2.1 hL.2.2 _ _ ?_)
    simp only [T_pClear, hl.frz.get, hv.frz.get, hd.frz.get, hv'.frz.get, hd'.frz.get, Option.bind_some]
    rw [if_pos hL, if_pos c]
   ·rename_i c
    split at e
    ·rename_i c1
     cases e
     refine FnAt.c (FnAt.frz0 fun hz => pClear_at hz hl.frz hv.frz hd.frz hv'.frz hd'.frz hL.1 hL.2.1 hL.2.2 _ _ ?_)
     simp only [T_pClear, hl.frz.get, hv.frz.get, hd.frz.get, hv'.frz.get, hd'.frz.get, Option.bind_some]
     rw [if_pos hL, if_neg c, if_pos c1]
    ·rename_i c1
     split at e
     ·rename_i g
      cases e
      refine FnAt.c (FnAt.frz fun hz => pClear_at hz hl.frz hv.frz hd.frz hv'.frz hd'.frz hL.1 hL.2.1 hL.2.2 _ _ ?_)
      simp only [T_pClear, hl.frz.get, hv.frz.get, hd.frz.get, hv'.frz.get, hd'.frz.get, Option.bind_some, List.length_map]
      rw [if_pos hL, if_neg c, if_neg c1, if_pos g]
     ·rename_i g
      cases e
      refine FnAt.c (FnAt.frz0 fun hz => pClear_at hz hl.frz hv.frz hd.frz hv'.frz hd'.frz hL.1 hL.2.1 hL.2.2 _ _ ?_)
      simp only [T_pClear, hl.frz.get, hv.frz.get, hd.frz.get, hv'.frz.get, hd'.frz.get, Option.bind_some]
      rw [if_pos hL, if_neg c, if_neg c1, if_neg g]
  ·cases e
 ·cases e
end Go.Proofs.YtcncpbcbedfakaaGreat
end
section
namespace Go.Proofs.YtcncpbcbedfakaaGreat
open Go.RowKit Go.Shelf Go.Sort
variable {P : Program} {α : Type} {r : Row α}
def sortP [Inhabited α] (cf : α → α → Int) (l : List α) : List α := (pdq (ltOf cf) l.toArray 0 l.toArray.size (Lib.bitLen l.toArray.size) true true).toList
theorem sortP_all [Inhabited α] {cf : α → α → Int} (hO : SWO (ltOf cf)) (l : List α) : PermIn 0 l.toArray.size l.toArray (sortP cf l).toArray ∧ SortedIn (ltOf cf) 0 l.toArray.size (sortP cf l).toArray := by
 have := pdq_sorts (ltOf cf) hO l.toArray 0 l.toArray.size (Lib.bitLen l.toArray.size) true true (Nat.zero_le _) (Nat.le_refl _) (Or.inl rfl)
 exact this
theorem sortP_len [Inhabited α] {cf : α → α → Int} (hO : SWO (ltOf cf)) (l : List α) : (sortP cf l).length = l.length := by
 have := (sortP_all hO l).1.1
 simpa using this
theorem sortP_perm [Inhabited α] {cf : α → α → Int} (hO : SWO (ltOf cf)) (l : List α) : (sortP cf l).Perm l := by
 obtain ⟨⟨h1, _, h3⟩, _⟩ := sortP_all hO l
 have e1 : (sortP cf l).toArray.extract 0 l.toArray.size = (sortP cf l).toArray := by rw [← h1]; exact Array.extract_size
 rw [e1, Array.extract_size] at h3
 simpa using h3
theorem sortP_rise [Inhabited α] {cf : α → α → Int} (hO : SWO (ltOf cf)) (l : List α) : (sortP cf l).Pairwise fun x y => ¬ cf y x < 0 := by
 have hl := sortP_len hO l
 have h := (sortP_all hO l).2
 rw [List.pairwise_iff_getElem]
 intro i j hi hj hij
 have hi' : i < (sortP cf l).toArray.size := by simpa using hi
 have hj' : j < (sortP cf l).toArray.size := by simpa using hj
 have := h i j (Nat.zero_le _) hij (by simp; omega)
 rw [getElem!_pos _ j hj', getElem!_pos _ i hi'] at this
 simpa [ltOf] using this
theorem sort_fnP [Inhabited α] {N : Ren} (L : SlLaysF0.n6 P N) (aE : ∀ w, (isAgg (N.t 24)).run P w = .ok true w) (zE : ∀ w, (Go.sizeOf (N.t 24)).run P w = .ok r.sz w) {cf : α → α → Int} (hO : SWO (ltOf cf))
  {g : Nat} (hc : Cmps P g r cf) (hfl : ∀ x, ∀ a ∈ r.f x, a.fl = true) (h1 : ∀ x, ∀ v ∈ r.enc x, v.oneCell' = true)
  {h : List AB} {id : Nat} (l : List α) (hb : h[id]? = some (resB r true l)) (hl : l.length ≤ 1000000) :
  FnC P (N.f 6) [rsl r id l, .f (.func g) [] []] h (.tu []) (h.set id (resB r true (sortP cf l))) := by
 obtain ⟨nm, hnm, hf⟩ := L.f6
 refine ⟨⟨_, _, hf, by simpa using hnm, rfl⟩, fun ρ w vals hr hv => ?_⟩
 obtain ⟨v, f, rfl, hv1, hv2⟩ := vl_two hv
 have := vr_f_inv hv2
 subst this
 by_cases h0 : l.length = 0
 ·have : l = [] := List.eq_nil_of_length_eq_zero h0
  subst this
  simp only [rsl, List.length_nil, if_true] at hv1
  obtain ⟨a, c, rfl⟩ := vr_sl_inv0 hv1 rfl
  refine (AnyF.slices_SortFunc_none L a c _ w).mono ?_
  rintro e w' ⟨rfl, rfl⟩
  rw [List.eq_nil_of_length_eq_zero (sortP_len hO []), set_same' h id _ hb]
  exact ⟨_, ρ, rfl, .tu [] #[] rfl fun j a c q => by simp at q, hr, EffP.refl _ _ _ _⟩
 ·simp only [rsl, if_neg h0] at hv1
  obtain ⟨b, o, n, cap', hρ, rfl, _, hlc, hcm, hcap⟩ := vr_sl_inv hv1 h0
  have hB := hr.blk id _ b o n hb hρ
  simp only [resB, if_neg h0, BR] at hB
  obtain ⟨cs, e, fz, hheap, hm, hlen, hcells⟩ := hB
  obtain ⟨rfl, hn⟩ := hm trivial
  have hblk : b < w.heap.size := (Array.getElem?_eq_some_iff.1 hheap).1
  have hall : ∀ a ∈ r.cells l, a.fl = true := fun a ha => by
   obtain ⟨x, _, hx⟩ := List.mem_flatMap.1 ha
   exact hfl x a hx
  have hH : HoldsK r.enc r.sz w b o l.toArray := by
   unfold HoldsK
   rw [flat_eq]
   intro j hj
   have hj' : j < (r.cells l).length := by simpa using hj
   have hoj : o + j < cs.size := by omega
   refine ⟨?_, ?_⟩
   ·unfold World.cell?
    simp only [hheap]
    have hv := hcells j _ _ (List.getElem?_eq_getElem hj') (Array.getElem?_eq_getElem hoj)
    rw [getElem!_pos (((r.cells l).map AV.val).toArray) j hj]
    simp only [Option.isSome_none, Bool.false_eq_true, if_false, Array.getElem?_eq_getElem hoj, Option.some.injEq, List.getElem_toArray, List.getElem_map, id_eq]
    exact val_vr (hall _ (List.getElem_mem hj')) hv
   ·unfold World.frozen?
    simp only [hheap]
    simp
  obtain ⟨⟨gf, gb, hg1, hg2, hg3⟩, _⟩ := hc r.d r.d []
  have eg : ∀ args w, (callFunc g args).run P w = .ok (.enter g args) w := fun args w => by simp [callFunc, hg1, hg2, hg3]
  have hC := AnyQ.slices_SortFunc_eq L r.sz aE zE r.enc (fun x => by simp [Row.enc, r.len]) h1 cf hO g #[] b o cap' l.toArray w eg (hc.lays hfl b o l.toArray.size w) hH hblk (by simp; omega)
  refine Calls.mono (show Calls P (N.f 6) #[.slice (some ⟨b, o + 0, none⟩) l.length cap', .func (.func g) #[] #[]] w _ from hC) ?_
  rintro e w' ⟨rfl, n', os, rfl⟩
  have hll : (sortP cf l).length = l.length := sortP_len hO l
  have hpq : pdq (ltOf cf) l.toArray 0 l.toArray.size (Lib.bitLen l.toArray.size) true true = (sortP cf l).toArray := rfl
  rw [hpq]
  generalize sortP cf l = l' at *
  have h0' : ¬ l'.length = 0 := by omega
  have hall' : ∀ a ∈ r.cells l', a.fl = true := fun a ha => by
   obtain ⟨x, _, hx⟩ := List.mem_flatMap.1 ha
   exact hfl x a hx
  have hcl : (r.cells l').length = (r.cells l).length := by rw [r.cells_len, r.cells_len, hll]
  have hW : sortWorldK r.enc r.sz w b o n' l'.toArray os = Go.Sort.grow (mapBlock (Go.Sort.ahead w n') b (putCells _root_.id o ((r.cells l').map AV.val).toArray)) os := by
   unfold sortWorldK putRowK putRow
   rw [flat_eq]
  rw [hW]
  have hput := hr.put (w' := mapBlock (Go.Sort.ahead w n') b (putCells _root_.id o ((r.cells l').map AV.val).toArray)) hb (by simp [resB, h0, AB.mut]) hρ (B' := resB r true l') (by
   simp only [resB, if_neg h0', BR]
   refine ⟨putCells _root_.id o ((r.cells l').map AV.val).toArray cs, e, (0, 0), ?_, fun _ => ⟨rfl, by simp [putCells]; exact hn⟩, by simp [putCells, hcl]; exact hlen, fun k a c ha hc' => ?_⟩
   ·simp only [mapBlock, Go.Sort.ahead, Array.getElem?_modify, if_true, hheap, Option.map_some, onCells]
   ·have hk := (List.getElem?_eq_some_iff.1 ha).1
    have hok : o + k < cs.size := by omega
    have hka : a = (r.cells l')[k] := (List.getElem?_eq_some_iff.1 ha).2.symm
    simp only [putCells, Array.getElem?_mapIdx, Array.getElem?_eq_getElem hok, Option.map_some] at hc'
    rw [if_pos (by constructor <;> simp <;> omega)] at hc'
    simp only [Option.some.injEq, id_eq, Nat.add_sub_cancel_left] at hc'
    rw [getElem!_pos (((r.cells l').map AV.val).toArray) k (by simpa using hk)] at hc'
    simp only [List.getElem_toArray, List.getElem_map] at hc'
    subst hka
    rw [← hc']
    exact vr_val _ (hall' _ (List.getElem_mem hk))) rfl rfl ⟨rfl, Nat.le_add_right _ _⟩ (by simp [mapBlock, Go.Sort.ahead]) (fun k hk => by
   simp only [mapBlock, Go.Sort.ahead, Array.getElem?_modify]
   rw [if_neg (fun q => hk q.symm)]) (fun _ => by simp [resB, h0, AB.live])
  have hgrow := hput.1.grown os
  exact ⟨_, ρ, rfl, .tu [] #[] rfl fun j a c q => by simp at q, hgrow.1, (hput.2.trans hgrow.2).p (Ext.refl _) (by rw [hr.len]; exact Nat.le_refl _)⟩
end Go.Proofs.YtcncpbcbedfakaaGreat
end
