/- Part 18 of what the laws' proofs rest on. No condition. -/
import Derived.Test.YtfaccliekejngaaGreatOt17
set_option linter.all false
section
namespace Go.Proofs.YtfaccliekejngaaGreat
set_option maxRecDepth 100000
set_option maxHeartbeats 4000000
def z5Z (v : List Int) (i : Nat) : List Int := v.take i ++ List.replicate (16 - i) 0
theorem zf6 (v : List Int) {i : Nat} (h : i ≤ v.length) (h2 : v.length ≤ 16) : (z5Z v i).length = 16 := by
 simp only [z5Z, List.length_append, List.length_take, List.length_replicate]
 omega
theorem ZBt (v : List Int) {i : Nat} (h : i < v.length) (h2 : v.length ≤ 16) : (z5Z v i).set i (v.getD i 0) = z5Z v (i + 1) := by
 unfold z5Z
 have e1 : (v.take i).length = i := by rw [List.length_take]; omega
 rw [List.set_append_right _ _ (by omega), e1, Nat.sub_self, List.take_succ_eq_append_getElem h, List.getD_eq_getElem?_getD, List.getElem?_eq_getElem h, show 16 - i = (16 - (i + 1)) + 1 from by omega, Option.getD_some, List.replicate_succ, List.set_cons_zero, List.append_assoc]
 rfl
def layS (l : Dots) (d : Int × Int) : Dots := if YvK l d then l else Qql l d
def layR (ds : Dots) : Dots := ds.foldl layS []
theorem XYM {ds : Dots} {i : Nat} (h : i < ds.length) : layR (ds.take (i + 1)) = layS (layR (ds.take i)) (ds.getD i dotR.d) := by
 unfold layR
 rw [List.take_succ_eq_append_getElem h, List.foldl_append, List.getD_eq_getElem?_getD, List.getElem?_eq_getElem h]
 rfl
theorem Ydl (l : Dots) (d : Int × Int) : (layS l d).length ≤ l.length + 1 := by
 unfold layS
 split
 ·omega
 ·unfold Qql
  have := Z47 l d
  simp only [List.length_append, List.length_cons, List.length_take, List.length_drop]
  omega
theorem Zeg {l : Dots} {d x : Int × Int} (h : x ∈ layS l d) : x ∈ l ∨ x = d := by
 unfold layS at h
 split at h
 ·exact .inl h
 ·unfold Qql at h
  rcases List.mem_append.1 h with h | h
  ·exact .inl (List.mem_of_mem_take h)
  ·rcases List.mem_cons.1 h with h | h
   ·exact .inr h
   ·exact .inl (List.mem_of_mem_drop h)
theorem XTx (ds : Dots) : ∀ x ∈ layR ds, x ∈ ds := by
 have : ∀ (ds l : Dots), ∀ x ∈ ds.foldl layS l, x ∈ l ∨ x ∈ ds := fun ds => by
  induction ds with
  | nil => exact fun l x h => .inl h
  | cons d ds ih =>
   intro l x h
   rcases ih _ x h with h | h
   ·exact (Zeg h).imp (fun z => z) fun q => by rw [q]; exact List.mem_cons_self
   ·exact .inr (List.mem_cons_of_mem _ h)
 exact fun x h => (this ds [] x h).elim (fun h => by cases h) id
theorem Xl7 (ds : Dots) : (layR ds).length ≤ ds.length := by
 have : ∀ (ds l : Dots), (ds.foldl layS l).length ≤ l.length + ds.length := fun ds => by
  induction ds with
  | nil => exact fun l => Nat.le_refl _
  | cons d ds ih =>
   intro l
   have h1 := ih (layS l d)
   have h2 := Ydl l d
   simp only [List.foldl_cons, List.length_cons]
   omega
 have := this ds []
 simp only [List.length_nil] at this
 unfold layR
 omega
def fmD (s : List Int × Dots) (d : Int × Int) : List Int × Dots :=
 if d.2 = s.1.getD (d.1 - 1).toNat 0 + 1 then (s.1.set (d.1 - 1).toNat (s.1.getD (d.1 - 1).toNat 0 + 1), s.2)
 else if s.1.getD (d.1 - 1).toNat 0 < d.2 then (s.1, s.2 ++ [d]) else s
def fmR (v : List Int) (l : Dots) : List Int × Dots := l.foldl fmD (z5Z v v.length, [])
theorem Jez (v : List Int) {l : Dots} {i : Nat} (h : i < l.length) : fmR v (l.take (i + 1)) = fmD (fmR v (l.take i)) (l.getD i dotR.d) := by
 unfold fmR
 rw [List.take_succ_eq_append_getElem h, List.foldl_append, List.getD_eq_getElem?_getD, List.getElem?_eq_getElem h]
 rfl
def topI (sn : List Int) : Nat → Nat
 | 0 => 0
 | n + 1 => if sn.getD n 0 = 0 then topI sn n else n + 1
theorem ZGW (sn : List Int) : ∀ n, topI sn n ≤ n
 | 0 => Nat.le_refl _
 | n + 1 => by
  have := ZGW sn n
  unfold topI
  split <;> omega
theorem X1c (s : List Int × Dots) {d : Int × Int} (hd : KG5 d) (h1 : s.1.length = 16) (h2 : ∀ k, 0 ≤ s.1.getD k 0 ∧ s.1.getD k 0 ≤ 1048576) : (fmD s d).1.length = 16 ∧ (fmD s d).2.length ≤ s.2.length + 1 ∧ ∀ k, 0 ≤ (fmD s d).1.getD k 0 ∧ (fmD s d).1.getD k 0 ≤ 1048576 := by
 unfold fmD
 obtain ⟨a1, a2, a3, a4⟩ := hd
 split
 ·rename_i e
  refine ⟨by simp only [List.length_set, h1], by dsimp only; omega, fun k => ?_⟩
  dsimp only
  rw [List.getD_eq_getElem?_getD, List.getElem?_set]
  split
  ·have := h2 (d.1 - 1).toNat
   rw [if_pos (by omega), Option.getD_some]
   omega
  ·rw [← List.getD_eq_getElem?_getD]
   exact h2 k
 ·split
  ·exact ⟨h1, by simp, h2⟩
  ·exact ⟨h1, by omega, h2⟩
theorem Jnn (v : List Int) (i k : Nat) (h : ∀ n ∈ v, 0 ≤ n ∧ n ≤ 1048576) : 0 ≤ (z5Z v i).getD k 0 ∧ (z5Z v i).getD k 0 ≤ 1048576 := by
 rw [List.getD_eq_getElem?_getD]
 cases e : (z5Z v i)[k]? with
 | none => simp
 | some x =>
  have hx := List.mem_of_getElem? e
  unfold z5Z at hx
  rcases List.mem_append.1 hx with hx | hx
  ·exact h x (List.mem_of_mem_take hx)
  ·have := (List.mem_replicate.1 hx).2
   subst this
   simp
theorem Jyu (v : List Int) (hv : v.length ≤ 16) (hr : ∀ n ∈ v, 0 ≤ n ∧ n ≤ 1048576) {l : Dots} (hl : ∀ d ∈ l, KG5 d) : ∀ {i : Nat}, i ≤ l.length → (fmR v (l.take i)).1.length = 16 ∧ (fmR v (l.take i)).2.length ≤ i ∧ ∀ k, 0 ≤ (fmR v (l.take i)).1.getD k 0 ∧ (fmR v (l.take i)).1.getD k 0 ≤ 1048576
 | 0, _ => ⟨zf6 v (Nat.le_refl _) hv, Nat.le_refl _, fun k => Jnn v _ k hr⟩
 | i + 1, h => by
  obtain ⟨h1, h2, h3⟩ := Jyu v hv hr hl (Nat.le_of_succ_le h)
  rw [Jez v h]
  obtain ⟨b1, b2, b3⟩ := X1c (fmR v (l.take i)) (hl (l.getD i dotR.d) (by rw [List.getD_eq_getElem?_getD, List.getElem?_eq_getElem h]; exact List.getElem_mem h)) h1 h3
  exact ⟨b1, by omega, b3⟩
theorem WkL.get : ∀ {l' l : List AV}, WkL l' l → l'.length = l.length ∧ ∀ (j : Nat) (a' a : AV), l'[j]? = some a' → l[j]? = some a → Wk a' a
 | [], [], _ => ⟨rfl, fun j a' a h _ => by simp at h⟩
 | b' :: l', b :: l, h => by
  obtain ⟨h1, h2⟩ := WkL.get h.2
  refine ⟨by simp [h1], fun j a' a e1 e2 => ?_⟩
  cases j with
  | zero =>
   cases e1
   cases e2
   exact h.1
  | succ j => exact h2 j a' a (by simpa using e1) (by simpa using e2)
 | [], _ :: _, h => h.elim
 | _ :: _, [], h => h.elim
theorem JEJ {l' l : List AV} (h : WkL l' l) : Wk (.ag l') (.ag l) := fun ρ c v => by
 cases v with
 | ag _ cs hn hv =>
  obtain ⟨h1, h2⟩ := h.get
  refine .ag l' cs (by rw [h1]; exact hn) fun j a' c e1 e2 => ?_
  have hj : j < l.length := by rw [← h1]; exact (List.getElem?_eq_some_iff.1 e1).1
  exact h2 j a' l[j] e1 (List.getElem?_eq_getElem hj) ρ c (hv j _ c (List.getElem?_eq_getElem hj) e2)
theorem KrO (l : Dots) (d : Int × Int) : (Qql l d).length ≠ 0 := by
 unfold Qql
 simp
theorem QOX {α : Type} {r : Row α} {h : List AB} (L : List AB) (k : Nat) (l : List α) (e : ownR r l L k) (hl : l.length ≤ maxLen) : getS r (h ++ L) (apS r (h.length + k) l) = some l := by
 by_cases h0 : l.length = 0
 ·have : l = [] := List.eq_nil_of_length_eq_zero h0
  subst this
  exact zlS r _
 ·rw [J0z _ h0]
  exact YaF L k l e hl
theorem YHo {α : Type} {r : Row α} (id : Nat) (l : List α) : (apS r id l).capOk = true := by
 unfold apS
 split <;> simp [AV.capOk]
noncomputable def J4e : List AV → List AB → Option (AV × List AB)
 | [s, t], h => (getS intR h s).bind fun v => (getS dotR h t).bind fun ds => if J6E v ds ∧ ds.length ≤ 1000000 then
   some (.ag [.sl h.length 0 (topI (fmR v (layR ds)).1 16) 16 none, rsl dotR (h.length + 1) (fmR v (layR ds)).2], h ++ [.blk true true (intR.cells (fmR v (layR ds)).1), resB dotR true (fmR v (layR ds)).2]) else none
 | _, _ => none
theorem Xne : Spec Tryz.prog 115 J4e := by
 intro args h v h' e
 unfold J4e at e
 split at e
 ·rename_i s t
  obtain ⟨vs, hs, e⟩ := YI8 e
  obtain ⟨ds, ht, e⟩ := YI8 e
  split at e
  ·rename_i hc
   obtain ⟨⟨hv, hvr, hdr⟩, hl⟩ := hc
   cases e
   refine FnAt.c (FnAt.frz fun hz => ?_)
   rw [show h.length = (h.map AB.freeze).length from (List.length_map _).symm]
   replace hs := hs.frz
   replace ht := ht.frz
   generalize h.map AB.freeze = h at *
   refine FnAt.run (by kernel_rfl) (T := ⟨[⟨145, Kki, fun _ => []⟩], []⟩) ⟨⟨K9j, trivial⟩, trivial⟩ Tryz.func115 zDu fun ho hh => ?_
   simp only [qMC, Bool.and_eq_true] at ho
   have f1 := hs.fx ho.1 (sz := 1) rfl
   have f2 := ht.fx ho.2.1 (sz := 2) rfl
   unfold w115
   simp only [XH8, QN9, X1r, zVq, if_true, if_false, reduceIte, Nat.reduceAdd, Nat.reduceSub, Nat.reduceLeDiff, Nat.reduceEqDiff, Nat.reduceMul, Nat.reduceLT, Int.reduceLT, Int.reduceLE, Int.reduceEq, f1, f2]
   have c1 : (List.replicate 16 [AV.i .i64 0]).flatten = intR.cells (z5Z vs 0) := QMg intR 16 0
   have c2 : ((8 : Int) * 16 ≤ 2 ^ 47 ∧ (16 : Int) ≤ (maxLen : Int)) = True := eq_true ⟨by decide, by unfold maxLen; omega⟩
   have c3 : Int.toNat 16 = 16 := rfl
   have fo3 : ∀ c, t.ok (fun i => decide (i < h.length + c)) = true := fun c => AV.ok_mono (fun i q => by simp only [decide_eq_true_eq] at q ⊢; omega) _ ho.2.1
   have fr2 : ∀ sel, Wk (t.ren (selN h.length sel)) t := fun sel => Wk.ren (fun i hi => Xdk hi) ho.2.1
   have m1 := hs.2
   have m2 := ht.2
   unfold maxLen at m1 m2
   simp only [X1r, zVq, if_true, if_false, reduceIte, Nat.reduceAdd, Nat.reduceSub, Nat.reduceLeDiff, Nat.reduceEqDiff, Nat.reduceMul, Nat.reduceLT, Int.reduceLT, Int.reduceLE, Int.reduceEq, c1, c2, c3, f1, f2]
   refine YHj (S := Nat) (fun i => vs.length - i) (fun i => [s, t] ++ tp 2 ++ [.p (h.length + 0) 0, .sl (h.length + 1) 0 16 16 none, .i .i64 i] ++ tp 94) (fun i => h ++ [.blk false true [.ns, .ns], .blk true true (intR.cells (z5Z vs i))]) (fun i => i ≤ vs.length) 0 (Nat.zero_le _) ?_ fun i hi => ?_
   ·exact Bt.wk (by simp only [X1r, zVq, if_true, if_false, reduceIte, Nat.reduceAdd, Nat.reduceSub, Nat.reduceLeDiff, Nat.reduceEqDiff, Nat.reduceMul, Nat.reduceLT, Int.reduceLT, Int.reduceLE, Int.reduceEq])
   simp only [X1r, zVq, if_true, if_false, reduceIte, Nat.reduceAdd, Nat.reduceSub, Nat.reduceLeDiff, Nat.reduceEqDiff, Nat.reduceMul, Nat.reduceLT, Int.reduceLT, Int.reduceLE, Int.reduceEq, f1, f2, QAC]
   refine ⟨fun g1 => ?_, fun g1 => ?_⟩
   ·have e1 : IntKind.i64.wrap ((i : Int) + 1) = ((i + 1 : Nat) : Int) := ZL4 (by unfold In64; omega)
    have e2 : ((i : Int) < 16) = True := eq_true (by omega)
    have e3 : (0 + (i * 1 + 1) ≤ (intR.cells (z5Z vs i)).length) = True := eq_true (by rw [Row.cells_len, zf6 vs hi hv, QPQ]; omega)
    have e4 : over (intR.cells (z5Z vs i)) (0 + i * 1) [AV.i .i64 (vs.getD i intR.d)] = intR.cells (z5Z vs (i + 1)) := by
     rw [Nat.zero_add, Nat.mul_one, YK8 _ _ _ (by rw [zf6 vs hi hv]; omega)]
     exact congrArg intR.cells (ZBt vs g1 hv)
    simp only [X1r, zVq, if_true, if_false, reduceIte, Nat.reduceAdd, Nat.reduceSub, Nat.reduceLeDiff, Nat.reduceEqDiff, Nat.reduceMul, Nat.reduceLT, Int.reduceLT, Int.reduceLE, Int.reduceEq, f1, f2, QAC, e1, e2, e3, e4, g1, JEE]
    exact ⟨i + 1, g1, by dsimp only; omega, Bt.wk (by simp only [X1r, zVq, if_true, if_false, reduceIte, Nat.reduceAdd, Nat.reduceSub, Nat.reduceLeDiff, Nat.reduceEqDiff, Nat.reduceMul, Nat.reduceLT, Int.reduceLT, Int.reduceLE, Int.reduceEq])⟩
   obtain rfl : i = vs.length := by omega
   have ns : (z5Z vs vs.length).length = 16 := zf6 vs (Nat.le_refl _) hv
   refine YHj (S := Nat) (fun j => ds.length - j) (fun j => tp 1 ++ [t] ++ tp 2 ++ [.p (h.length + 0) 0, .sl (h.length + 1) 0 16 16 none] ++ tp 1 ++ [apS dotR (h.length + 2) (layR (ds.take j)), .i .i64 j] ++ tp 92) (fun j => h ++ [.blk false true [.ns, .ns], .blk true true (intR.cells (z5Z vs vs.length)), resB dotR true (layR (ds.take j))]) (fun j => j ≤ ds.length) 0 (Nat.zero_le _) ?_ fun j hj => ?_
   ·show Bt _ _ _ _ _ (h ++ [.blk false true [.ns, .ns], .blk true true (intR.cells (z5Z vs vs.length)), .dead])
    rw [show h ++ [AB.blk false true [.ns, .ns], .blk true true (intR.cells (z5Z vs vs.length)), .dead] = (h ++ [AB.blk false true [.ns, .ns], .blk true true (intR.cells (z5Z vs vs.length))]) ++ List.replicate 1 .dead from by rw [List.append_assoc]; rfl]
    refine Bt.trans (Bt.wk ?_) (Bt.pad _ _ 1)
    rw [show apS dotR (h.length + 2) (layR (ds.take 0)) = .ns from rfl]
    simp only [X1r, zVq, if_true, if_false, reduceIte, Nat.reduceAdd, Nat.reduceSub, Nat.reduceLeDiff, Nat.reduceEqDiff, Nat.reduceMul, Nat.reduceLT, Int.reduceLT, Int.reduceLE, Int.reduceEq]
   simp only [X1r, zVq, if_true, if_false, reduceIte, Nat.reduceAdd, Nat.reduceSub, Nat.reduceLeDiff, Nat.reduceEqDiff, Nat.reduceMul, Nat.reduceLT, Int.reduceLT, Int.reduceLE, Int.reduceEq, f2]
   refine ⟨fun g1 => ?_, fun g1 => ?_⟩
   ·have e1 : IntKind.i64.wrap ((j : Int) + 1) = ((j + 1 : Nat) : Int) := ZL4 (by unfold In64; omega)
    have hst := XYM g1
    have hll : (layR (ds.take j)).length ≤ 1000000 := Nat.le_trans (Xl7 _) (by rw [List.length_take]; omega)
    generalize hld : layR (ds.take j) = l at hst hll
    generalize hdj : ds.getD j dotR.d = d at hst
    have e2 : (l.length ≤ maxLen) = True := eq_true (by unfold maxLen; omega)
    have e3 : (l.length ≤ 1000000) = True := eq_true hll
    by_cases gi : YvK l d
    ·simp only [X1r, zVq, if_true, if_false, reduceIte, Nat.reduceAdd, Nat.reduceSub, Nat.reduceLeDiff, Nat.reduceEqDiff, Nat.reduceMul, Nat.reduceLT, Int.reduceLT, Int.reduceLE, Int.reduceEq, f2, e1, e2, e3, g1, gi, hdj, KdD, Kki, QOX, YHo, qBT, z3R, ZIt]
     refine ⟨j + 1, g1, by dsimp only; omega, ?_⟩
     simp only [hst, show layS l d = l from if_pos gi]
     exact Bt.wk (by simp only [X1r, zVq, if_true, if_false, reduceIte, Nat.reduceAdd, Nat.reduceSub, Nat.reduceLeDiff, Nat.reduceEqDiff, Nat.reduceMul, Nat.reduceLT, Int.reduceLT, Int.reduceLE, Int.reduceEq])
    ·simp only [X1r, zVq, if_true, if_false, reduceIte, Nat.reduceAdd, Nat.reduceSub, Nat.reduceLeDiff, Nat.reduceEqDiff, Nat.reduceMul, Nat.reduceLT, Int.reduceLT, Int.reduceLE, Int.reduceEq, f2, e1, e2, e3, g1, gi, hdj, KdD, Kki, QOX, YHo, qBT, z3R, ZIt]
     refine ⟨j + 1, g1, by dsimp only; omega, ?_⟩
     simp only [hst, show layS l d = Qql l d from if_neg gi, J0z _ (KrO l d)]
     exact Bt.sel [0, 1, 3] hh (by decide) (by simp only [q9C, FrSel, BlkSel, AV.ren, renL, AV.ok, okL, Option.some.injEq, exists_eq_left', List.length_cons, List.length_nil, Nat.reduceAdd, Nat.reduceLT, reduceCtorEq, implies_true, exists_eq']) (by simp only [q9C, FrSel, BlkSel, AV.ren, renL, AV.ok, okL, Option.some.injEq, exists_eq_left', List.length_cons, List.length_nil, Nat.reduceAdd, Nat.reduceLT, reduceCtorEq, implies_true, exists_eq', fo3, fr2])
   obtain rfl : j = ds.length := by omega
   rw [List.take_length]
   have hll : (layR ds).length ≤ 1000000 := Nat.le_trans (Xl7 _) hl
   have hlm : ∀ d ∈ layR ds, KG5 d := fun d hd => hdr d (XTx ds d hd)
   generalize hld : layR ds = l at *
   have e2 : (l.length ≤ maxLen) = True := eq_true (by unfold maxLen; omega)
   refine YHj (S := Nat) (fun j => l.length - j) (fun j => tp 4 ++ [.p (h.length + 0) 0, .sl (h.length + 1) 0 16 16 none] ++ tp 1 ++ [apS dotR (h.length + 2) l] ++ tp 1 ++ [.p (h.length + 3) 0, .i .i64 j] ++ tp 90) (fun j => h ++ [.blk false true [.ns, .ns], .blk true true (intR.cells (fmR vs (l.take j)).1), resB dotR true l, .blk false true [.ns, apS dotR (h.length + 4) (fmR vs (l.take j)).2], resB dotR true (fmR vs (l.take j)).2]) (fun j => j ≤ l.length) 0 (Nat.zero_le _) ?_ fun j hj => ?_
   ·show Bt _ _ _ _ _ (h ++ [.blk false true [.ns, .ns], .blk true true (intR.cells (z5Z vs vs.length)), resB dotR true l, .blk false true [.ns, .ns], .dead])
    rw [show h ++ [AB.blk false true [.ns, .ns], .blk true true (intR.cells (z5Z vs vs.length)), resB dotR true l, .blk false true [.ns, .ns], .dead] = (h ++ [AB.blk false true [.ns, .ns], .blk true true (intR.cells (z5Z vs vs.length)), resB dotR true l, .blk false true [.ns, .ns]]) ++ List.replicate 1 .dead from by rw [List.append_assoc]; rfl]
    exact Bt.trans (Bt.wk (by simp only [X1r, zVq, if_true, if_false, reduceIte, Nat.reduceAdd, Nat.reduceSub, Nat.reduceLeDiff, Nat.reduceEqDiff, Nat.reduceMul, Nat.reduceLT, Int.reduceLT, Int.reduceLE, Int.reduceEq])) (Bt.pad _ _ 1)
   have hin := Jyu vs hv hvr hlm hj
   have hst := fun g1 : j < l.length => Jez vs g1
   generalize hfm : fmR vs (l.take j) = st at *
   obtain ⟨sn, ol⟩ := st
   obtain ⟨n1, n2, n3⟩ := hin
   dsimp only at n1 n2 n3
   simp only [X1r, zVq, if_true, if_false, reduceIte, Nat.reduceAdd, Nat.reduceSub, Nat.reduceLeDiff, Nat.reduceEqDiff, Nat.reduceMul, Nat.reduceLT, Int.reduceLT, Int.reduceLE, Int.reduceEq, f2, hld]
   refine ⟨fun g1 => ?_, fun g1 => ?_⟩
   ·have e1 : IntKind.i64.wrap ((j : Int) + 1) = ((j + 1 : Nat) : Int) := ZL4 (by unfold In64; omega)
    have hst := hst g1
    have hdm : KG5 (l.getD j dotR.d) := hlm _ (by rw [List.getD_eq_getElem?_getD, List.getElem?_eq_getElem g1]; exact List.getElem_mem g1)
    have fl := fun L k n => JVv (h := h) (r := dotR) (sz := 2) rfl L k l n
    have hl0 : l.length ≠ 0 := by omega
    have gr : ∀ id, apS dotR id l = rsl dotR id l := fun id => J0z _ hl0
    generalize hdj : l.getD j dotR.d = d at *
    have ⟨d1, d2, d3, d4⟩ := hdm
    have hk : (d.1 - 1).toNat < 16 := by omega
    have q1 : IntKind.i64.wrap (d.1 - 1) = d.1 - 1 := ZL4 (by unfold In64; omega)
    have q2 : (0 ≤ d.1 - 1 ∧ d.1 - 1 < 16) = True := eq_true (by omega)
    have q3 : (intR.cells sn)[0 + (d.1 - 1).toNat * 1]? = some (.i .i64 (sn.getD (d.1 - 1).toNat 0)) := by
     have := intR.cells_get sn (d.1 - 1).toNat 0 (by omega) (by decide)
     rw [Nat.zero_add, Nat.mul_one]
     rw [QPQ, Nat.mul_one, Nat.add_zero] at this
     exact this
    have q4 := n3 (d.1 - 1).toNat
    have q5 : IntKind.i64.wrap (sn.getD (d.1 - 1).toNat 0 + 1) = sn.getD (d.1 - 1).toNat 0 + 1 := ZL4 (by unfold In64; omega)
    have q6 : (0 + ((d.1 - 1).toNat * 1 + 1) ≤ (intR.cells sn).length) = True := eq_true (by rw [Row.cells_len, n1, QPQ]; omega)
    have q7 : ∀ y, over (intR.cells sn) (0 + (d.1 - 1).toNat * 1) [AV.i .i64 y] = intR.cells (sn.set (d.1 - 1).toNat y) := fun y => by
     rw [Nat.zero_add, Nat.mul_one, YK8 _ _ _ (by omega)]
    have fa := fun L k ys hb => J7h (h := h) (r := dotR) (sz := 2) rfl L k ol 16 1 ys hb (by decide) (by omega) (by unfold maxLen; omega)
    have ao : (apS dotR (h.length + 4) ol).ok (fun i => decide (i < h.length + 5)) = true := by unfold apS; split <;> simp [AV.ok]
    have g1' : ((j : Int) < (l.length : Int)) = True := eq_true (by omega)
    simp only [X1r, Z1D, zVq, if_true, if_false, reduceIte, Nat.reduceAdd, Nat.reduceSub, Nat.reduceLeDiff, Nat.reduceEqDiff, Nat.reduceMul, Nat.reduceLT, Int.reduceLT, Int.reduceLE, Int.reduceEq, CO.tmps, Opd.tmps, optT, Nat.reducePow, Nat.reduceDiv, Nat.reduceMod, gr, KnF (r := dotR) (sz := 2) rfl, fl, g1, hdj, KdD, e1, q1, q2, q3, q5, q6, q7, fa, QAC, QZp hz, QNE hh]
    refine ⟨fun g2 => ?_, fun g2 => ⟨fun g3 => ?_, fun g3 => ?_⟩⟩
    ·refine ⟨j + 1, g1, by dsimp only; omega, ?_⟩
     simp only [hst, show fmD (sn, ol) d = (sn.set (d.1 - 1).toNat (sn.getD (d.1 - 1).toNat 0 + 1), ol) from by simp only [fmD, if_pos g2]]
     exact Bt.sel [0, 1, 2, 3, 4] hh (by decide) (by simp only [q9C, FrSel, BlkSel, AV.ren, renL, AV.ok, okL, Option.some.injEq, exists_eq_left', List.length_cons, List.length_nil, Nat.reduceAdd, Nat.reduceLT, reduceCtorEq, implies_true, exists_eq', ao]) (by simp only [q9C, FrSel, BlkSel, AV.ren, renL, AV.ok, okL, Option.some.injEq, exists_eq_left', List.length_cons, List.length_nil, Nat.reduceAdd, Nat.reduceLT, reduceCtorEq, implies_true, exists_eq'])
    ·refine ⟨j + 1, g1, by dsimp only; omega, ?_⟩
     simp only [hst, show fmD (sn, ol) d = (sn, ol ++ [d]) from by simp only [fmD, if_neg g2, if_pos g3], XlZ, zbl]
     exact Bt.sel [0, 1, 2, 3, 7] hh (by decide) (by simp only [q9C, FrSel, BlkSel, AV.ren, renL, AV.ok, okL, Option.some.injEq, exists_eq_left', List.length_cons, List.length_nil, Nat.reduceAdd, Nat.reduceLT, reduceCtorEq, implies_true, exists_eq']) (by simp only [q9C, FrSel, BlkSel, AV.ren, renL, AV.ok, okL, Option.some.injEq, exists_eq_left', List.length_cons, List.length_nil, Nat.reduceAdd, Nat.reduceLT, reduceCtorEq, implies_true, exists_eq'])
    ·refine ⟨j + 1, g1, by dsimp only; omega, ?_⟩
     simp only [hst, show fmD (sn, ol) d = (sn, ol) from by simp only [fmD, if_neg g2, if_neg g3]]
     exact Bt.sel [0, 1, 2, 3, 4] hh (by decide) (by simp only [q9C, FrSel, BlkSel, AV.ren, renL, AV.ok, okL, Option.some.injEq, exists_eq_left', List.length_cons, List.length_nil, Nat.reduceAdd, Nat.reduceLT, reduceCtorEq, implies_true, exists_eq', ao]) (by simp only [q9C, FrSel, BlkSel, AV.ren, renL, AV.ok, okL, Option.some.injEq, exists_eq_left', List.length_cons, List.length_nil, Nat.reduceAdd, Nat.reduceLT, reduceCtorEq, implies_true, exists_eq'])
   ·obtain rfl : j = l.length := by omega
    rw [List.take_length] at hfm
    rw [hfm]
    dsimp only
    have aw : ∀ i x, Wk (.ag [x, rsl dotR i ol]) (.ag [x, apS dotR i ol]) = True := fun i x => eq_true (JEJ ⟨Wk.refl _, J2U i ol, trivial⟩)
    refine YMr (S := Nat) (fun n => n) (fun n => tp 4 ++ [.p (h.length + 0) 0, .sl (h.length + 1) 0 16 16 none] ++ tp 3 ++ [.p (h.length + 3) 0] ++ tp 2 ++ [.i .i64 n] ++ tp 88) (fun n => n ≤ 16 ∧ topI sn 16 = topI sn n) 16 ⟨Nat.le_refl _, rfl⟩ (by simp only [X1r, zVq, if_true, if_false, reduceIte, Nat.reduceAdd, Nat.reduceSub, Nat.reduceLeDiff, Nat.reduceEqDiff, Nat.reduceMul, Nat.reduceLT, Int.reduceLT, Int.reduceLE, Int.reduceEq]) fun n hn => ?_
    cases n with
    | zero =>
     have z1 : slL 1 (.sl (h.length + 1) 0 16 16 none) none (some (.i .i64 0)) none = some (.sl (h.length + 1) 0 0 16 none) := rfl
     simp only [X1r, zVq, if_true, if_false, reduceIte, Nat.reduceAdd, Nat.reduceSub, Nat.reduceLeDiff, Nat.reduceEqDiff, Nat.reduceMul, Nat.reduceLT, Int.reduceLT, Int.reduceLE, Int.reduceEq, z1]
     refine ⟨fun q => q.elim, ?_⟩
     rw [hn.2]
     exact Bt.sel [1, 4] hh (by decide) (by simp only [q9C, FrSel, BlkSel, AV.ren, renL, AV.ok, okL, Option.some.injEq, exists_eq_left', List.length_cons, List.length_nil, Nat.reduceAdd, Nat.reduceLT, reduceCtorEq, implies_true, exists_eq']) (by simp only [q9C, FrSel, BlkSel, AV.ren, renL, AV.ok, okL, Option.some.injEq, exists_eq_left', List.length_cons, List.length_nil, Nat.reduceAdd, Nat.reduceLT, reduceCtorEq, implies_true, exists_eq', aw, topI])
    | succ m =>
     have e1 : IntKind.i64.wrap (((m + 1 : Nat) : Int) - 1) = (m : Int) := by rw [show ((m + 1 : Nat) : Int) - 1 = (m : Int) from by omega]; exact ZL4 (by unfold In64; omega)
     have e2 : (0 < ((m + 1 : Nat) : Int)) = True := eq_true (by omega)
     have e3 : ((m : Int) < 16) = True := eq_true (by omega)
     have e4 : (intR.cells sn)[0 + m * 1]? = some (.i .i64 (sn.getD m 0)) := by
      have := intR.cells_get sn m 0 (by omega) (by decide)
      rw [Nat.zero_add, Nat.mul_one]
      rw [QPQ, Nat.mul_one, Nat.add_zero] at this
      exact this
     have z1 : slL 1 (.sl (h.length + 1) 0 16 16 none) none (some (.i .i64 ((m + 1 : Nat) : Int))) none = some (.sl (h.length + 1) 0 (m + 1) 16 none) := by
      simp only [slL, bnd]
      rw [if_pos (by omega)]
      rfl
     simp only [X1r, zVq, if_true, if_false, reduceIte, Nat.reduceAdd, Nat.reduceSub, Nat.reduceLeDiff, Nat.reduceEqDiff, Nat.reduceMul, Nat.reduceLT, Int.reduceLT, Int.reduceLE, Int.reduceEq, e1, e2, e3, e4, z1, QAC]
     refine ⟨⟨fun g2 => ⟨m, ⟨by omega, ?_⟩, by omega, Wk.refl _⟩, fun g2 => ?_⟩, fun q => q.elim⟩
     ·rw [hn.2]
      simp only [topI, if_pos g2]
     ·rw [hn.2, show topI sn (m + 1) = m + 1 from by simp only [topI, if_neg g2]]
      exact Bt.sel [1, 4] hh (by decide) (by simp only [q9C, FrSel, BlkSel, AV.ren, renL, AV.ok, okL, Option.some.injEq, exists_eq_left', List.length_cons, List.length_nil, Nat.reduceAdd, Nat.reduceLT, reduceCtorEq, implies_true, exists_eq']) (by simp only [q9C, FrSel, BlkSel, AV.ren, renL, AV.ok, okL, Option.some.injEq, exists_eq_left', List.length_cons, List.length_nil, Nat.reduceAdd, Nat.reduceLT, reduceCtorEq, implies_true, exists_eq', aw])
  ·cases e
 ·cases e
end Go.Proofs.YtfaccliekejngaaGreat
end
section
namespace Go.Proofs.YtfaccliekejngaaGreat
set_option maxRecDepth 100000
set_option maxHeartbeats 4000000
def fmO (v : List Int) (ds : Dots) : List Int × Dots := ((fmR v (layR ds)).1.take (topI (fmR v (layR ds)).1 16), (fmR v (layR ds)).2)
theorem zDF {α : Type} {r : Row α} {h L : List AB} {k c n : Nat} {kk : Option Nat} {l : List α} (hb : ownC L k = some (r.cells l)) (hl : l.length ≤ maxLen) (hn : n ≤ l.length) : Rd r (h ++ L) (.sl (h.length + k) 0 n c kk) (l.take n) := by
 have e : (l.take n).length = n := by rw [List.length_take]; omega
 refine Rd.mk_sl (xs := r.cells l) (by rw [Q4R]; exact hb) e.symm ?_ ?_ (by omega)
 ·rw [e, r.cells_len, Nat.zero_add]
  exact Nat.mul_le_mul_right _ hn
 ·rw [e, List.drop_zero, r.cells_take]
def KXy (v : List Int) (ds : Dots) : Int := if ¬ J6E v ds then 3 else if 4096 < ds.length then 10 else if fmO v ds = (v, ds) then 0 else 2
noncomputable def X1L : List AV → List AB → Option (AV × List AB)
 | [.ag [s, t]], h => (getS intR h s).bind fun v => (getS dotR h t).bind fun ds => some (.i .i64 (KXy v ds), h)
 | _, _ => none
theorem qeV : Spec Tryz.prog 61 X1L := by
 intro args h v h' e
 unfold X1L at e
 split at e
 ·rename_i s t
  obtain ⟨vs, hs, e⟩ := YI8 e
  obtain ⟨ds, ht, e⟩ := YI8 e
  cases e
  refine FnAt.c (FnAt.frz0 fun hz => ?_)
  replace hs := hs.frz
  replace ht := ht.frz
  generalize h.map AB.freeze = h at *
  refine FnAt.run (by kernel_rfl) (T := ⟨[⟨113, Qhe, fun _ => []⟩, ⟨115, J4e, fun _ => []⟩, ⟨114, Jb1, fun _ => []⟩], []⟩) ⟨⟨XE1, Xne, XPS, trivial⟩, trivial⟩ Tryz.func61 sw61 fun ho hh => ?_
  simp only [qMC, JAX, Bool.and_eq_true] at ho
  have f1 := hs.fx ho.1.1 (sz := 1) rfl
  have f2 := ht.fx ho.1.2.1 (sz := 2) rfl
  unfold w61
  simp only [XH8, QN9, X1r, zVq, simprocAttr, f1, f2, Qhe]
  refine ⟨fun g1 => ?_, fun g1 => ⟨fun g2 => ?_, fun g2 => ?_⟩⟩
  ·exact Bt.dropI _ hh (by simp only [KXy, if_pos g1])
  ·exact Bt.dropI _ hh (by simp only [KXy, if_neg g1]; rw [if_pos (by omega)])
  ·have g1' := Decidable.not_not.1 g1
   have hl : ds.length ≤ 1000000 := by omega
   have gc : (J6E vs ds ∧ ds.length ≤ 1000000) = True := eq_true ⟨g1', hl⟩
   have inv := Jyu vs g1'.1 g1'.2.1 (fun d hd => g1'.2.2 d (XTx ds d hd)) (Nat.le_refl (layR ds).length)
   rw [List.take_length] at inv
   have hll := Nat.le_trans (Xl7 ds) hl
   have t1 := ZGW (fmR vs (layR ds)).1 16
   have g3 : ∀ (L : List AB) (k : Nat), ownC L k = some (intR.cells (fmR vs (layR ds)).1) → getS intR (h ++ L) (.sl (h.length + k) 0 (topI (fmR vs (layR ds)).1 16) 16 none) = some (fmO vs ds).1 := fun L k hL => (zDF hL (by unfold maxLen; omega) (by omega)).get
   have g4 : ((fmR vs (layR ds)).2.length ≤ maxLen) = True := eq_true (by unfold maxLen; omega)
   have g5 : (fmR vs (layR ds)).2 = (fmO vs ds).2 := rfl
   simp only [X1r, Z1D, zVq, simprocAttr, CO.tmps, Opd.tmps, optT, Nat.reducePow, Nat.reduceDiv, Nat.reduceMod, f1, f2, J4e, Jb1, gc, g3, g4, YaF, qBT, z3R, QZp hz, QNE hh]
   have g6 : (fmO vs ds = (vs, ds)) ↔ ((fmO vs ds).1 = vs ∧ (fmR vs (layR ds)).2 = ds) := Prod.ext_iff
   have g7 : ¬ (4096 : Nat) < ds.length := by omega
   refine ⟨fun q => Bt.dropI _ hh ?_, fun q => Bt.dropI _ hh ?_⟩
   ·simp only [KXy, if_neg g1, if_neg g7, if_neg (mt g6.1 q)]
   ·simp only [KXy, if_neg g1, if_neg g7, if_pos (g6.2 (Decidable.not_not.1 q))]
 ·cases e
noncomputable def Yci : List AV → List AB → Option (AV × List AB)
 | [s, t], h => (getS intR h s).bind fun v => (getS dotR h t).bind fun ds => if ds.length ≤ 1000000 then
   if J6E v ds then
    if (fmO v ds).2.length ≤ 4096 then some (.tu [.ag [.sl h.length 0 (topI (fmR v (layR ds)).1 16) 16 none, rsl dotR (h.length + 1) (fmR v (layR ds)).2], .i .i64 0], h ++ [.blk true true (intR.cells (fmR v (layR ds)).1), resB dotR true (fmR v (layR ds)).2])
    else some (.tu [.ag [.ns, .ns], .i .i64 10], h)
   else some (.tu [.ag [.ns, .ns], .i .i64 3], h)
  else none
 | _, _ => none
theorem q8x : Spec Tryz.prog 74 Yci := by
 intro args h v h' e
 unfold Yci at e
 split at e
 ·rename_i s t
  obtain ⟨vs, hs, e⟩ := YI8 e
  obtain ⟨ds, ht, e⟩ := YI8 e
  split at e
  ·rename_i hl
   by_cases hr : J6E vs ds
   ·have g4 : ((fmR vs (layR ds)).2.length ≤ maxLen) = True := by
     have inv := Jyu vs hr.1 hr.2.1 (fun d hd => hr.2.2 d (XTx ds d hd)) (Nat.le_refl (layR ds).length)
     rw [List.take_length] at inv
     have hll := Nat.le_trans (Xl7 ds) hl
     exact eq_true (by unfold maxLen; omega)
    by_cases h4 : (fmO vs ds).2.length ≤ 4096
    ·rw [if_pos hr, if_pos h4] at e
     cases e
     refine FnAt.c (FnAt.run (by kernel_rfl) (T := ⟨[⟨113, Qhe, fun _ => []⟩, ⟨115, J4e, fun _ => []⟩], []⟩) ⟨⟨XE1, Xne, trivial⟩, trivial⟩ Tryz.func74 sw74 fun ho hh => ?_)
     simp only [qMC, Bool.and_eq_true] at ho
     have f1 := hs.fx ho.1 (sz := 1) rfl
     have f2 := ht.fx ho.2.1 (sz := 2) rfl
     unfold w74
     simp only [XH8, QN9, X1r, zVq, simprocAttr, f1, f2, Qhe, J4e, hr, hl]
     refine ⟨fun q => q.elim, fun q => absurd h4 (by show ¬ (fmR vs (layR ds)).2.length ≤ 4096; omega), fun _ => ?_⟩
     exact Bt.sel [1, 2] hh (by decide) (by simp only [q9C, FrSel, BlkSel, AV.ren, renL, AV.ok, okL, Option.some.injEq, exists_eq_left', List.length_cons, List.length_nil, Nat.reduceAdd, Nat.reduceLT, reduceCtorEq, implies_true, exists_eq']) (by simp only [q9C, FrSel, BlkSel, AV.ren, renL, AV.ok, okL, Option.some.injEq, exists_eq_left', List.length_cons, List.length_nil, Nat.reduceAdd, Nat.reduceLT, reduceCtorEq, implies_true, exists_eq'])
    ·rw [if_pos hr, if_neg h4] at e
     cases e
     refine FnAt.c (FnAt.run (by kernel_rfl) (T := ⟨[⟨113, Qhe, fun _ => []⟩, ⟨115, J4e, fun _ => []⟩], []⟩) ⟨⟨XE1, Xne, trivial⟩, trivial⟩ Tryz.func74 sw74 fun ho hh => ?_)
     simp only [qMC, Bool.and_eq_true] at ho
     have f1 := hs.fx ho.1 (sz := 1) rfl
     have f2 := ht.fx ho.2.1 (sz := 2) rfl
     unfold w74
     simp only [XH8, QN9, X1r, zVq, simprocAttr, f1, f2, Qhe, J4e, hr, hl]
     refine ⟨fun q => q.elim, fun _ => ?_, fun q => absurd (show (fmO vs ds).2.length ≤ 4096 from by show (fmR vs (layR ds)).2.length ≤ 4096; omega) h4⟩
     exact Bt.drop _ hh rfl rfl
   ·rw [if_neg hr] at e
    cases e
    refine FnAt.c (FnAt.run (by kernel_rfl) (T := ⟨[⟨113, Qhe, fun _ => []⟩, ⟨115, J4e, fun _ => []⟩], []⟩) ⟨⟨XE1, Xne, trivial⟩, trivial⟩ Tryz.func74 sw74 fun ho hh => ?_)
    simp only [qMC, Bool.and_eq_true] at ho
    have f1 := hs.fx ho.1 (sz := 1) rfl
    have f2 := ht.fx ho.2.1 (sz := 2) rfl
    unfold w74
    simp only [XH8, QN9, X1r, zVq, simprocAttr, f1, f2, Qhe, J4e, hr, hl]
    exact ⟨Bt.drop _ hh rfl rfl, fun q => q.elim⟩
  ·cases e
 ·cases e
end Go.Proofs.YtfaccliekejngaaGreat
end
section
namespace Go.Proofs.YtfaccliekejngaaGreat
theorem qnp (a b : Int × Int) : cmpD a b < 0 ↔ ZwT a b := by
 obtain ⟨a1, a2⟩ := a
 obtain ⟨b1, b2⟩ := b
 simp only [cmpD, cmpI, ZwT]
 repeat' split
 all_goals omega
theorem Yf9 (a b : Int × Int) : cmpD a b = 0 ↔ a = b := by
 obtain ⟨a1, a2⟩ := a
 obtain ⟨b1, b2⟩ := b
 simp only [cmpD, cmpI, Prod.mk.injEq]
 repeat' split
 all_goals omega
theorem zng (a : Int × Int) : ¬ ZwT a a := by simp [ZwT]
theorem YKM {a b c : Int × Int} (h : ZwT a b) (k : ZwT b c) : ZwT a c := by simp only [ZwT] at *; omega
theorem Y5F (a b : Int × Int) : ZwT a b ∨ a = b ∨ ZwT b a := by
 obtain ⟨a1, a2⟩ := a
 obtain ⟨b1, b2⟩ := b
 simp only [ZwT, Prod.mk.injEq]
 omega
def srtD (l : Dots) : Dots := l.mergeSort fun x y => !(decide (cmpD y x < 0))
theorem q0B (l : Dots) : (srtD l).Perm l := List.mergeSort_perm l _
theorem Qlc (l : Dots) (d : Int × Int) : d ∈ srtD l ↔ d ∈ l := (q0B l).mem_iff
theorem Q0e (l : Dots) : (srtD l).length = l.length := (q0B l).length_eq
def QdO (l : Dots) : Prop := l.Pairwise fun a b => ¬ ZwT b a
def Rise (l : Dots) : Prop := l.Pairwise ZwT
theorem QKr (l : Dots) : QdO (srtD l) := by
 have h := List.pairwise_mergeSort (le := fun x y : Int × Int => !(decide (cmpD y x < 0))) (fun a b c h1 h2 => ?_) (fun a b => ?_) l
 ·exact h.imp fun {a b} q => by simpa [qnp] using q
 ·simp only [Bool.not_eq_true', decide_eq_false_iff_not, qnp] at h1 h2 ⊢
  intro h3
  rcases Y5F a b with q | q | q
  ·exact h2 (YKM h3 q)
  ·subst q; exact h2 h3
  ·exact h1 q
 ·simp only [Bool.or_eq_true, Bool.not_eq_true', decide_eq_false_iff_not, qnp]
  by_cases h1 : ZwT b a
  ·exact .inr fun h2 => zng _ (YKM h1 h2)
  ·exact .inl h1
theorem ZYJ : ∀ {l l' : Dots}, Rise l → Rise l' → (∀ d, d ∈ l ↔ d ∈ l') → l = l'
 | [], [], _, _, _ => rfl
 | [], b :: l', _, _, h => absurd ((h b).2 (.head _)) (by simp)
 | a :: l, [], _, _, h => absurd ((h a).1 (.head _)) (by simp)
 | a :: l, b :: l', h1, h2, h => by
  have r1 := List.pairwise_cons.1 h1
  have r2 := List.pairwise_cons.1 h2
  have e : a = b := by
   rcases List.mem_cons.1 ((h a).1 (.head _)) with q | q
   ·exact q
   ·rcases List.mem_cons.1 ((h b).2 (.head _)) with z | z
    ·exact z.symm
    ·exact absurd (YKM (r2.1 a q) (r1.1 b z)) (zng _)
  subst e
  congr 1
  refine ZYJ r1.2 r2.2 fun d => ⟨fun hd => ?_, fun hd => ?_⟩
  ·rcases List.mem_cons.1 ((h d).1 (.tail _ hd)) with q | q
   ·subst q; exact absurd (r1.1 _ hd) (zng _)
   ·exact q
  ·rcases List.mem_cons.1 ((h d).2 (.tail _ hd)) with q | q
   ·subst q; exact absurd (r2.1 _ hd) (zng _)
   ·exact q
def zAX : Dots → Dots
 | [] => []
 | x :: l => if l.head? = some x then zAX l else x :: zAX l
theorem KKt : ∀ (l : Dots) (d : Int × Int), d ∈ zAX l ↔ d ∈ l
 | [], d => Iff.rfl
 | x :: l, d => by
  unfold zAX
  split
  ·rename_i h
   rw [KKt l d]
   have hx : x ∈ l := List.mem_of_mem_head? (by simpa using h)
   exact ⟨fun q => .tail _ q, fun q => by rcases List.mem_cons.1 q with rfl | q; exact hx; exact q⟩
  ·rw [List.mem_cons, List.mem_cons, KKt l d]
theorem qBQ : ∀ {l : Dots}, QdO l → Rise (zAX l)
 | [], _ => List.Pairwise.nil
 | x :: l, h => by
  have r := List.pairwise_cons.1 h
  unfold zAX
  split
  ·exact qBQ r.2
  ·rename_i hx
   refine List.pairwise_cons.2 ⟨fun d hd => ?_, qBQ r.2⟩
   have hd' := (KKt l d).1 hd
   rcases Y5F x d with q | q | q
   ·exact q
   ·subst q
    cases l with
    | nil => cases hd'
    | cons y l' =>
     have hy : y ≠ x := fun e => hx (by rw [e]; rfl)
     rcases List.mem_cons.1 hd' with z | z
     ·exact absurd z.symm hy
     ·have h1 := (List.pairwise_cons.1 r.2).1 x z
      have h2 := r.1 y (.head _)
      rcases Y5F x y with q | q | q
      ·exact absurd q h1
      ·exact absurd q.symm hy
      ·exact absurd q h2
   ·exact absurd q (r.1 d hd')
theorem qaw : ∀ (l : Dots) (d : Int × Int) (i : Nat), i < Jqd l d → ZwT (l.getD i dotR.d) d
 | l, d, i, h => (YgH l d dotR.d i (by omega) (by have := Z47 l d; omega)).2 h
theorem Qzb (l : Dots) (d : Int × Int) (h : Jqd l d < l.length) : ¬ ZwT (l.getD (Jqd l d) dotR.d) d := fun q => by
 have := (YgH l d dotR.d _ (Nat.le_refl _) h).1 q
 omega
theorem YPr {l : Dots} (d x : Int × Int) : x ∈ layS l d ↔ x ∈ l ∨ x = d := by
 unfold layS
 split
 ·rename_i h
  refine ⟨.inl, fun q => q.elim id fun e => ?_⟩
  subst e
  have := h.2
  rw [List.getD_eq_getElem?_getD, List.getElem?_eq_getElem h.1] at this
  have hm := List.getElem_mem h.1
  simp only [Option.getD_some] at this
  rw [this] at hm
  exact hm
 ·unfold Qql
  conv => rhs; rw [← List.take_append_drop (Jqd l d) l]
  simp only [List.mem_append, List.mem_cons]
  constructor
  ·rintro (q | q | q)
   ·exact .inl (.inl q)
   ·exact .inr q
   ·exact .inl (.inr q)
  ·rintro ((q | q) | q)
   ·exact .inl q
   ·exact .inr (.inr q)
   ·exact .inr (.inl q)
theorem zx3 {l : Dots} (h : Rise l) (d : Int × Int) : Rise (layS l d) := by
 unfold layS
 split
 ·exact h
 ·rename_i hn
  unfold Qql
  have h' := h
  rw [← List.take_append_drop (Jqd l d) l] at h'
  have h2 := List.pairwise_append.1 h'
  have a : ∀ x ∈ l.take (Jqd l d), ZwT x d := fun x hx => by
   obtain ⟨i, hi, rfl⟩ := List.getElem_of_mem hx
   rw [List.length_take] at hi
   have := qaw l d i (by omega)
   rw [List.getD_eq_getElem?_getD, List.getElem?_eq_getElem (by omega)] at this
   simpa using this
  have b : ∀ y ∈ l.drop (Jqd l d), ZwT d y := fun y hy => by
   have hlt : Jqd l d < l.length := by
    rcases Nat.lt_or_ge (Jqd l d) l.length with q | q
    ·exact q
    ·rw [List.drop_eq_nil_of_le q] at hy; cases hy
   have hz := Qzb l d hlt
   have hz2 : l.getD (Jqd l d) dotR.d ≠ d := fun e => hn ⟨hlt, e⟩
   have hz3 : ZwT d (l.getD (Jqd l d) dotR.d) := by
    rcases Y5F (l.getD (Jqd l d) dotR.d) d with q | q | q
    ·exact absurd q hz
    ·exact absurd q hz2
    ·exact q
   rw [List.drop_eq_getElem_cons hlt] at hy
   have e : l.getD (Jqd l d) dotR.d = l[Jqd l d] := by rw [List.getD_eq_getElem?_getD, List.getElem?_eq_getElem hlt]; rfl
   rw [e] at hz3
   rcases List.mem_cons.1 hy with rfl | hy
   ·exact hz3
   ·have := h2.2.1
    rw [List.drop_eq_getElem_cons hlt] at this
    exact YKM hz3 ((List.pairwise_cons.1 this).1 y hy)
  refine List.pairwise_append.2 ⟨h2.1, List.pairwise_cons.2 ⟨b, h2.2.1⟩, fun x hx y hy => ?_⟩
  rcases List.mem_cons.1 hy with rfl | hy
  ·exact a x hx
  ·exact YKM (a x hx) (b y hy)
theorem Xh8 : ∀ (ds l : Dots), Rise l → Rise (ds.foldl layS l) ∧ ∀ d, d ∈ ds.foldl layS l ↔ d ∈ l ∨ d ∈ ds
 | [], l, h => ⟨h, fun d => by simp⟩
 | x :: ds, l, h => by
  obtain ⟨h1, h2⟩ := Xh8 ds (layS l x) (zx3 h x)
  refine ⟨h1, fun d => ?_⟩
  rw [List.foldl_cons, h2 d, YPr, List.mem_cons, or_assoc]
theorem Jwr (ds : Dots) : Rise (layR ds) := (Xh8 ds [] List.Pairwise.nil).1
theorem YHT (ds : Dots) (d : Int × Int) : d ∈ layR ds ↔ d ∈ ds := by
 unfold layR
 simpa using (Xh8 ds [] List.Pairwise.nil).2 d
theorem qD3 (ds : Dots) : zAX (srtD ds) = layR ds :=
 ZYJ (qBQ (QKr ds)) (Jwr ds) fun d => by rw [KKt, Qlc, YHT]
theorem YTI (l : Dots) (d x : Int × Int) : (l ++ [d]).getD ((l ++ [d]).length - 1) x = d := by
 rw [List.getD_eq_getElem?_getD, List.length_append, List.length_singleton, Nat.add_sub_cancel, List.getElem?_append_right (Nat.le_refl _), Nat.sub_self]
 rfl
theorem KDp (s : AbS) {d : Int × Int} (hd : KG5 d) : absD (absD s d) d = absD s d := by
 by_cases h1 : d.2 ≤ vAt s.1 d.1
 ·have e : absD s d = s := by unfold absD; rw [if_pos h1]
  rw [e, e]
 ·by_cases h2 : d.2 = vAt s.1 d.1 + 1
  ·have e : absD s d = (YpI s.1 d, s.2) := by unfold absD; rw [if_neg h1, if_pos h2]
   rw [e]
   unfold absD
   rw [if_pos]
   rw [YXx s.1 hd (by omega), if_pos rfl]
   exact Int.le_refl _
  ·by_cases h3 : s.2.length = 0 ∨ s.2.getD (s.2.length - 1) dotR.d ≠ d
   ·have e : absD s d = (s.1, s.2 ++ [d]) := by unfold absD; rw [if_neg h1, if_neg h2, if_pos h3]
    rw [e]
    unfold absD
    rw [if_neg h1, if_neg h2, if_neg]
    rw [YTI]
    simp
   ·have e : absD s d = s := by unfold absD; rw [if_neg h1, if_neg h2, if_neg h3]
    rw [e, e]
theorem qcV : ∀ (l : Dots) (s : AbS), (∀ d ∈ l, KG5 d) → absR s l = absR s (zAX l)
 | [], s, _ => rfl
 | x :: l, s, h => by
  unfold zAX
  have hl := fun d hd => h d (.tail _ hd)
  split
  ·rename_i hx
   cases l with
   | nil => cases hx
   | cons y l' =>
    have : y = x := by simpa using hx
    subst this
    rw [← qcV _ s hl]
    simp only [absR, List.foldl_cons, KDp s (h y (.head _))]
  ·have := qcV l (absD s x) hl
   simp only [absR, List.foldl_cons] at this ⊢
   exact this
def SimV (xs sn : List Int) : Prop := sn.length = 16 ∧ xs.length ≤ 16 ∧ ∀ i : Nat, i < 16 → vAt xs ((i + 1 : Nat) : Int) = sn.getD i 0
theorem simD {s : AbS} {t : List Int × Dots} (hv : SimV s.1 t.1) (h2 : s.2 = t.2) {d : Int × Int} (hd : KG5 d) (hr : ∀ x ∈ s.2, ZwT x d) : SimV (absD s d).1 (fmD t d).1 ∧ (absD s d).2 = (fmD t d).2 := by
 obtain ⟨i, hi⟩ : ∃ i : Nat, d.1 = ((i + 1 : Nat) : Int) := ⟨(d.1 - 1).toNat, by have := hd.1; omega⟩
 have hi2 : i < 16 := by have := hd.2.1; omega
 have e1 : (d.1 - 1).toNat = i := by omega
 have e2 := hv.2.2 i hi2
 unfold absD fmD
 rw [e1, ← e2, hi]
 by_cases h1 : d.2 ≤ vAt s.1 ((i + 1 : Nat) : Int)
 ·rw [if_pos h1, if_neg (by omega), if_neg (by omega)]
  exact ⟨hv, h2⟩
 ·rw [if_neg h1]
  by_cases h3 : d.2 = vAt s.1 ((i + 1 : Nat) : Int) + 1
  ·rw [if_pos h3, if_pos h3]
   refine ⟨⟨by simp [hv.1], ?_, fun j hj => ?_⟩, h2⟩
   ·have := XKw s.1 d
    have := hv.2.1
    simp only
    omega
   ·simp only
    rw [YXx s.1 hd (by rw [hi]; omega), hi]
    rw [List.getD_eq_getElem?_getD, List.getElem?_set]
    by_cases hij : i = j
    ·subst hij
     rw [if_pos rfl, if_pos rfl, if_pos (by rw [hv.1]; exact hj)]
     exact h3
    ·rw [if_neg (by omega), if_neg hij, ← List.getD_eq_getElem?_getD]
     exact hv.2.2 j hj
  ·have h4 : s.2.length = 0 ∨ s.2.getD (s.2.length - 1) dotR.d ≠ d := by
    by_cases h0 : s.2.length = 0
    ·exact .inl h0
    ·refine .inr fun q => ?_
     have hlt : s.2.length - 1 < s.2.length := by omega
     rw [List.getD_eq_getElem?_getD, List.getElem?_eq_getElem hlt] at q
     have := hr _ (List.getElem_mem hlt)
     rw [show s.2[s.2.length - 1] = d from q] at this
     exact zng _ this
   rw [if_neg h3, if_neg h3, if_pos h4, if_pos (show vAt s.1 ((i + 1 : Nat) : Int) < d.2 by omega)]
   exact ⟨hv, by simp only [h2]⟩
theorem QZR (s : AbS) (d : Int × Int) : ∀ x ∈ (absD s d).2, x ∈ s.2 ∨ x = d := fun x hx => by
 unfold absD at hx
 split at hx
 ·exact .inl hx
 ·split at hx
  ·exact .inl hx
  ·split at hx
   ·simpa using hx
   ·exact .inl hx
theorem simR : ∀ (l : Dots) (s : AbS) (t : List Int × Dots), SimV s.1 t.1 → s.2 = t.2 → (∀ d ∈ l, KG5 d) → Rise l → (∀ x ∈ s.2, ∀ d ∈ l, ZwT x d) → SimV (absR s l).1 (l.foldl fmD t).1 ∧ (absR s l).2 = (l.foldl fmD t).2
 | [], s, t, hv, h2, _, _, _ => ⟨hv, h2⟩
 | d :: l, s, t, hv, h2, hd, hr, hx => by
  obtain ⟨q1, q2⟩ := simD hv h2 (hd d (.head _)) fun x h => hx x h d (.head _)
  have r := List.pairwise_cons.1 hr
  have := simR l (absD s d) (fmD t d) q1 q2 (fun y hy => hd y (.tail _ hy)) r.2 fun x h y hy => by
   rcases QZR s d x h with z | z
   ·exact hx x z y (.tail _ hy)
   ·subst z; exact r.1 y hy
  simpa only [absR, List.foldl_cons] using this
def Trim (xs : List Int) : Prop := xs.length = 0 ∨ xs.getD (xs.length - 1) 0 ≠ 0
theorem z6s : ∀ (xs : List Int) (n : Nat), n ≤ xs.length → Trim (xs.take (topI xs n))
 | xs, 0, _ => .inl (by simp [topI])
 | xs, n + 1, h => by
  unfold topI
  split
  ·exact z6s xs n (by omega)
  ·rename_i hx
   refine .inr ?_
   have e : (xs.take (n + 1)).length = n + 1 := by rw [List.length_take]; omega
   rw [e, Nat.add_sub_cancel, List.getD_eq_getElem?_getD, List.getElem?_take, if_pos (by omega), ← List.getD_eq_getElem?_getD]
   exact hx
theorem J0Z : ∀ (xs : List Int) (n i : Nat), topI xs n ≤ i → i < n → xs.getD i 0 = 0
 | xs, 0, i, _, h => absurd h (Nat.not_lt_zero _)
 | xs, n + 1, i, h1, h2 => by
  unfold topI at h1
  split at h1
  ·rename_i hx
   by_cases hi : i = n
   ·subst hi; exact hx
   ·exact J0Z xs n i h1 (by omega)
  ·omega
theorem X0i (xs : List Int) : ∀ n, n ≤ xs.length → K29 xs n = xs.take (topI xs n)
 | 0, _ => by simp [K29, topI]
 | n + 1, h => by
  unfold K29 topI
  rw [show intR.d = (0 : Int) from rfl]
  split
  ·exact X0i xs n (by omega)
  ·rfl
theorem Yz9 (xs : List Int) (r : Int) : vAt (xs.take (topI xs xs.length)) r = vAt xs r := by
 have ht := ZGW xs xs.length
 have hl : (xs.take (topI xs xs.length)).length = topI xs xs.length := by rw [List.length_take]; omega
 by_cases h : r < 1 ∨ (xs.length : Int) < r
 ·rw [J4U _ _ h, J4U _ _ (by rw [hl]; omega)]
 ·obtain ⟨i, rfl⟩ : ∃ i : Nat, r = ((i + 1 : Nat) : Int) := ⟨(r - 1).toNat, by omega⟩
  rw [YAu xs i (by omega)]
  by_cases hi : i < topI xs xs.length
  ·rw [YAu _ i (by omega), List.getD_eq_getElem?_getD, List.getElem?_take, if_pos hi, ← List.getD_eq_getElem?_getD]
  ·rw [J4U _ _ (by rw [hl]; omega), J0Z xs xs.length i (by omega) (by omega)]
   rfl
theorem XXo {xs ys : List Int} (hx : ∀ n ∈ xs, 0 ≤ n) (hy : ∀ n ∈ ys, 0 ≤ n) (tx : Trim xs) (ty : Trim ys) (h : ∀ r, vAt xs r = vAt ys r) : xs = ys := by
 have key : ∀ {xs ys : List Int}, (∀ n ∈ xs, 0 ≤ n) → Trim xs → (∀ r, vAt xs r = vAt ys r) → xs.length ≤ ys.length := fun {xs ys} hx tx h => by
  rcases Nat.lt_or_ge ys.length xs.length with q | q
  ·have h0 : xs.length ≠ 0 := by omega
   rcases tx with t | t
   ·exact absurd t h0
   ·have := h (((xs.length - 1) + 1 : Nat) : Int)
    rw [YAu xs _ (by omega), J4U ys _ (by omega)] at this
    have hm : xs.getD (xs.length - 1) 0 ∈ xs := by
     rw [List.getD_eq_getElem?_getD, List.getElem?_eq_getElem (by omega : xs.length - 1 < xs.length)]
     exact List.getElem_mem _
    have := hx _ hm
    omega
  ·exact q
 have l1 := key hx tx h
 have l2 := key hy ty fun r => (h r).symm
 refine List.ext_getElem (by omega) fun i h1 h2 => ?_
 have := h ((i + 1 : Nat) : Int)
 rw [YAu xs i h1, YAu ys i h2, List.getD_eq_getElem?_getD, List.getD_eq_getElem?_getD, List.getElem?_eq_getElem h1, List.getElem?_eq_getElem h2] at this
 have := hx _ (List.getElem_mem h1)
 have := hy _ (List.getElem_mem h2)
 simp only [Option.getD_some] at *
 omega
theorem KDU (xs ys : List Int) : ∀ n ∈ qIk xs ys, 0 ≤ n := fun n hn => by
 simp only [qIk, jn, List.mem_map, List.mem_range] at hn
 obtain ⟨i, _, rfl⟩ := hn
 have := KJL xs ((i + 1 : Nat) : Int)
 omega
theorem Ku4 (xs : List Int) (d : Int × Int) : ∀ n ∈ YpI xs d, 0 ≤ n := by
 unfold YpI
 split <;> exact KDU _ _
theorem K8K : ∀ (l : Dots) (s : AbS), (∀ n ∈ s.1, 0 ≤ n) → ∀ n ∈ (absR s l).1, 0 ≤ n
 | [], s, h => h
 | d :: l, s, h => by
  have := K8K l (absD s d) (by
   unfold absD
   split
   ·exact h
   ·split
    ·exact Ku4 _ _
    ·split <;> exact h)
  simpa only [absR, List.foldl_cons] using this
def bldO (v : List Int) (ds : Dots) : AbS := (K29 (absR (v, []) (srtD ds)).1 (absR (v, []) (srtD ds)).1.length, (absR (v, []) (srtD ds)).2)
theorem sim0 {v : List Int} (hl : v.length ≤ 16) (hp : ∀ n ∈ v, 0 ≤ n) {x : List Int} (hx : x.length ≤ 16) (hxv : ∀ r, vAt x r = vAt v r) : SimV x (z5Z v v.length) := by
 refine ⟨zf6 v (Nat.le_refl _) hl, hx, fun i hi => ?_⟩
 rw [hxv]
 unfold z5Z
 rw [List.take_length]
 by_cases h : i < v.length
 ·rw [YAu v i h, List.getD_eq_getElem?_getD, List.getD_eq_getElem?_getD, List.getElem?_append_left h, List.getElem?_eq_getElem h]
  have := hp _ (List.getElem_mem h)
  simp only [Option.getD_some]
  omega
 ·rw [J4U v _ (by omega), List.getD_eq_getElem?_getD, List.getElem?_append_right (by omega), List.getElem?_replicate]
  split <;> rfl
theorem QXY {v x : List Int} {ds : Dots} (hr : J6E v ds) (hx : x.length ≤ 16) (hp : ∀ n ∈ x, 0 ≤ n) (hxv : ∀ r, vAt x r = vAt v r) : bldO x ds = fmO v ds := by
 have hd : ∀ d ∈ srtD ds, KG5 d := fun d hd => hr.2.2 d ((Qlc ds d).1 hd)
 have e := qcV (srtD ds) (x, []) hd
 rw [qD3] at e
 have hd2 : ∀ d ∈ layR ds, KG5 d := fun d hd => hr.2.2 d (XTx ds d hd)
 obtain ⟨q1, q2⟩ := simR (layR ds) (x, []) (z5Z v v.length, []) (sim0 hr.1 (fun n hn => (hr.2.1 n hn).1) hx hxv) rfl hd2 (Jwr ds) (fun y hy => by cases hy)
 have inv := Jyu v hr.1 hr.2.1 hd2 (Nat.le_refl (layR ds).length)
 rw [List.take_length] at inv
 unfold bldO fmO
 rw [e]
 refine Prod.ext ?_ q2
 simp only
 have hpos := K8K (layR ds) (x, []) hp
 generalize hA : absR (x, []) (layR ds) = A at *
 have hF : (layR ds).foldl fmD (z5Z v v.length, []) = fmR v (layR ds) := rfl
 rw [hF] at q1
 generalize fmR v (layR ds) = F at *
 rw [X0i _ _ (Nat.le_refl _)]
 have t16 : topI F.1 16 = topI F.1 F.1.length := by rw [q1.1]
 rw [t16]
 refine XXo (fun n hn => hpos n (List.mem_of_mem_take hn)) (fun n hn => ?_) (z6s _ _ (Nat.le_refl _)) (z6s _ _ (Nat.le_refl _)) fun r => ?_
 ·obtain ⟨k, hk, rfl⟩ := List.getElem_of_mem (List.mem_of_mem_take hn)
  have := (inv.2.2 k).1
  rw [List.getD_eq_getElem?_getD, List.getElem?_eq_getElem hk] at this
  exact this
 ·rw [Yz9, Yz9]
  by_cases h : r < 1 ∨ 16 < r
  ·rw [J4U _ _ (by have := q1.2.1; omega), J4U _ _ (by rw [q1.1]; omega)]
  ·obtain ⟨i, rfl⟩ : ∃ i : Nat, r = ((i + 1 : Nat) : Int) := ⟨(r - 1).toNat, by omega⟩
   rw [q1.2.2 i (by omega), YAu _ i (by rw [q1.1]; omega)]
   have := (inv.2.2 i).1
   omega
end Go.Proofs.YtfaccliekejngaaGreat
end
