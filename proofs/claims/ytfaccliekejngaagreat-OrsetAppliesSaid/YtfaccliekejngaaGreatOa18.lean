/- Part 18 of what the laws' proofs rest on. No condition. -/
import Derived.Test.YtfaccliekejngaaGreatOa17
set_option linter.all false
section
namespace Go.Proofs.YtfaccliekejngaaGreat
set_option maxRecDepth 100000
set_option maxHeartbeats 4000000
def Khv (v : List Int) (i : Nat) : List Int := v.take i ++ List.replicate (16 - i) 0
theorem QF5 (v : List Int) {i : Nat} (h : i ≤ v.length) (h2 : v.length ≤ 16) : (Khv v i).length = 16 := by
 simp only [Khv, List.length_append, List.length_take, List.length_replicate]
 omega
theorem Zzg (v : List Int) {i : Nat} (h : i < v.length) (h2 : v.length ≤ 16) : (Khv v i).set i (v.getD i 0) = Khv v (i + 1) := by
 unfold Khv
 have e1 : (v.take i).length = i := by rw [List.length_take]; omega
 rw [List.set_append_right _ _ (by omega), e1, Nat.sub_self, List.take_succ_eq_append_getElem h, List.getD_eq_getElem?_getD, List.getElem?_eq_getElem h, show 16 - i = (16 - (i + 1)) + 1 from by omega, Option.getD_some, List.replicate_succ, List.set_cons_zero, List.append_assoc]
 rfl
def layS (l : Dots) (d : Int × Int) : Dots := if KHx l d then l else QCg l d
def layR (ds : Dots) : Dots := ds.foldl layS []
theorem JpZ {ds : Dots} {i : Nat} (h : i < ds.length) : layR (ds.take (i + 1)) = layS (layR (ds.take i)) (ds.getD i dotR.d) := by
 unfold layR
 rw [List.take_succ_eq_append_getElem h, List.foldl_append, List.getD_eq_getElem?_getD, List.getElem?_eq_getElem h]
 rfl
theorem Qlw (l : Dots) (d : Int × Int) : (layS l d).length ≤ l.length + 1 := by
 unfold layS
 split
 ·omega
 ·unfold QCg
  have := Ys6 l d
  simp only [List.length_append, List.length_cons, List.length_take, List.length_drop]
  omega
theorem qcf {l : Dots} {d x : Int × Int} (h : x ∈ layS l d) : x ∈ l ∨ x = d := by
 unfold layS at h
 split at h
 ·exact .inl h
 ·unfold QCg at h
  rcases List.mem_append.1 h with h | h
  ·exact .inl (List.mem_of_mem_take h)
  ·rcases List.mem_cons.1 h with h | h
   ·exact .inr h
   ·exact .inl (List.mem_of_mem_drop h)
theorem XH4 (ds : Dots) : ∀ x ∈ layR ds, x ∈ ds := by
 have : ∀ (ds l : Dots), ∀ x ∈ ds.foldl layS l, x ∈ l ∨ x ∈ ds := fun ds => by
  induction ds with
  | nil => exact fun l x h => .inl h
  | cons d ds ih =>
   intro l x h
   rcases ih _ x h with h | h
   ·exact (qcf h).imp (fun z => z) fun q => by rw [q]; exact List.mem_cons_self
   ·exact .inr (List.mem_cons_of_mem _ h)
 exact fun x h => (this ds [] x h).elim (fun h => by cases h) id
theorem ZfA (ds : Dots) : (layR ds).length ≤ ds.length := by
 have : ∀ (ds l : Dots), (ds.foldl layS l).length ≤ l.length + ds.length := fun ds => by
  induction ds with
  | nil => exact fun l => Nat.le_refl _
  | cons d ds ih =>
   intro l
   have h1 := ih (layS l d)
   have h2 := Qlw l d
   simp only [List.foldl_cons, List.length_cons]
   omega
 have := this ds []
 simp only [List.length_nil] at this
 unfold layR
 omega
def fmD (s : List Int × Dots) (d : Int × Int) : List Int × Dots :=
 if d.2 = s.1.getD (d.1 - 1).toNat 0 + 1 then (s.1.set (d.1 - 1).toNat (s.1.getD (d.1 - 1).toNat 0 + 1), s.2)
 else if s.1.getD (d.1 - 1).toNat 0 < d.2 then (s.1, s.2 ++ [d]) else s
def fmR (v : List Int) (l : Dots) : List Int × Dots := l.foldl fmD (Khv v v.length, [])
theorem KHl (v : List Int) {l : Dots} {i : Nat} (h : i < l.length) : fmR v (l.take (i + 1)) = fmD (fmR v (l.take i)) (l.getD i dotR.d) := by
 unfold fmR
 rw [List.take_succ_eq_append_getElem h, List.foldl_append, List.getD_eq_getElem?_getD, List.getElem?_eq_getElem h]
 rfl
def topI (sn : List Int) : Nat → Nat
 | 0 => 0
 | n + 1 => if sn.getD n 0 = 0 then topI sn n else n + 1
theorem X40 (sn : List Int) : ∀ n, topI sn n ≤ n
 | 0 => Nat.le_refl _
 | n + 1 => by
  have := X40 sn n
  unfold topI
  split <;> omega
theorem zDi (s : List Int × Dots) {d : Int × Int} (hd : XOk d) (h1 : s.1.length = 16) (h2 : ∀ k, 0 ≤ s.1.getD k 0 ∧ s.1.getD k 0 ≤ 1048576) : (fmD s d).1.length = 16 ∧ (fmD s d).2.length ≤ s.2.length + 1 ∧ ∀ k, 0 ≤ (fmD s d).1.getD k 0 ∧ (fmD s d).1.getD k 0 ≤ 1048576 := by
 unfold fmD
 obtain ⟨a1, a2, a3, a4⟩ := hd
 split
 ·rename_i e
  refine ⟨by simp only [List.length_set, h1], by dsimp only; omega, fun k => ?_⟩
  dsimp only
  rw [List.getD_eq_getElem?_getD, List.getElem?_set]
  split
  ·have := h2 (d.1 - 1).toNat
   rw [if_pos (by omega), Option.getD_some]
   omega
  ·rw [← List.getD_eq_getElem?_getD]
   exact h2 k
 ·split
  ·exact ⟨h1, by simp, h2⟩
  ·exact ⟨h1, by omega, h2⟩
theorem XQc (v : List Int) (i k : Nat) (h : ∀ n ∈ v, 0 ≤ n ∧ n ≤ 1048576) : 0 ≤ (Khv v i).getD k 0 ∧ (Khv v i).getD k 0 ≤ 1048576 := by
 rw [List.getD_eq_getElem?_getD]
 cases e : (Khv v i)[k]? with
 | none => simp
 | some x =>
  have hx := List.mem_of_getElem? e
  unfold Khv at hx
  rcases List.mem_append.1 hx with hx | hx
  ·exact h x (List.mem_of_mem_take hx)
  ·have := (List.mem_replicate.1 hx).2
   subst this
   simp
theorem KjD (v : List Int) (hv : v.length ≤ 16) (hr : ∀ n ∈ v, 0 ≤ n ∧ n ≤ 1048576) {l : Dots} (hl : ∀ d ∈ l, XOk d) : ∀ {i : Nat}, i ≤ l.length → (fmR v (l.take i)).1.length = 16 ∧ (fmR v (l.take i)).2.length ≤ i ∧ ∀ k, 0 ≤ (fmR v (l.take i)).1.getD k 0 ∧ (fmR v (l.take i)).1.getD k 0 ≤ 1048576
 | 0, _ => ⟨QF5 v (Nat.le_refl _) hv, Nat.le_refl _, fun k => XQc v _ k hr⟩
 | i + 1, h => by
  obtain ⟨h1, h2, h3⟩ := KjD v hv hr hl (Nat.le_of_succ_le h)
  rw [KHl v h]
  obtain ⟨b1, b2, b3⟩ := zDi (fmR v (l.take i)) (hl (l.getD i dotR.d) (by rw [List.getD_eq_getElem?_getD, List.getElem?_eq_getElem h]; exact List.getElem_mem h)) h1 h3
  exact ⟨b1, by omega, b3⟩
theorem WkL.get : ∀ {l' l : List AV}, WkL l' l → l'.length = l.length ∧ ∀ (j : Nat) (a' a : AV), l'[j]? = some a' → l[j]? = some a → Wk a' a
 | [], [], _ => ⟨rfl, fun j a' a h _ => by simp at h⟩
 | b' :: l', b :: l, h => by
  obtain ⟨h1, h2⟩ := WkL.get h.2
  refine ⟨by simp [h1], fun j a' a e1 e2 => ?_⟩
  cases j with
  | zero =>
   cases e1
   cases e2
   exact h.1
  | succ j => exact h2 j a' a (by simpa using e1) (by simpa using e2)
 | [], _ :: _, h => h.elim
 | _ :: _, [], h => h.elim
theorem Xee {l' l : List AV} (h : WkL l' l) : Wk (.ag l') (.ag l) := fun ρ c v => by
 cases v with
 | ag _ cs hn hv =>
  obtain ⟨h1, h2⟩ := h.get
  refine .ag l' cs (by rw [h1]; exact hn) fun j a' c e1 e2 => ?_
  have hj : j < l.length := by rw [← h1]; exact (List.getElem?_eq_some_iff.1 e1).1
  exact h2 j a' l[j] e1 (List.getElem?_eq_getElem hj) ρ c (hv j _ c (List.getElem?_eq_getElem hj) e2)
theorem Q4z (l : Dots) (d : Int × Int) : (QCg l d).length ≠ 0 := by
 unfold QCg
 simp
theorem zcV {α : Type} {r : Row α} {h : List AB} (L : List AB) (k : Nat) (l : List α) (e : ownR r l L k) (hl : l.length ≤ maxLen) : getS r (h ++ L) (apS r (h.length + k) l) = some l := by
 by_cases h0 : l.length = 0
 ·have : l = [] := List.eq_nil_of_length_eq_zero h0
  subst this
  exact XoA r _
 ·rw [Y8V _ h0]
  exact ZZ4 L k l e hl
theorem Qxu {α : Type} {r : Row α} (id : Nat) (l : List α) : (apS r id l).capOk = true := by
 unfold apS
 split <;> simp [AV.capOk]
noncomputable def Yo2 : List AV → List AB → Option (AV × List AB)
 | [s, t], h => (getS intR h s).bind fun v => (getS dotR h t).bind fun ds => if ZHB v ds ∧ ds.length ≤ 1000000 then
   some (.ag [.sl h.length 0 (topI (fmR v (layR ds)).1 16) 16 none, rsl dotR (h.length + 1) (fmR v (layR ds)).2], h ++ [.blk true true (intR.cells (fmR v (layR ds)).1), resB dotR true (fmR v (layR ds)).2]) else none
 | _, _ => none
theorem JyZ : Spec Tryz.prog 115 Yo2 := by
 intro args h v h' e
 unfold Yo2 at e
 split at e
 ·rename_i s t
  obtain ⟨vs, hs, e⟩ := KsT e
  obtain ⟨ds, ht, e⟩ := KsT e
  split at e
  ·rename_i hc
   obtain ⟨⟨hv, hvr, hdr⟩, hl⟩ := hc
   cases e
   refine FnAt.c (FnAt.frz fun hz => ?_)
   rw [show h.length = (h.map AB.freeze).length from (List.length_map _).symm]
   replace hs := hs.frz
   replace ht := ht.frz
   generalize h.map AB.freeze = h at *
   refine FnAt.run (by kernel_rfl) (T := ⟨[⟨145, ZRY, fun _ => []⟩], []⟩) ⟨⟨YiL, trivial⟩, trivial⟩ Tryz.func115 qv5 fun ho hh => ?_
   simp only [znG, Bool.and_eq_true] at ho
   have f1 := hs.fx ho.1 (sz := 1) rfl
   have f2 := ht.fx ho.2.1 (sz := 2) rfl
   unfold w115
   simp only [YGO, Jyg, X5g, QXB, if_true, if_false, reduceIte, Nat.reduceAdd, Nat.reduceSub, Nat.reduceLeDiff, Nat.reduceEqDiff, Nat.reduceMul, Nat.reduceLT, Int.reduceLT, Int.reduceLE, Int.reduceEq, f1, f2]
   have c1 : (List.replicate 16 [AV.i .i64 0]).flatten = intR.cells (Khv vs 0) := Jc2 intR 16 0
   have c2 : ((8 : Int) * 16 ≤ 2 ^ 47 ∧ (16 : Int) ≤ (maxLen : Int)) = True := eq_true ⟨by decide, by unfold maxLen; omega⟩
   have c3 : Int.toNat 16 = 16 := rfl
   have fo3 : ∀ c, t.ok (fun i => decide (i < h.length + c)) = true := fun c => AV.ok_mono (fun i q => by simp only [decide_eq_true_eq] at q ⊢; omega) _ ho.2.1
   have fr2 : ∀ sel, Wk (t.ren (selN h.length sel)) t := fun sel => Wk.ren (fun i hi => Xzs hi) ho.2.1
   have m1 := hs.2
   have m2 := ht.2
   unfold maxLen at m1 m2
   simp only [X5g, QXB, if_true, if_false, reduceIte, Nat.reduceAdd, Nat.reduceSub, Nat.reduceLeDiff, Nat.reduceEqDiff, Nat.reduceMul, Nat.reduceLT, Int.reduceLT, Int.reduceLE, Int.reduceEq, c1, c2, c3, f1, f2]
   refine JEe (S := Nat) (fun i => vs.length - i) (fun i => [s, t] ++ tp 2 ++ [.p (h.length + 0) 0, .sl (h.length + 1) 0 16 16 none, .i .i64 i] ++ tp 94) (fun i => h ++ [.blk false true [.ns, .ns], .blk true true (intR.cells (Khv vs i))]) (fun i => i ≤ vs.length) 0 (Nat.zero_le _) ?_ fun i hi => ?_
   ·exact Bt.wk (by simp only [X5g, QXB, if_true, if_false, reduceIte, Nat.reduceAdd, Nat.reduceSub, Nat.reduceLeDiff, Nat.reduceEqDiff, Nat.reduceMul, Nat.reduceLT, Int.reduceLT, Int.reduceLE, Int.reduceEq])
   simp only [X5g, QXB, if_true, if_false, reduceIte, Nat.reduceAdd, Nat.reduceSub, Nat.reduceLeDiff, Nat.reduceEqDiff, Nat.reduceMul, Nat.reduceLT, Int.reduceLT, Int.reduceLE, Int.reduceEq, f1, f2, ZEp]
   refine ⟨fun g1 => ?_, fun g1 => ?_⟩
   ·have e1 : IntKind.i64.wrap ((i : Int) + 1) = ((i + 1 : Nat) : Int) := q6V (by unfold In64; omega)
    have e2 : ((i : Int) < 16) = True := eq_true (by omega)
    have e3 : (0 + (i * 1 + 1) ≤ (intR.cells (Khv vs i)).length) = True := eq_true (by rw [Row.cells_len, QF5 vs hi hv, Qmu]; omega)
    have e4 : over (intR.cells (Khv vs i)) (0 + i * 1) [AV.i .i64 (vs.getD i intR.d)] = intR.cells (Khv vs (i + 1)) := by
     rw [Nat.zero_add, Nat.mul_one, qEw _ _ _ (by rw [QF5 vs hi hv]; omega)]
     exact congrArg intR.cells (Zzg vs g1 hv)
    simp only [X5g, QXB, if_true, if_false, reduceIte, Nat.reduceAdd, Nat.reduceSub, Nat.reduceLeDiff, Nat.reduceEqDiff, Nat.reduceMul, Nat.reduceLT, Int.reduceLT, Int.reduceLE, Int.reduceEq, f1, f2, ZEp, e1, e2, e3, e4, g1, KH7]
    exact ⟨i + 1, g1, by dsimp only; omega, Bt.wk (by simp only [X5g, QXB, if_true, if_false, reduceIte, Nat.reduceAdd, Nat.reduceSub, Nat.reduceLeDiff, Nat.reduceEqDiff, Nat.reduceMul, Nat.reduceLT, Int.reduceLT, Int.reduceLE, Int.reduceEq])⟩
   obtain rfl : i = vs.length := by omega
   have ns : (Khv vs vs.length).length = 16 := QF5 vs (Nat.le_refl _) hv
   refine JEe (S := Nat) (fun j => ds.length - j) (fun j => tp 1 ++ [t] ++ tp 2 ++ [.p (h.length + 0) 0, .sl (h.length + 1) 0 16 16 none] ++ tp 1 ++ [apS dotR (h.length + 2) (layR (ds.take j)), .i .i64 j] ++ tp 92) (fun j => h ++ [.blk false true [.ns, .ns], .blk true true (intR.cells (Khv vs vs.length)), resB dotR true (layR (ds.take j))]) (fun j => j ≤ ds.length) 0 (Nat.zero_le _) ?_ fun j hj => ?_
   ·show Bt _ _ _ _ _ (h ++ [.blk false true [.ns, .ns], .blk true true (intR.cells (Khv vs vs.length)), .dead])
    rw [show h ++ [AB.blk false true [.ns, .ns], .blk true true (intR.cells (Khv vs vs.length)), .dead] = (h ++ [AB.blk false true [.ns, .ns], .blk true true (intR.cells (Khv vs vs.length))]) ++ List.replicate 1 .dead from by rw [List.append_assoc]; rfl]
    refine Bt.trans (Bt.wk ?_) (Bt.pad _ _ 1)
    rw [show apS dotR (h.length + 2) (layR (ds.take 0)) = .ns from rfl]
    simp only [X5g, QXB, if_true, if_false, reduceIte, Nat.reduceAdd, Nat.reduceSub, Nat.reduceLeDiff, Nat.reduceEqDiff, Nat.reduceMul, Nat.reduceLT, Int.reduceLT, Int.reduceLE, Int.reduceEq]
   simp only [X5g, QXB, if_true, if_false, reduceIte, Nat.reduceAdd, Nat.reduceSub, Nat.reduceLeDiff, Nat.reduceEqDiff, Nat.reduceMul, Nat.reduceLT, Int.reduceLT, Int.reduceLE, Int.reduceEq, f2]
   refine ⟨fun g1 => ?_, fun g1 => ?_⟩
   ·have e1 : IntKind.i64.wrap ((j : Int) + 1) = ((j + 1 : Nat) : Int) := q6V (by unfold In64; omega)
    have hst := JpZ g1
    have hll : (layR (ds.take j)).length ≤ 1000000 := Nat.le_trans (ZfA _) (by rw [List.length_take]; omega)
    generalize hld : layR (ds.take j) = l at hst hll
    generalize hdj : ds.getD j dotR.d = d at hst
    have e2 : (l.length ≤ maxLen) = True := eq_true (by unfold maxLen; omega)
    have e3 : (l.length ≤ 1000000) = True := eq_true hll
    by_cases gi : KHx l d
    ·simp only [X5g, QXB, if_true, if_false, reduceIte, Nat.reduceAdd, Nat.reduceSub, Nat.reduceLeDiff, Nat.reduceEqDiff, Nat.reduceMul, Nat.reduceLT, Int.reduceLT, Int.reduceLE, Int.reduceEq, f2, e1, e2, e3, g1, gi, hdj, YKr, ZRY, zcV, Qxu, QNk, ZY0, qPx]
     refine ⟨j + 1, g1, by dsimp only; omega, ?_⟩
     simp only [hst, show layS l d = l from if_pos gi]
     exact Bt.wk (by simp only [X5g, QXB, if_true, if_false, reduceIte, Nat.reduceAdd, Nat.reduceSub, Nat.reduceLeDiff, Nat.reduceEqDiff, Nat.reduceMul, Nat.reduceLT, Int.reduceLT, Int.reduceLE, Int.reduceEq])
    ·simp only [X5g, QXB, if_true, if_false, reduceIte, Nat.reduceAdd, Nat.reduceSub, Nat.reduceLeDiff, Nat.reduceEqDiff, Nat.reduceMul, Nat.reduceLT, Int.reduceLT, Int.reduceLE, Int.reduceEq, f2, e1, e2, e3, g1, gi, hdj, YKr, ZRY, zcV, Qxu, QNk, ZY0, qPx]
     refine ⟨j + 1, g1, by dsimp only; omega, ?_⟩
     simp only [hst, show layS l d = QCg l d from if_neg gi, Y8V _ (Q4z l d)]
     exact Bt.sel [0, 1, 3] hh (by decide) (by simp only [Zy2, FrSel, BlkSel, AV.ren, renL, AV.ok, okL, Option.some.injEq, exists_eq_left', List.length_cons, List.length_nil, Nat.reduceAdd, Nat.reduceLT, reduceCtorEq, implies_true, exists_eq']) (by simp only [Zy2, FrSel, BlkSel, AV.ren, renL, AV.ok, okL, Option.some.injEq, exists_eq_left', List.length_cons, List.length_nil, Nat.reduceAdd, Nat.reduceLT, reduceCtorEq, implies_true, exists_eq', fo3, fr2])
   obtain rfl : j = ds.length := by omega
   rw [List.take_length]
   have hll : (layR ds).length ≤ 1000000 := Nat.le_trans (ZfA _) hl
   have hlm : ∀ d ∈ layR ds, XOk d := fun d hd => hdr d (XH4 ds d hd)
   generalize hld : layR ds = l at *
   have e2 : (l.length ≤ maxLen) = True := eq_true (by unfold maxLen; omega)
   refine JEe (S := Nat) (fun j => l.length - j) (fun j => tp 4 ++ [.p (h.length + 0) 0, .sl (h.length + 1) 0 16 16 none] ++ tp 1 ++ [apS dotR (h.length + 2) l] ++ tp 1 ++ [.p (h.length + 3) 0, .i .i64 j] ++ tp 90) (fun j => h ++ [.blk false true [.ns, .ns], .blk true true (intR.cells (fmR vs (l.take j)).1), resB dotR true l, .blk false true [.ns, apS dotR (h.length + 4) (fmR vs (l.take j)).2], resB dotR true (fmR vs (l.take j)).2]) (fun j => j ≤ l.length) 0 (Nat.zero_le _) ?_ fun j hj => ?_
   ·show Bt _ _ _ _ _ (h ++ [.blk false true [.ns, .ns], .blk true true (intR.cells (Khv vs vs.length)), resB dotR true l, .blk false true [.ns, .ns], .dead])
    rw [show h ++ [AB.blk false true [.ns, .ns], .blk true true (intR.cells (Khv vs vs.length)), resB dotR true l, .blk false true [.ns, .ns], .dead] = (h ++ [AB.blk false true [.ns, .ns], .blk true true (intR.cells (Khv vs vs.length)), resB dotR true l, .blk false true [.ns, .ns]]) ++ List.replicate 1 .dead from by rw [List.append_assoc]; rfl]
    exact Bt.trans (Bt.wk (by simp only [X5g, QXB, if_true, if_false, reduceIte, Nat.reduceAdd, Nat.reduceSub, Nat.reduceLeDiff, Nat.reduceEqDiff, Nat.reduceMul, Nat.reduceLT, Int.reduceLT, Int.reduceLE, Int.reduceEq])) (Bt.pad _ _ 1)
   have hin := KjD vs hv hvr hlm hj
   have hst := fun g1 : j < l.length => KHl vs g1
   generalize hfm : fmR vs (l.take j) = st at *
   obtain ⟨sn, ol⟩ := st
   obtain ⟨n1, n2, n3⟩ := hin
   dsimp only at n1 n2 n3
   simp only [X5g, QXB, if_true, if_false, reduceIte, Nat.reduceAdd, Nat.reduceSub, Nat.reduceLeDiff, Nat.reduceEqDiff, Nat.reduceMul, Nat.reduceLT, Int.reduceLT, Int.reduceLE, Int.reduceEq, f2, hld]
   refine ⟨fun g1 => ?_, fun g1 => ?_⟩
   ·have e1 : IntKind.i64.wrap ((j : Int) + 1) = ((j + 1 : Nat) : Int) := q6V (by unfold In64; omega)
    have hst := hst g1
    have hdm : XOk (l.getD j dotR.d) := hlm _ (by rw [List.getD_eq_getElem?_getD, List.getElem?_eq_getElem g1]; exact List.getElem_mem g1)
    have fl := fun L k n => Zge (h := h) (r := dotR) (sz := 2) rfl L k l n
    have hl0 : l.length ≠ 0 := by omega
    have gr : ∀ id, apS dotR id l = rsl dotR id l := fun id => Y8V _ hl0
    generalize hdj : l.getD j dotR.d = d at *
    have ⟨d1, d2, d3, d4⟩ := hdm
    have hk : (d.1 - 1).toNat < 16 := by omega
    have q1 : IntKind.i64.wrap (d.1 - 1) = d.1 - 1 := q6V (by unfold In64; omega)
    have q2 : (0 ≤ d.1 - 1 ∧ d.1 - 1 < 16) = True := eq_true (by omega)
    have q3 : (intR.cells sn)[0 + (d.1 - 1).toNat * 1]? = some (.i .i64 (sn.getD (d.1 - 1).toNat 0)) := by
     have := intR.cells_get sn (d.1 - 1).toNat 0 (by omega) (by decide)
     rw [Nat.zero_add, Nat.mul_one]
     rw [Qmu, Nat.mul_one, Nat.add_zero] at this
     exact this
    have q4 := n3 (d.1 - 1).toNat
    have q5 : IntKind.i64.wrap (sn.getD (d.1 - 1).toNat 0 + 1) = sn.getD (d.1 - 1).toNat 0 + 1 := q6V (by unfold In64; omega)
    have q6 : (0 + ((d.1 - 1).toNat * 1 + 1) ≤ (intR.cells sn).length) = True := eq_true (by rw [Row.cells_len, n1, Qmu]; omega)
    have q7 : ∀ y, over (intR.cells sn) (0 + (d.1 - 1).toNat * 1) [AV.i .i64 y] = intR.cells (sn.set (d.1 - 1).toNat y) := fun y => by
     rw [Nat.zero_add, Nat.mul_one, qEw _ _ _ (by omega)]
    have fa := fun L k ys hb => Q8h (h := h) (r := dotR) (sz := 2) rfl L k ol 16 1 ys hb (by decide) (by omega) (by unfold maxLen; omega)
    have ao : (apS dotR (h.length + 4) ol).ok (fun i => decide (i < h.length + 5)) = true := by unfold apS; split <;> simp [AV.ok]
    have g1' : ((j : Int) < (l.length : Int)) = True := eq_true (by omega)
    simp only [X5g, KIn, QXB, if_true, if_false, reduceIte, Nat.reduceAdd, Nat.reduceSub, Nat.reduceLeDiff, Nat.reduceEqDiff, Nat.reduceMul, Nat.reduceLT, Int.reduceLT, Int.reduceLE, Int.reduceEq, CO.tmps, Opd.tmps, optT, Nat.reducePow, Nat.reduceDiv, Nat.reduceMod, gr, XZR (r := dotR) (sz := 2) rfl, fl, g1, hdj, YKr, e1, q1, q2, q3, q5, q6, q7, fa, ZEp, Zkb hz, XeO hh]
    refine ⟨fun g2 => ?_, fun g2 => ⟨fun g3 => ?_, fun g3 => ?_⟩⟩
    ·refine ⟨j + 1, g1, by dsimp only; omega, ?_⟩
     simp only [hst, show fmD (sn, ol) d = (sn.set (d.1 - 1).toNat (sn.getD (d.1 - 1).toNat 0 + 1), ol) from by simp only [fmD, if_pos g2]]
     exact Bt.sel [0, 1, 2, 3, 4] hh (by decide) (by simp only [Zy2, FrSel, BlkSel, AV.ren, renL, AV.ok, okL, Option.some.injEq, exists_eq_left', List.length_cons, List.length_nil, Nat.reduceAdd, Nat.reduceLT, reduceCtorEq, implies_true, exists_eq', ao]) (by simp only [Zy2, FrSel, BlkSel, AV.ren, renL, AV.ok, okL, Option.some.injEq, exists_eq_left', List.length_cons, List.length_nil, Nat.reduceAdd, Nat.reduceLT, reduceCtorEq, implies_true, exists_eq'])
    ·refine ⟨j + 1, g1, by dsimp only; omega, ?_⟩
     simp only [hst, show fmD (sn, ol) d = (sn, ol ++ [d]) from by simp only [fmD, if_neg g2, if_pos g3], K5K, Z4W]
     exact Bt.sel [0, 1, 2, 3, 7] hh (by decide) (by simp only [Zy2, FrSel, BlkSel, AV.ren, renL, AV.ok, okL, Option.some.injEq, exists_eq_left', List.length_cons, List.length_nil, Nat.reduceAdd, Nat.reduceLT, reduceCtorEq, implies_true, exists_eq']) (by simp only [Zy2, FrSel, BlkSel, AV.ren, renL, AV.ok, okL, Option.some.injEq, exists_eq_left', List.length_cons, List.length_nil, Nat.reduceAdd, Nat.reduceLT, reduceCtorEq, implies_true, exists_eq'])
    ·refine ⟨j + 1, g1, by dsimp only; omega, ?_⟩
     simp only [hst, show fmD (sn, ol) d = (sn, ol) from by simp only [fmD, if_neg g2, if_neg g3]]
     exact Bt.sel [0, 1, 2, 3, 4] hh (by decide) (by simp only [Zy2, FrSel, BlkSel, AV.ren, renL, AV.ok, okL, Option.some.injEq, exists_eq_left', List.length_cons, List.length_nil, Nat.reduceAdd, Nat.reduceLT, reduceCtorEq, implies_true, exists_eq', ao]) (by simp only [Zy2, FrSel, BlkSel, AV.ren, renL, AV.ok, okL, Option.some.injEq, exists_eq_left', List.length_cons, List.length_nil, Nat.reduceAdd, Nat.reduceLT, reduceCtorEq, implies_true, exists_eq'])
   ·obtain rfl : j = l.length := by omega
    rw [List.take_length] at hfm
    rw [hfm]
    dsimp only
    have aw : ∀ i x, Wk (.ag [x, rsl dotR i ol]) (.ag [x, apS dotR i ol]) = True := fun i x => eq_true (Xee ⟨Wk.refl _, Krb i ol, trivial⟩)
    refine KPW (S := Nat) (fun n => n) (fun n => tp 4 ++ [.p (h.length + 0) 0, .sl (h.length + 1) 0 16 16 none] ++ tp 3 ++ [.p (h.length + 3) 0] ++ tp 2 ++ [.i .i64 n] ++ tp 88) (fun n => n ≤ 16 ∧ topI sn 16 = topI sn n) 16 ⟨Nat.le_refl _, rfl⟩ (by simp only [X5g, QXB, if_true, if_false, reduceIte, Nat.reduceAdd, Nat.reduceSub, Nat.reduceLeDiff, Nat.reduceEqDiff, Nat.reduceMul, Nat.reduceLT, Int.reduceLT, Int.reduceLE, Int.reduceEq]) fun n hn => ?_
    cases n with
    | zero =>
     have z1 : slL 1 (.sl (h.length + 1) 0 16 16 none) none (some (.i .i64 0)) none = some (.sl (h.length + 1) 0 0 16 none) := rfl
     simp only [X5g, QXB, if_true, if_false, reduceIte, Nat.reduceAdd, Nat.reduceSub, Nat.reduceLeDiff, Nat.reduceEqDiff, Nat.reduceMul, Nat.reduceLT, Int.reduceLT, Int.reduceLE, Int.reduceEq, z1]
     refine ⟨fun q => q.elim, ?_⟩
     rw [hn.2]
     exact Bt.sel [1, 4] hh (by decide) (by simp only [Zy2, FrSel, BlkSel, AV.ren, renL, AV.ok, okL, Option.some.injEq, exists_eq_left', List.length_cons, List.length_nil, Nat.reduceAdd, Nat.reduceLT, reduceCtorEq, implies_true, exists_eq']) (by simp only [Zy2, FrSel, BlkSel, AV.ren, renL, AV.ok, okL, Option.some.injEq, exists_eq_left', List.length_cons, List.length_nil, Nat.reduceAdd, Nat.reduceLT, reduceCtorEq, implies_true, exists_eq', aw, topI])
    | succ m =>
     have e1 : IntKind.i64.wrap (((m + 1 : Nat) : Int) - 1) = (m : Int) := by rw [show ((m + 1 : Nat) : Int) - 1 = (m : Int) from by omega]; exact q6V (by unfold In64; omega)
     have e2 : (0 < ((m + 1 : Nat) : Int)) = True := eq_true (by omega)
     have e3 : ((m : Int) < 16) = True := eq_true (by omega)
     have e4 : (intR.cells sn)[0 + m * 1]? = some (.i .i64 (sn.getD m 0)) := by
      have := intR.cells_get sn m 0 (by omega) (by decide)
      rw [Nat.zero_add, Nat.mul_one]
      rw [Qmu, Nat.mul_one, Nat.add_zero] at this
      exact this
     have z1 : slL 1 (.sl (h.length + 1) 0 16 16 none) none (some (.i .i64 ((m + 1 : Nat) : Int))) none = some (.sl (h.length + 1) 0 (m + 1) 16 none) := by
      simp only [slL, bnd]
      rw [if_pos (by omega)]
      rfl
     simp only [X5g, QXB, if_true, if_false, reduceIte, Nat.reduceAdd, Nat.reduceSub, Nat.reduceLeDiff, Nat.reduceEqDiff, Nat.reduceMul, Nat.reduceLT, Int.reduceLT, Int.reduceLE, Int.reduceEq, e1, e2, e3, e4, z1, ZEp]
     refine ⟨⟨fun g2 => ⟨m, ⟨by omega, ?_⟩, by omega, Wk.refl _⟩, fun g2 => ?_⟩, fun q => q.elim⟩
     ·rw [hn.2]
      simp only [topI, if_pos g2]
     ·rw [hn.2, show topI sn (m + 1) = m + 1 from by simp only [topI, if_neg g2]]
      exact Bt.sel [1, 4] hh (by decide) (by simp only [Zy2, FrSel, BlkSel, AV.ren, renL, AV.ok, okL, Option.some.injEq, exists_eq_left', List.length_cons, List.length_nil, Nat.reduceAdd, Nat.reduceLT, reduceCtorEq, implies_true, exists_eq']) (by simp only [Zy2, FrSel, BlkSel, AV.ren, renL, AV.ok, okL, Option.some.injEq, exists_eq_left', List.length_cons, List.length_nil, Nat.reduceAdd, Nat.reduceLT, reduceCtorEq, implies_true, exists_eq', aw])
  ·cases e
 ·cases e
end Go.Proofs.YtfaccliekejngaaGreat
end
section
namespace Go.Proofs.YtfaccliekejngaaGreat
set_option maxRecDepth 100000
set_option maxHeartbeats 4000000
def fmO (v : List Int) (ds : Dots) : List Int × Dots := ((fmR v (layR ds)).1.take (topI (fmR v (layR ds)).1 16), (fmR v (layR ds)).2)
theorem XKv {α : Type} {r : Row α} {h L : List AB} {k c n : Nat} {kk : Option Nat} {l : List α} (hb : ownC L k = some (r.cells l)) (hl : l.length ≤ maxLen) (hn : n ≤ l.length) : Rd r (h ++ L) (.sl (h.length + k) 0 n c kk) (l.take n) := by
 have e : (l.take n).length = n := by rw [List.length_take]; omega
 refine Rd.mk_sl (xs := r.cells l) (by rw [X9f]; exact hb) e.symm ?_ ?_ (by omega)
 ·rw [e, r.cells_len, Nat.zero_add]
  exact Nat.mul_le_mul_right _ hn
 ·rw [e, List.drop_zero, r.cells_take]
def X74 (v : List Int) (ds : Dots) : Int := if ¬ ZHB v ds then 3 else if 4096 < ds.length then 10 else if fmO v ds = (v, ds) then 0 else 2
noncomputable def z6T : List AV → List AB → Option (AV × List AB)
 | [.ag [s, t]], h => (getS intR h s).bind fun v => (getS dotR h t).bind fun ds => some (.i .i64 (X74 v ds), h)
 | _, _ => none
theorem YbC : Spec Tryz.prog 61 z6T := by
 intro args h v h' e
 unfold z6T at e
 split at e
 ·rename_i s t
  obtain ⟨vs, hs, e⟩ := KsT e
  obtain ⟨ds, ht, e⟩ := KsT e
  cases e
  refine FnAt.c (FnAt.frz0 fun hz => ?_)
  replace hs := hs.frz
  replace ht := ht.frz
  generalize h.map AB.freeze = h at *
  refine FnAt.run (by kernel_rfl) (T := ⟨[⟨113, q0R, fun _ => []⟩, ⟨115, Yo2, fun _ => []⟩, ⟨114, Z5e, fun _ => []⟩], []⟩) ⟨⟨Z46, JyZ, qsJ, trivial⟩, trivial⟩ Tryz.func61 sw61 fun ho hh => ?_
  simp only [znG, Z4M, Bool.and_eq_true] at ho
  have f1 := hs.fx ho.1.1 (sz := 1) rfl
  have f2 := ht.fx ho.1.2.1 (sz := 2) rfl
  unfold w61
  simp only [YGO, Jyg, X5g, QXB, simprocAttr, f1, f2, q0R]
  refine ⟨fun g1 => ?_, fun g1 => ⟨fun g2 => ?_, fun g2 => ?_⟩⟩
  ·exact Bt.dropI _ hh (by simp only [X74, if_pos g1])
  ·exact Bt.dropI _ hh (by simp only [X74, if_neg g1]; rw [if_pos (by omega)])
  ·have g1' := Decidable.not_not.1 g1
   have hl : ds.length ≤ 1000000 := by omega
   have gc : (ZHB vs ds ∧ ds.length ≤ 1000000) = True := eq_true ⟨g1', hl⟩
   have inv := KjD vs g1'.1 g1'.2.1 (fun d hd => g1'.2.2 d (XH4 ds d hd)) (Nat.le_refl (layR ds).length)
   rw [List.take_length] at inv
   have hll := Nat.le_trans (ZfA ds) hl
   have t1 := X40 (fmR vs (layR ds)).1 16
   have g3 : ∀ (L : List AB) (k : Nat), ownC L k = some (intR.cells (fmR vs (layR ds)).1) → getS intR (h ++ L) (.sl (h.length + k) 0 (topI (fmR vs (layR ds)).1 16) 16 none) = some (fmO vs ds).1 := fun L k hL => (XKv hL (by unfold maxLen; omega) (by omega)).get
   have g4 : ((fmR vs (layR ds)).2.length ≤ maxLen) = True := eq_true (by unfold maxLen; omega)
   have g5 : (fmR vs (layR ds)).2 = (fmO vs ds).2 := rfl
   simp only [X5g, KIn, QXB, simprocAttr, CO.tmps, Opd.tmps, optT, Nat.reducePow, Nat.reduceDiv, Nat.reduceMod, f1, f2, Yo2, Z5e, gc, g3, g4, ZZ4, QNk, ZY0, Zkb hz, XeO hh]
   have g6 : (fmO vs ds = (vs, ds)) ↔ ((fmO vs ds).1 = vs ∧ (fmR vs (layR ds)).2 = ds) := Prod.ext_iff
   have g7 : ¬ (4096 : Nat) < ds.length := by omega
   refine ⟨fun q => Bt.dropI _ hh ?_, fun q => Bt.dropI _ hh ?_⟩
   ·simp only [X74, if_neg g1, if_neg g7, if_neg (mt g6.1 q)]
   ·simp only [X74, if_neg g1, if_neg g7, if_pos (g6.2 (Decidable.not_not.1 q))]
 ·cases e
noncomputable def ZdN : List AV → List AB → Option (AV × List AB)
 | [s, t], h => (getS intR h s).bind fun v => (getS dotR h t).bind fun ds => if ds.length ≤ 1000000 then
   if ZHB v ds then
    if (fmO v ds).2.length ≤ 4096 then some (.tu [.ag [.sl h.length 0 (topI (fmR v (layR ds)).1 16) 16 none, rsl dotR (h.length + 1) (fmR v (layR ds)).2], .i .i64 0], h ++ [.blk true true (intR.cells (fmR v (layR ds)).1), resB dotR true (fmR v (layR ds)).2])
    else some (.tu [.ag [.ns, .ns], .i .i64 10], h)
   else some (.tu [.ag [.ns, .ns], .i .i64 3], h)
  else none
 | _, _ => none
theorem KQZ : Spec Tryz.prog 74 ZdN := by
 intro args h v h' e
 unfold ZdN at e
 split at e
 ·rename_i s t
  obtain ⟨vs, hs, e⟩ := KsT e
  obtain ⟨ds, ht, e⟩ := KsT e
  split at e
  ·rename_i hl
   by_cases hr : ZHB vs ds
   ·have g4 : ((fmR vs (layR ds)).2.length ≤ maxLen) = True := by
     have inv := KjD vs hr.1 hr.2.1 (fun d hd => hr.2.2 d (XH4 ds d hd)) (Nat.le_refl (layR ds).length)
     rw [List.take_length] at inv
     have hll := Nat.le_trans (ZfA ds) hl
     exact eq_true (by unfold maxLen; omega)
    by_cases h4 : (fmO vs ds).2.length ≤ 4096
    ·rw [if_pos hr, if_pos h4] at e
     cases e
     refine FnAt.c (FnAt.run (by kernel_rfl) (T := ⟨[⟨113, q0R, fun _ => []⟩, ⟨115, Yo2, fun _ => []⟩], []⟩) ⟨⟨Z46, JyZ, trivial⟩, trivial⟩ Tryz.func74 sw74 fun ho hh => ?_)
     simp only [znG, Bool.and_eq_true] at ho
     have f1 := hs.fx ho.1 (sz := 1) rfl
     have f2 := ht.fx ho.2.1 (sz := 2) rfl
     unfold w74
     simp only [YGO, Jyg, X5g, QXB, simprocAttr, f1, f2, q0R, Yo2, hr, hl]
     refine ⟨fun q => q.elim, fun q => absurd h4 (by show ¬ (fmR vs (layR ds)).2.length ≤ 4096; omega), fun _ => ?_⟩
     exact Bt.sel [1, 2] hh (by decide) (by simp only [Zy2, FrSel, BlkSel, AV.ren, renL, AV.ok, okL, Option.some.injEq, exists_eq_left', List.length_cons, List.length_nil, Nat.reduceAdd, Nat.reduceLT, reduceCtorEq, implies_true, exists_eq']) (by simp only [Zy2, FrSel, BlkSel, AV.ren, renL, AV.ok, okL, Option.some.injEq, exists_eq_left', List.length_cons, List.length_nil, Nat.reduceAdd, Nat.reduceLT, reduceCtorEq, implies_true, exists_eq'])
    ·rw [if_pos hr, if_neg h4] at e
     cases e
     refine FnAt.c (FnAt.run (by kernel_rfl) (T := ⟨[⟨113, q0R, fun _ => []⟩, ⟨115, Yo2, fun _ => []⟩], []⟩) ⟨⟨Z46, JyZ, trivial⟩, trivial⟩ Tryz.func74 sw74 fun ho hh => ?_)
     simp only [znG, Bool.and_eq_true] at ho
     have f1 := hs.fx ho.1 (sz := 1) rfl
     have f2 := ht.fx ho.2.1 (sz := 2) rfl
     unfold w74
     simp only [YGO, Jyg, X5g, QXB, simprocAttr, f1, f2, q0R, Yo2, hr, hl]
     refine ⟨fun q => q.elim, fun _ => ?_, fun q => absurd (show (fmO vs ds).2.length ≤ 4096 from by show (fmR vs (layR ds)).2.length ≤ 4096; omega) h4⟩
     exact Bt.drop _ hh rfl rfl
   ·rw [if_neg hr] at e
    cases e
    refine FnAt.c (FnAt.run (by kernel_rfl) (T := ⟨[⟨113, q0R, fun _ => []⟩, ⟨115, Yo2, fun _ => []⟩], []⟩) ⟨⟨Z46, JyZ, trivial⟩, trivial⟩ Tryz.func74 sw74 fun ho hh => ?_)
    simp only [znG, Bool.and_eq_true] at ho
    have f1 := hs.fx ho.1 (sz := 1) rfl
    have f2 := ht.fx ho.2.1 (sz := 2) rfl
    unfold w74
    simp only [YGO, Jyg, X5g, QXB, simprocAttr, f1, f2, q0R, Yo2, hr, hl]
    exact ⟨Bt.drop _ hh rfl rfl, fun q => q.elim⟩
  ·cases e
 ·cases e
end Go.Proofs.YtfaccliekejngaaGreat
end
section
namespace Go.Proofs.YtfaccliekejngaaGreat
theorem ZxB (a b : Int × Int) : cmpD a b < 0 ↔ zpz a b := by
 obtain ⟨a1, a2⟩ := a
 obtain ⟨b1, b2⟩ := b
 simp only [cmpD, cmpI, zpz]
 repeat' split
 all_goals omega
theorem Qev (a b : Int × Int) : cmpD a b = 0 ↔ a = b := by
 obtain ⟨a1, a2⟩ := a
 obtain ⟨b1, b2⟩ := b
 simp only [cmpD, cmpI, Prod.mk.injEq]
 repeat' split
 all_goals omega
theorem YJc (a : Int × Int) : ¬ zpz a a := by simp [zpz]
theorem zpi {a b c : Int × Int} (h : zpz a b) (k : zpz b c) : zpz a c := by simp only [zpz] at *; omega
theorem Yud (a b : Int × Int) : zpz a b ∨ a = b ∨ zpz b a := by
 obtain ⟨a1, a2⟩ := a
 obtain ⟨b1, b2⟩ := b
 simp only [zpz, Prod.mk.injEq]
 omega
def srtD (l : Dots) : Dots := l.mergeSort fun x y => !(decide (cmpD y x < 0))
theorem XIG (l : Dots) : (srtD l).Perm l := List.mergeSort_perm l _
theorem qJ2 (l : Dots) (d : Int × Int) : d ∈ srtD l ↔ d ∈ l := (XIG l).mem_iff
theorem Jxj (l : Dots) : (srtD l).length = l.length := (XIG l).length_eq
def KGM (l : Dots) : Prop := l.Pairwise fun a b => ¬ zpz b a
def Rise (l : Dots) : Prop := l.Pairwise zpz
theorem YlK (l : Dots) : KGM (srtD l) := by
 have h := List.pairwise_mergeSort (le := fun x y : Int × Int => !(decide (cmpD y x < 0))) (fun a b c h1 h2 => ?_) (fun a b => ?_) l
 ·exact h.imp fun {a b} q => by simpa [ZxB] using q
 ·simp only [Bool.not_eq_true', decide_eq_false_iff_not, ZxB] at h1 h2 ⊢
  intro h3
  rcases Yud a b with q | q | q
  ·exact h2 (zpi h3 q)
  ·subst q; exact h2 h3
  ·exact h1 q
 ·simp only [Bool.or_eq_true, Bool.not_eq_true', decide_eq_false_iff_not, ZxB]
  by_cases h1 : zpz b a
  ·exact .inr fun h2 => YJc _ (zpi h1 h2)
  ·exact .inl h1
theorem XEy : ∀ {l l' : Dots}, Rise l → Rise l' → (∀ d, d ∈ l ↔ d ∈ l') → l = l'
 | [], [], _, _, _ => rfl
 | [], b :: l', _, _, h => absurd ((h b).2 (.head _)) (by simp)
 | a :: l, [], _, _, h => absurd ((h a).1 (.head _)) (by simp)
 | a :: l, b :: l', h1, h2, h => by
  have r1 := List.pairwise_cons.1 h1
  have r2 := List.pairwise_cons.1 h2
  have e : a = b := by
   rcases List.mem_cons.1 ((h a).1 (.head _)) with q | q
   ·exact q
   ·rcases List.mem_cons.1 ((h b).2 (.head _)) with z | z
    ·exact z.symm
    ·exact absurd (zpi (r2.1 a q) (r1.1 b z)) (YJc _)
  subst e
  congr 1
  refine XEy r1.2 r2.2 fun d => ⟨fun hd => ?_, fun hd => ?_⟩
  ·rcases List.mem_cons.1 ((h d).1 (.tail _ hd)) with q | q
   ·subst q; exact absurd (r1.1 _ hd) (YJc _)
   ·exact q
  ·rcases List.mem_cons.1 ((h d).2 (.tail _ hd)) with q | q
   ·subst q; exact absurd (r2.1 _ hd) (YJc _)
   ·exact q
def Zwi : Dots → Dots
 | [] => []
 | x :: l => if l.head? = some x then Zwi l else x :: Zwi l
theorem Yf7 : ∀ (l : Dots) (d : Int × Int), d ∈ Zwi l ↔ d ∈ l
 | [], d => Iff.rfl
 | x :: l, d => by
  unfold Zwi
  split
  ·rename_i h
   rw [Yf7 l d]
   have hx : x ∈ l := List.mem_of_mem_head? (by simpa using h)
   exact ⟨fun q => .tail _ q, fun q => by rcases List.mem_cons.1 q with rfl | q; exact hx; exact q⟩
  ·rw [List.mem_cons, List.mem_cons, Yf7 l d]
theorem zPk : ∀ {l : Dots}, KGM l → Rise (Zwi l)
 | [], _ => List.Pairwise.nil
 | x :: l, h => by
  have r := List.pairwise_cons.1 h
  unfold Zwi
  split
  ·exact zPk r.2
  ·rename_i hx
   refine List.pairwise_cons.2 ⟨fun d hd => ?_, zPk r.2⟩
   have hd' := (Yf7 l d).1 hd
   rcases Yud x d with q | q | q
   ·exact q
   ·subst q
    cases l with
    | nil => cases hd'
    | cons y l' =>
     have hy : y ≠ x := fun e => hx (by rw [e]; rfl)
     rcases List.mem_cons.1 hd' with z | z
     ·exact absurd z.symm hy
     ·have h1 := (List.pairwise_cons.1 r.2).1 x z
      have h2 := r.1 y (.head _)
      rcases Yud x y with q | q | q
      ·exact absurd q h1
      ·exact absurd q.symm hy
      ·exact absurd q h2
   ·exact absurd q (r.1 d hd')
theorem QcS : ∀ (l : Dots) (d : Int × Int) (i : Nat), i < Qlv l d → zpz (l.getD i dotR.d) d
 | l, d, i, h => (QAf l d dotR.d i (by omega) (by have := Ys6 l d; omega)).2 h
theorem XkD (l : Dots) (d : Int × Int) (h : Qlv l d < l.length) : ¬ zpz (l.getD (Qlv l d) dotR.d) d := fun q => by
 have := (QAf l d dotR.d _ (Nat.le_refl _) h).1 q
 omega
theorem ZdR {l : Dots} (d x : Int × Int) : x ∈ layS l d ↔ x ∈ l ∨ x = d := by
 unfold layS
 split
 ·rename_i h
  refine ⟨.inl, fun q => q.elim id fun e => ?_⟩
  subst e
  have := h.2
  rw [List.getD_eq_getElem?_getD, List.getElem?_eq_getElem h.1] at this
  have hm := List.getElem_mem h.1
  simp only [Option.getD_some] at this
  rw [this] at hm
  exact hm
 ·unfold QCg
  conv => rhs; rw [← List.take_append_drop (Qlv l d) l]
  simp only [List.mem_append, List.mem_cons]
  constructor
  ·rintro (q | q | q)
   ·exact .inl (.inl q)
   ·exact .inr q
   ·exact .inl (.inr q)
  ·rintro ((q | q) | q)
   ·exact .inl q
   ·exact .inr (.inr q)
   ·exact .inr (.inl q)
theorem qXP {l : Dots} (h : Rise l) (d : Int × Int) : Rise (layS l d) := by
 unfold layS
 split
 ·exact h
 ·rename_i hn
  unfold QCg
  have h' := h
  rw [← List.take_append_drop (Qlv l d) l] at h'
  have h2 := List.pairwise_append.1 h'
  have a : ∀ x ∈ l.take (Qlv l d), zpz x d := fun x hx => by
   obtain ⟨i, hi, rfl⟩ := List.getElem_of_mem hx
   rw [List.length_take] at hi
   have := QcS l d i (by omega)
   rw [List.getD_eq_getElem?_getD, List.getElem?_eq_getElem (by omega)] at this
   simpa using this
  have b : ∀ y ∈ l.drop (Qlv l d), zpz d y := fun y hy => by
   have hlt : Qlv l d < l.length := by
    rcases Nat.lt_or_ge (Qlv l d) l.length with q | q
    ·exact q
    ·rw [List.drop_eq_nil_of_le q] at hy; cases hy
   have hz := XkD l d hlt
   have hz2 : l.getD (Qlv l d) dotR.d ≠ d := fun e => hn ⟨hlt, e⟩
   have hz3 : zpz d (l.getD (Qlv l d) dotR.d) := by
    rcases Yud (l.getD (Qlv l d) dotR.d) d with q | q | q
    ·exact absurd q hz
    ·exact absurd q hz2
    ·exact q
   rw [List.drop_eq_getElem_cons hlt] at hy
   have e : l.getD (Qlv l d) dotR.d = l[Qlv l d] := by rw [List.getD_eq_getElem?_getD, List.getElem?_eq_getElem hlt]; rfl
   rw [e] at hz3
   rcases List.mem_cons.1 hy with rfl | hy
   ·exact hz3
   ·have := h2.2.1
    rw [List.drop_eq_getElem_cons hlt] at this
    exact zpi hz3 ((List.pairwise_cons.1 this).1 y hy)
  refine List.pairwise_append.2 ⟨h2.1, List.pairwise_cons.2 ⟨b, h2.2.1⟩, fun x hx y hy => ?_⟩
  rcases List.mem_cons.1 hy with rfl | hy
  ·exact a x hx
  ·exact zpi (a x hx) (b y hy)
theorem XSw : ∀ (ds l : Dots), Rise l → Rise (ds.foldl layS l) ∧ ∀ d, d ∈ ds.foldl layS l ↔ d ∈ l ∨ d ∈ ds
 | [], l, h => ⟨h, fun d => by simp⟩
 | x :: ds, l, h => by
  obtain ⟨h1, h2⟩ := XSw ds (layS l x) (qXP h x)
  refine ⟨h1, fun d => ?_⟩
  rw [List.foldl_cons, h2 d, ZdR, List.mem_cons, or_assoc]
theorem YM7 (ds : Dots) : Rise (layR ds) := (XSw ds [] List.Pairwise.nil).1
theorem Qvb (ds : Dots) (d : Int × Int) : d ∈ layR ds ↔ d ∈ ds := by
 unfold layR
 simpa using (XSw ds [] List.Pairwise.nil).2 d
theorem QpO (ds : Dots) : Zwi (srtD ds) = layR ds :=
 XEy (zPk (YlK ds)) (YM7 ds) fun d => by rw [Yf7, qJ2, Qvb]
theorem ZCy (l : Dots) (d x : Int × Int) : (l ++ [d]).getD ((l ++ [d]).length - 1) x = d := by
 rw [List.getD_eq_getElem?_getD, List.length_append, List.length_singleton, Nat.add_sub_cancel, List.getElem?_append_right (Nat.le_refl _), Nat.sub_self]
 rfl
theorem zui (s : AbS) {d : Int × Int} (hd : XOk d) : absD (absD s d) d = absD s d := by
 by_cases h1 : d.2 ≤ vAt s.1 d.1
 ·have e : absD s d = s := by unfold absD; rw [if_pos h1]
  rw [e, e]
 ·by_cases h2 : d.2 = vAt s.1 d.1 + 1
  ·have e : absD s d = (Q6J s.1 d, s.2) := by unfold absD; rw [if_neg h1, if_pos h2]
   rw [e]
   unfold absD
   rw [if_pos]
   rw [ZYS s.1 hd (by omega), if_pos rfl]
   exact Int.le_refl _
  ·by_cases h3 : s.2.length = 0 ∨ s.2.getD (s.2.length - 1) dotR.d ≠ d
   ·have e : absD s d = (s.1, s.2 ++ [d]) := by unfold absD; rw [if_neg h1, if_neg h2, if_pos h3]
    rw [e]
    unfold absD
    rw [if_neg h1, if_neg h2, if_neg]
    rw [ZCy]
    simp
   ·have e : absD s d = s := by unfold absD; rw [if_neg h1, if_neg h2, if_neg h3]
    rw [e, e]
theorem YsX : ∀ (l : Dots) (s : AbS), (∀ d ∈ l, XOk d) → absR s l = absR s (Zwi l)
 | [], s, _ => rfl
 | x :: l, s, h => by
  unfold Zwi
  have hl := fun d hd => h d (.tail _ hd)
  split
  ·rename_i hx
   cases l with
   | nil => cases hx
   | cons y l' =>
    have : y = x := by simpa using hx
    subst this
    rw [← YsX _ s hl]
    simp only [absR, List.foldl_cons, zui s (h y (.head _))]
  ·have := YsX l (absD s x) hl
   simp only [absR, List.foldl_cons] at this ⊢
   exact this
def SimV (xs sn : List Int) : Prop := sn.length = 16 ∧ xs.length ≤ 16 ∧ ∀ i : Nat, i < 16 → vAt xs ((i + 1 : Nat) : Int) = sn.getD i 0
theorem simD {s : AbS} {t : List Int × Dots} (hv : SimV s.1 t.1) (h2 : s.2 = t.2) {d : Int × Int} (hd : XOk d) (hr : ∀ x ∈ s.2, zpz x d) : SimV (absD s d).1 (fmD t d).1 ∧ (absD s d).2 = (fmD t d).2 := by
 obtain ⟨i, hi⟩ : ∃ i : Nat, d.1 = ((i + 1 : Nat) : Int) := ⟨(d.1 - 1).toNat, by have := hd.1; omega⟩
 have hi2 : i < 16 := by have := hd.2.1; omega
 have e1 : (d.1 - 1).toNat = i := by omega
 have e2 := hv.2.2 i hi2
 unfold absD fmD
 rw [e1, ← e2, hi]
 by_cases h1 : d.2 ≤ vAt s.1 ((i + 1 : Nat) : Int)
 ·rw [if_pos h1, if_neg (by omega), if_neg (by omega)]
  exact ⟨hv, h2⟩
 ·rw [if_neg h1]
  by_cases h3 : d.2 = vAt s.1 ((i + 1 : Nat) : Int) + 1
  ·rw [if_pos h3, if_pos h3]
   refine ⟨⟨by simp [hv.1], ?_, fun j hj => ?_⟩, h2⟩
   ·have := YmD s.1 d
    have := hv.2.1
    simp only
    omega
   ·simp only
    rw [ZYS s.1 hd (by rw [hi]; omega), hi]
    rw [List.getD_eq_getElem?_getD, List.getElem?_set]
    by_cases hij : i = j
    ·subst hij
     rw [if_pos rfl, if_pos rfl, if_pos (by rw [hv.1]; exact hj)]
     exact h3
    ·rw [if_neg (by omega), if_neg hij, ← List.getD_eq_getElem?_getD]
     exact hv.2.2 j hj
  ·have h4 : s.2.length = 0 ∨ s.2.getD (s.2.length - 1) dotR.d ≠ d := by
    by_cases h0 : s.2.length = 0
    ·exact .inl h0
    ·refine .inr fun q => ?_
     have hlt : s.2.length - 1 < s.2.length := by omega
     rw [List.getD_eq_getElem?_getD, List.getElem?_eq_getElem hlt] at q
     have := hr _ (List.getElem_mem hlt)
     rw [show s.2[s.2.length - 1] = d from q] at this
     exact YJc _ this
   rw [if_neg h3, if_neg h3, if_pos h4, if_pos (show vAt s.1 ((i + 1 : Nat) : Int) < d.2 by omega)]
   exact ⟨hv, by simp only [h2]⟩
theorem qxL (s : AbS) (d : Int × Int) : ∀ x ∈ (absD s d).2, x ∈ s.2 ∨ x = d := fun x hx => by
 unfold absD at hx
 split at hx
 ·exact .inl hx
 ·split at hx
  ·exact .inl hx
  ·split at hx
   ·simpa using hx
   ·exact .inl hx
theorem simR : ∀ (l : Dots) (s : AbS) (t : List Int × Dots), SimV s.1 t.1 → s.2 = t.2 → (∀ d ∈ l, XOk d) → Rise l → (∀ x ∈ s.2, ∀ d ∈ l, zpz x d) → SimV (absR s l).1 (l.foldl fmD t).1 ∧ (absR s l).2 = (l.foldl fmD t).2
 | [], s, t, hv, h2, _, _, _ => ⟨hv, h2⟩
 | d :: l, s, t, hv, h2, hd, hr, hx => by
  obtain ⟨q1, q2⟩ := simD hv h2 (hd d (.head _)) fun x h => hx x h d (.head _)
  have r := List.pairwise_cons.1 hr
  have := simR l (absD s d) (fmD t d) q1 q2 (fun y hy => hd y (.tail _ hy)) r.2 fun x h y hy => by
   rcases qxL s d x h with z | z
   ·exact hx x z y (.tail _ hy)
   ·subst z; exact r.1 y hy
  simpa only [absR, List.foldl_cons] using this
def Trim (xs : List Int) : Prop := xs.length = 0 ∨ xs.getD (xs.length - 1) 0 ≠ 0
theorem YoS : ∀ (xs : List Int) (n : Nat), n ≤ xs.length → Trim (xs.take (topI xs n))
 | xs, 0, _ => .inl (by simp [topI])
 | xs, n + 1, h => by
  unfold topI
  split
  ·exact YoS xs n (by omega)
  ·rename_i hx
   refine .inr ?_
   have e : (xs.take (n + 1)).length = n + 1 := by rw [List.length_take]; omega
   rw [e, Nat.add_sub_cancel, List.getD_eq_getElem?_getD, List.getElem?_take, if_pos (by omega), ← List.getD_eq_getElem?_getD]
   exact hx
theorem JPF : ∀ (xs : List Int) (n i : Nat), topI xs n ≤ i → i < n → xs.getD i 0 = 0
 | xs, 0, i, _, h => absurd h (Nat.not_lt_zero _)
 | xs, n + 1, i, h1, h2 => by
  unfold topI at h1
  split at h1
  ·rename_i hx
   by_cases hi : i = n
   ·subst hi; exact hx
   ·exact JPF xs n i h1 (by omega)
  ·omega
theorem QsM (xs : List Int) : ∀ n, n ≤ xs.length → ZvV xs n = xs.take (topI xs n)
 | 0, _ => by simp [ZvV, topI]
 | n + 1, h => by
  unfold ZvV topI
  rw [show intR.d = (0 : Int) from rfl]
  split
  ·exact QsM xs n (by omega)
  ·rfl
theorem Y1m (xs : List Int) (r : Int) : vAt (xs.take (topI xs xs.length)) r = vAt xs r := by
 have ht := X40 xs xs.length
 have hl : (xs.take (topI xs xs.length)).length = topI xs xs.length := by rw [List.length_take]; omega
 by_cases h : r < 1 ∨ (xs.length : Int) < r
 ·rw [QMX _ _ h, QMX _ _ (by rw [hl]; omega)]
 ·obtain ⟨i, rfl⟩ : ∃ i : Nat, r = ((i + 1 : Nat) : Int) := ⟨(r - 1).toNat, by omega⟩
  rw [zBo xs i (by omega)]
  by_cases hi : i < topI xs xs.length
  ·rw [zBo _ i (by omega), List.getD_eq_getElem?_getD, List.getElem?_take, if_pos hi, ← List.getD_eq_getElem?_getD]
  ·rw [QMX _ _ (by rw [hl]; omega), JPF xs xs.length i (by omega) (by omega)]
   rfl
theorem JlN {xs ys : List Int} (hx : ∀ n ∈ xs, 0 ≤ n) (hy : ∀ n ∈ ys, 0 ≤ n) (tx : Trim xs) (ty : Trim ys) (h : ∀ r, vAt xs r = vAt ys r) : xs = ys := by
 have key : ∀ {xs ys : List Int}, (∀ n ∈ xs, 0 ≤ n) → Trim xs → (∀ r, vAt xs r = vAt ys r) → xs.length ≤ ys.length := fun {xs ys} hx tx h => by
  rcases Nat.lt_or_ge ys.length xs.length with q | q
  ·have h0 : xs.length ≠ 0 := by omega
   rcases tx with t | t
   ·exact absurd t h0
   ·have := h (((xs.length - 1) + 1 : Nat) : Int)
    rw [zBo xs _ (by omega), QMX ys _ (by omega)] at this
    have hm : xs.getD (xs.length - 1) 0 ∈ xs := by
     rw [List.getD_eq_getElem?_getD, List.getElem?_eq_getElem (by omega : xs.length - 1 < xs.length)]
     exact List.getElem_mem _
    have := hx _ hm
    omega
  ·exact q
 have l1 := key hx tx h
 have l2 := key hy ty fun r => (h r).symm
 refine List.ext_getElem (by omega) fun i h1 h2 => ?_
 have := h ((i + 1 : Nat) : Int)
 rw [zBo xs i h1, zBo ys i h2, List.getD_eq_getElem?_getD, List.getD_eq_getElem?_getD, List.getElem?_eq_getElem h1, List.getElem?_eq_getElem h2] at this
 have := hx _ (List.getElem_mem h1)
 have := hy _ (List.getElem_mem h2)
 simp only [Option.getD_some] at *
 omega
theorem Ksj (xs ys : List Int) : ∀ n ∈ Zsa xs ys, 0 ≤ n := fun n hn => by
 simp only [Zsa, jn, List.mem_map, List.mem_range] at hn
 obtain ⟨i, _, rfl⟩ := hn
 have := K2N xs ((i + 1 : Nat) : Int)
 omega
theorem qnT (xs : List Int) (d : Int × Int) : ∀ n ∈ Q6J xs d, 0 ≤ n := by
 unfold Q6J
 split <;> exact Ksj _ _
theorem XD9 : ∀ (l : Dots) (s : AbS), (∀ n ∈ s.1, 0 ≤ n) → ∀ n ∈ (absR s l).1, 0 ≤ n
 | [], s, h => h
 | d :: l, s, h => by
  have := XD9 l (absD s d) (by
   unfold absD
   split
   ·exact h
   ·split
    ·exact qnT _ _
    ·split <;> exact h)
  simpa only [absR, List.foldl_cons] using this
def bldO (v : List Int) (ds : Dots) : AbS := (ZvV (absR (v, []) (srtD ds)).1 (absR (v, []) (srtD ds)).1.length, (absR (v, []) (srtD ds)).2)
theorem sim0 {v : List Int} (hl : v.length ≤ 16) (hp : ∀ n ∈ v, 0 ≤ n) {x : List Int} (hx : x.length ≤ 16) (hxv : ∀ r, vAt x r = vAt v r) : SimV x (Khv v v.length) := by
 refine ⟨QF5 v (Nat.le_refl _) hl, hx, fun i hi => ?_⟩
 rw [hxv]
 unfold Khv
 rw [List.take_length]
 by_cases h : i < v.length
 ·rw [zBo v i h, List.getD_eq_getElem?_getD, List.getD_eq_getElem?_getD, List.getElem?_append_left h, List.getElem?_eq_getElem h]
  have := hp _ (List.getElem_mem h)
  simp only [Option.getD_some]
  omega
 ·rw [QMX v _ (by omega), List.getD_eq_getElem?_getD, List.getElem?_append_right (by omega), List.getElem?_replicate]
  split <;> rfl
theorem ZnO {v x : List Int} {ds : Dots} (hr : ZHB v ds) (hx : x.length ≤ 16) (hp : ∀ n ∈ x, 0 ≤ n) (hxv : ∀ r, vAt x r = vAt v r) : bldO x ds = fmO v ds := by
 have hd : ∀ d ∈ srtD ds, XOk d := fun d hd => hr.2.2 d ((qJ2 ds d).1 hd)
 have e := YsX (srtD ds) (x, []) hd
 rw [QpO] at e
 have hd2 : ∀ d ∈ layR ds, XOk d := fun d hd => hr.2.2 d (XH4 ds d hd)
 obtain ⟨q1, q2⟩ := simR (layR ds) (x, []) (Khv v v.length, []) (sim0 hr.1 (fun n hn => (hr.2.1 n hn).1) hx hxv) rfl hd2 (YM7 ds) (fun y hy => by cases hy)
 have inv := KjD v hr.1 hr.2.1 hd2 (Nat.le_refl (layR ds).length)
 rw [List.take_length] at inv
 unfold bldO fmO
 rw [e]
 refine Prod.ext ?_ q2
 simp only
 have hpos := XD9 (layR ds) (x, []) hp
 generalize hA : absR (x, []) (layR ds) = A at *
 have hF : (layR ds).foldl fmD (Khv v v.length, []) = fmR v (layR ds) := rfl
 rw [hF] at q1
 generalize fmR v (layR ds) = F at *
 rw [QsM _ _ (Nat.le_refl _)]
 have t16 : topI F.1 16 = topI F.1 F.1.length := by rw [q1.1]
 rw [t16]
 refine JlN (fun n hn => hpos n (List.mem_of_mem_take hn)) (fun n hn => ?_) (YoS _ _ (Nat.le_refl _)) (YoS _ _ (Nat.le_refl _)) fun r => ?_
 ·obtain ⟨k, hk, rfl⟩ := List.getElem_of_mem (List.mem_of_mem_take hn)
  have := (inv.2.2 k).1
  rw [List.getD_eq_getElem?_getD, List.getElem?_eq_getElem hk] at this
  exact this
 ·rw [Y1m, Y1m]
  by_cases h : r < 1 ∨ 16 < r
  ·rw [QMX _ _ (by have := q1.2.1; omega), QMX _ _ (by rw [q1.1]; omega)]
  ·obtain ⟨i, rfl⟩ : ∃ i : Nat, r = ((i + 1 : Nat) : Int) := ⟨(r - 1).toNat, by omega⟩
   rw [q1.2.2 i (by omega), zBo _ i (by rw [q1.1]; omega)]
   have := (inv.2.2 i).1
   omega
end Go.Proofs.YtfaccliekejngaaGreat
end
