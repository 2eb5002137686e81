/- Part 23 of what the laws' proofs rest on. No condition. -/
import Derived.Test.YtcncpbcbedfakaaGreatRo22
set_option linter.all false
section
namespace Go.Proofs.YtcncpbcbedfakaaGreat
section
variable {α : Type} {lt : α → α → Prop}
structure Strict (lt : α → α → Prop) : Prop where
 irr : ∀ a, ¬ lt a a
 tr : ∀ {a b c}, lt a b → lt b c → lt a c
theorem Q5J (o : Strict lt) : ∀ {l l' : List α}, l.Pairwise lt → l'.Pairwise lt → (∀ d, d ∈ l ↔ d ∈ l') → l = l'
 | [], [], _, _, _ => rfl
 | [], b :: l', _, _, h => absurd ((h b).2 (.head _)) (by simp)
 | a :: l, [], _, _, h => absurd ((h a).1 (.head _)) (by simp)
 | a :: l, b :: l', h1, h2, h => by
  have r1 := List.pairwise_cons.1 h1
  have r2 := List.pairwise_cons.1 h2
  have e : a = b := by
   rcases List.mem_cons.1 ((h a).1 (.head _)) with q | q
   ·exact q
   ·rcases List.mem_cons.1 ((h b).2 (.head _)) with z | z
    ·exact z.symm
    ·exact absurd (o.tr (r2.1 a q) (r1.1 b z)) (o.irr _)
  subst e
  congr 1
  refine Q5J o r1.2 r2.2 fun d => ⟨fun hd => ?_, fun hd => ?_⟩
  ·rcases List.mem_cons.1 ((h d).1 (.tail _ hd)) with q | q
   ·subst q; exact absurd (r1.1 _ hd) (o.irr _)
   ·exact q
  ·rcases List.mem_cons.1 ((h d).2 (.tail _ hd)) with q | q
   ·subst q; exact absurd (r2.1 _ hd) (o.irr _)
   ·exact q
theorem JFv (o : Strict lt) : ∀ {l : List α}, (∀ i (h : i + 1 < l.length), lt (l[i]'(by omega)) l[i + 1]) → l.Pairwise lt
 | [], _ => List.Pairwise.nil
 | [a], _ => List.pairwise_singleton _ _
 | a :: b :: l, h => by
  have ih := JFv o (l := b :: l) fun i hi => h (i + 1) (by simpa using hi)
  have h0 := h 0 (by simp)
  refine List.pairwise_cons.2 ⟨fun d hd => ?_, ih⟩
  rcases List.mem_cons.1 hd with rfl | q
  ·exact h0
  ·exact o.tr h0 ((List.pairwise_cons.1 ih).1 d q)
theorem QoL (o : Strict lt) {l : List α} : l.Pairwise lt ↔ ∀ i (h : i + 1 < l.length), lt (l[i]'(by omega)) l[i + 1] :=
 ⟨fun h i hi => List.pairwise_iff_getElem.1 h i (i + 1) (by omega) hi (by omega), JFv o⟩
open Classical in
noncomputable def layG (lt : α → α → Prop) : List α → α → List α
 | [], h => [h]
 | x :: l, h => if lt h x then h :: x :: l else x :: layG lt l h
theorem X4W : ∀ (l : List α) (h y : α), y ∈ layG lt l h ↔ y = h ∨ y ∈ l
 | [], h, y => by simp [layG]
 | x :: l, h, y => by
  unfold layG
  split
  ·simp
  ·simp only [List.mem_cons, X4W l h y]
   constructor
   ·rintro (q | q | q)
    ·exact .inr (.inl q)
    ·exact .inl q
    ·exact .inr (.inr q)
   ·rintro (q | q | q)
    ·exact .inr (.inl q)
    ·exact .inl q
    ·exact .inr (.inr q)
theorem K8p : ∀ (l : List α) (h : α), (layG lt l h).length = l.length + 1
 | [], h => rfl
 | x :: l, h => by
  unfold layG
  split
  ·rfl
  ·simp [K8p l h]
theorem q3L (o : Strict lt) : ∀ {l : List α} {h : α}, l.Pairwise lt → (∀ x ∈ l, lt x h ∨ lt h x) → (layG lt l h).Pairwise lt
 | [], h, _, _ => List.pairwise_singleton _ _
 | x :: l, h, r, ht => by
  have rc := List.pairwise_cons.1 r
  unfold layG
  split
  ·rename_i q
   refine List.pairwise_cons.2 ⟨fun y hy => ?_, r⟩
   rcases List.mem_cons.1 hy with rfl | hy
   ·exact q
   ·exact o.tr q (rc.1 y hy)
  ·rename_i q
   refine List.pairwise_cons.2 ⟨fun y hy => ?_, q3L o rc.2 fun y hy => ht y (.tail _ hy)⟩
   rcases (X4W l h y).1 hy with rfl | hy
   ·exact (ht x (.head _)).resolve_right q
   ·exact rc.1 y hy
end
def XSb (a b : Hd) : Prop := JaS a.1 b.1
theorem qx1 : Strict XSb := ⟨fun a => JXa _, fun h k => q5V h k⟩
def cmpB : List UInt8 → List UInt8 → Int
 | [], [] => 0
 | [], _ :: _ => -1
 | _ :: _, [] => 1
 | a :: l, b :: l' => if a < b then -1 else if b < a then 1 else cmpB l l'
theorem K1D : ∀ l : List UInt8, cmpB l l = 0
 | [] => rfl
 | a :: l => by
  unfold cmpB
  rw [if_neg (UInt8.lt_irrefl a), if_neg (UInt8.lt_irrefl a), K1D l]
theorem Yrz : ∀ {l l' : List UInt8}, cmpB l l' = 0 → l = l'
 | [], [], _ => rfl
 | [], _ :: _, h => by simp [cmpB] at h
 | _ :: _, [], h => by simp [cmpB] at h
 | a :: l, b :: l', h => by
  unfold cmpB at h
  split at h
  ·simp at h
  ·split at h
   ·simp at h
   ·rename_i h1 h2
    rw [Yrz h, UInt8.le_antisymm (UInt8.not_lt.1 h2) (UInt8.not_lt.1 h1)]
theorem QVy : ∀ (l l' : List UInt8), cmpB l' l = - cmpB l l'
 | [], [] => rfl
 | [], _ :: _ => rfl
 | _ :: _, [] => rfl
 | a :: l, b :: l' => by
  unfold cmpB
  by_cases h1 : a < b
  ·rw [if_pos h1, if_neg (UInt8.lt_asymm h1), if_pos h1]; rfl
  ·by_cases h2 : b < a
   ·rw [if_pos h2, if_neg h1, if_pos h2]
   ·rw [if_neg h1, if_neg h2, if_neg h1, if_neg h2, QVy l l']
theorem Q5P : ∀ (l l' : List UInt8), cmpB l l' = -1 ∨ cmpB l l' = 0 ∨ cmpB l l' = 1
 | [], [] => .inr (.inl rfl)
 | [], _ :: _ => .inl rfl
 | _ :: _, [] => .inr (.inr rfl)
 | a :: l, b :: l' => by
  unfold cmpB
  split
  ·exact .inl rfl
  ·split
   ·exact .inr (.inr rfl)
   ·exact Q5P l l'
theorem J60 : ∀ {a b c : List UInt8}, cmpB a b < 0 → cmpB b c < 0 → cmpB a c < 0
 | [], [], _, h, _ => by simp [cmpB] at h
 | [], _ :: _, [], _, k => by simp [cmpB] at k
 | [], _ :: _, _ :: _, _, _ => by simp [cmpB]
 | _ :: _, [], _, h, _ => by simp [cmpB] at h
 | _ :: _, _ :: _, [], _, k => by simp [cmpB] at k
 | a :: l, b :: l', c :: l'', h, k => by
  unfold cmpB at h k ⊢
  by_cases h1 : a < b
  ·by_cases k1 : b < c
   ·rw [if_pos (UInt8.lt_trans h1 k1)]; omega
   ·rw [if_neg k1] at k
    by_cases k2 : c < b
    ·rw [if_pos k2] at k; omega
    ·have e : b = c := UInt8.le_antisymm (UInt8.not_lt.1 k2) (UInt8.not_lt.1 k1)
     subst e
     rw [if_pos h1]; omega
  ·rw [if_neg h1] at h
   by_cases h2 : b < a
   ·rw [if_pos h2] at h; omega
   ·rw [if_neg h2] at h
    have e : a = b := UInt8.le_antisymm (UInt8.not_lt.1 h2) (UInt8.not_lt.1 h1)
    subst e
    by_cases k1 : a < c
    ·rw [if_pos k1]; omega
    ·rw [if_neg k1] at k ⊢
     by_cases k2 : c < a
     ·rw [if_pos k2] at k; omega
     ·rw [if_neg k2] at k ⊢
      exact J60 h k
def cmpG (a b : Dg) : Int := cmpB a.l b.l
def qVx (a b : Dg) : Prop := cmpG a b < 0
theorem zXq : Strict qVx := ⟨fun a h => by unfold qVx cmpG at h; rw [K1D] at h; omega, fun h k => J60 h k⟩
theorem QwR (a b : Dg) : qVx a b ∨ a = b ∨ qVx b a := by
 unfold qVx cmpG
 rw [QVy a.l b.l]
 rcases Q5P a.l b.l with q | q | q
 ·exact .inl (by omega)
 ·exact .inr (.inl (Dg.ext (Yrz q)))
 ·exact .inr (.inr (by omega))
end Go.Proofs.YtcncpbcbedfakaaGreat
end
section
namespace Go.Proofs.YtcncpbcbedfakaaGreat
set_option maxRecDepth 100000
set_option maxHeartbeats 4000000
theorem Rd.ldp {α : Type} {r : Row α} {h : List AB} {s : AV} {l : List α} (e : Rd r h s l) {sz : Nat} (hz : r.sz = sz) (n j m : Nat) (hn : n < l.length) (hm : j + m ≤ sz) : ldV h (some m) (elP sz s n j) = some (.ag (((r.f (l.getD n r.d)).drop j).take m)) := by
 subst hz
 obtain ⟨id, off, cap, k, xs, rfl, h1, h2, h3⟩ := e.blk n hn
 simp only [elP, ldV, h1, Option.bind_some]
 have hlt : n * r.sz + r.sz ≤ l.length * r.sz := by
  have := Nat.mul_le_mul_right r.sz (show n + 1 ≤ l.length from hn)
  rw [Nat.add_mul] at this
  omega
 rw [if_pos (by omega)]
 congr 2
 refine List.ext_getElem? fun i => ?_
 rw [List.getElem?_take, List.getElem?_take]
 split
 ·rename_i hi
  have key : (r.f (l.getD n r.d))[j + i]? = xs[off + (n * r.sz + (j + i))]? := by
   rw [← r.cells_get l n (j + i) hn (by omega), ← h3, List.getElem?_take, if_pos (by omega), List.getElem?_drop]
  rw [List.getElem?_drop, List.getElem?_drop, key]
  congr 1
  omega
 ·rfl
theorem Kca {h : List AB} {s : AV} {l : List Hd} (e : Rd Kd6 h s l) : (∀ x n, n < l.length → ldV (h ++ x) (some 2) (elP 34 s n 0) = some (.ag [.i .i64 (l.getD n Kd6.d).1.1, .i .i64 (l.getD n Kd6.d).1.2])) ∧ (∀ x n, n < l.length → ldV (h ++ x) (some 32) (elP 34 s n 2) = some (.ag (idR.f (l.getD n Kd6.d).2))) :=
 ⟨fun x n hn => by
  have := (e.app x).ldp zLU n 0 2 hn (by decide)
  rw [qMb, zBW] at this
  exact this, fun x n hn => by
  have := (e.app x).ldp zLU n 2 32 hn (by decide)
  rw [qyZ] at this
  exact this⟩
theorem QVb : Spec Tryz.prog 73 K2w := by
 intro args h v h' e
 unfold K2w at e
 split at e
 ·rename_i a b c d
  cases e
  refine FnAt.c (FnAt.run (by kernel_rfl) (T := ⟨[], []⟩) ⟨trivial, trivial⟩ Tryz.func73 sw73 fun ho hh => ?_)
  unfold w73
  simp only [QhW, YqD, z18, KHF, Xq8, if_true, if_false, ↓reduceIte, Nat.reduceAdd, Nat.reduceSub, Nat.reduceLeDiff, Nat.reduceEqDiff, Nat.reduceMul, Nat.reduceLT, Int.reduceLT, Int.reduceLE, Int.reduceEq, CO.tmps, Opd.tmps, optT, Nat.reducePow, Nat.reduceDiv, Nat.reduceMod]
  refine ⟨fun h1 => ?_, fun h1 => ⟨fun h2 => ?_, fun h2 => ?_⟩⟩ <;> exact Bt.dropB _ hh (by simp [JaS, *])
 ·cases e
def qVW (v : List Int) (ds : Dots) (l : List Hd) (i : Nat) : Prop := ∀ k, k < i → (0 < k → JaS (l.getD (k - 1) Kd6.d).1 (l.getD k Kd6.d).1) ∧ (zEL v ds = 0 ∧ ZvJ v ds (l.getD k Kd6.d).1)
noncomputable instance (v : List Int) (ds : Dots) (l : List Hd) (i : Nat) : Decidable (qVW v ds l i) := Classical.propDecidable _
noncomputable def QeQ (l : List Hd) (v : List Int) (ds : Dots) : Int := if zEL v ds ≠ 0 then zEL v ds else if qVW v ds l l.length then 0 else 2
noncomputable def Kb9 : List AV → List AB → Option (AV × List AB)
 | [.ag [l, s, t]], h => (getS Kd6 h l).bind fun hs => (getS intR h s).bind fun v => (getS dotR h t).bind fun ds => some (.i .i64 (QeQ hs v ds), h)
 | _, _ => none
theorem z3s : Spec Tryz.prog 28 Kb9 := by
 intro args h v h' e
 unfold Kb9 at e
 split at e
 ·rename_i l s t
  obtain ⟨hs, hl, e⟩ := zZA e
  obtain ⟨xs, hv, e⟩ := zZA e
  obtain ⟨ds, hd, e⟩ := zZA e
  cases e
  refine FnAt.c (FnAt.frz0 fun hz => ?_)
  replace hl := hl.frz
  replace hv := hv.frz
  replace hd := hd.frz
  generalize h.map AB.freeze = h at *
  refine FnAt.run (by kernel_rfl) (T := ⟨[⟨61, ZRQ, fun _ => []⟩, ⟨73, K2w, fun _ => []⟩, ⟨52, ZL1, fun _ => []⟩], []⟩) ⟨⟨Yr1, QVb, YQq, trivial⟩, trivial⟩ Tryz.func28 sw28 fun ho hh => ?_
  simp only [XDC, Y8A, Bool.and_eq_true] at ho
  have f1 := hl.fx ho.1.1 (sz := 34) rfl
  have f2 := hv.fx ho.1.2.1 (sz := 1) rfl
  have f3 := hd.fx ho.1.2.2.1 (sz := 2) rfl
  have f4 := Kca hl
  unfold w28
  by_cases c : zEL xs ds = 0
  case neg =>
   have c' := eq_false c
   simp only [QhW, YqD, z18, KHF, Xq8, if_true, if_false, ↓reduceIte, Nat.reduceAdd, Nat.reduceSub, Nat.reduceLeDiff, Nat.reduceEqDiff, Nat.reduceMul, Nat.reduceLT, Int.reduceLT, Int.reduceLE, Int.reduceEq, CO.tmps, Opd.tmps, optT, Nat.reducePow, Nat.reduceDiv, Nat.reduceMod, f1, f2, f3, ZRQ, c', not_false_eq_true, decide_true]
   exact Bt.dropI _ hh (by unfold QeQ; rw [if_pos c])
  have hk : QeQ hs xs ds = if qVW xs ds hs hs.length then 0 else 2 := by unfold QeQ; rw [if_neg (not_not_intro c)]
  simp only [QhW, YqD, z18, KHF, Xq8, if_true, if_false, ↓reduceIte, Nat.reduceAdd, Nat.reduceSub, Nat.reduceLeDiff, Nat.reduceEqDiff, Nat.reduceMul, Nat.reduceLT, Int.reduceLT, Int.reduceLE, Int.reduceEq, CO.tmps, Opd.tmps, optT, Nat.reducePow, Nat.reduceDiv, Nat.reduceMod, f1, f2, f3, ZRQ, c]
  refine zXO (S := Nat) (fun i => hs.length - i) (fun i => tp 1 ++ [.p (h.length + 0) 0] ++ tp 2 ++ [.i .i64 i] ++ tp 44) (fun i => i ≤ hs.length ∧ qVW xs ds hs i) 0 ⟨Nat.zero_le _, fun k hk => absurd hk (Nat.not_lt_zero _)⟩ (by simp only [z18, Xq8, if_true, if_false, reduceIte, Nat.reduceAdd, Nat.reduceSub, Nat.reduceLeDiff, Nat.reduceEqDiff, Nat.reduceMul, Nat.reduceLT, Int.reduceLT, Int.reduceLE, Int.reduceEq]) fun i hi => ?_
  by_cases g1 : i < hs.length
  ·have g1' := eq_true g1
   have e1 : IntKind.i64.wrap ((i : Int) + 1) = ((i + 1 : Nat) : Int) := ZWo (by have := hl.2; unfold maxLen at this; unfold In64; omega)
   have hstep : qVW xs ds hs (i + 1) ↔ (0 < i → JaS (hs.getD (i - 1) Kd6.d).1 (hs.getD i Kd6.d).1) ∧ ZvJ xs ds (hs.getD i Kd6.d).1 := by
    constructor
    ·intro q
     have := q i (Nat.lt_succ_self i)
     exact ⟨this.1, this.2.2⟩
    ·rintro ⟨q1, q2⟩ k hk
     rcases Nat.lt_succ_iff_lt_or_eq.1 hk with z | rfl
     ·exact hi.2 k z
     ·exact ⟨q1, c, q2⟩
   have hbad : ¬ qVW xs ds hs (i + 1) → QeQ hs xs ds = 2 := fun q => by
    rw [hk, if_neg]
    exact fun z => q fun k hk' => z k (by omega)
   by_cases g0 : i = 0
   ·have gz : ((0 : Int) < (i : Int)) = False := eq_false (by omega)
    simp only [z18, KHF, Xq8, if_true, if_false, ↓reduceIte, Nat.reduceAdd, Nat.reduceSub, Nat.reduceLeDiff, Nat.reduceEqDiff, Nat.reduceMul, Nat.reduceLT, Int.reduceLT, Int.reduceLE, Int.reduceEq, CO.tmps, Opd.tmps, optT, Nat.reducePow, Nat.reduceDiv, Nat.reduceMod, f1, f2, f3, f4, g1', gz, K2w, ZL1, c, XUt hh, Ygn hz, QqV hz, qNQ hz]
    refine ⟨fun q => Bt.dropI _ hh (hbad fun z => q (hstep.1 z).2).symm, fun q => ?_⟩
    rw [e1]
    exact ⟨i + 1, ⟨g1, hstep.2 ⟨fun z => absurd z (by omega), Decidable.not_not.1 q⟩⟩, by omega, Wk.refl _⟩
   ·have gz : ((0 : Int) < (i : Int)) = True := eq_true (by omega)
    have e2 : IntKind.i64.wrap ((i : Int) - 1) = ((i - 1 : Nat) : Int) := by
     have : (i : Int) - 1 = ((i - 1 : Nat) : Int) := by omega
     rw [this]
     exact ZWo (by have := hl.2; unfold maxLen at this; unfold In64; omega)
    have g2' : (i - 1 < hs.length) = True := eq_true (by omega)
    simp only [z18, KHF, Xq8, if_true, if_false, ↓reduceIte, Nat.reduceAdd, Nat.reduceSub, Nat.reduceLeDiff, Nat.reduceEqDiff, Nat.reduceMul, Nat.reduceLT, Int.reduceLT, Int.reduceLE, Int.reduceEq, CO.tmps, Opd.tmps, optT, Nat.reducePow, Nat.reduceDiv, Nat.reduceMod, f1, f2, f3, f4, g1', g2', e2, gz, K2w, ZL1, c, XUt hh, Ygn hz, QqV hz, qNQ hz]
    refine ⟨fun q => Bt.dropI _ hh (hbad fun z => q ((hstep.1 z).1 (by omega))).symm, fun p => ⟨fun q => Bt.dropI _ hh (hbad fun z => q (hstep.1 z).2).symm, fun q => ?_⟩⟩
    rw [e1]
    exact ⟨i + 1, ⟨g1, hstep.2 ⟨fun _ => Decidable.not_not.1 p, Decidable.not_not.1 q⟩⟩, by omega, Wk.refl _⟩
  ·obtain rfl : i = hs.length := by omega
   have g1' := eq_false g1
   simp only [z18, KHF, Xq8, if_true, if_false, ↓reduceIte, Nat.reduceAdd, Nat.reduceSub, Nat.reduceLeDiff, Nat.reduceEqDiff, Nat.reduceMul, Nat.reduceLT, Int.reduceLT, Int.reduceLE, Int.reduceEq, CO.tmps, Opd.tmps, optT, Nat.reducePow, Nat.reduceDiv, Nat.reduceMod, f1, f2, f3, f4, g1']
   exact Bt.dropI _ hh (by rw [hk, if_pos hi.2])
 ·cases e
end Go.Proofs.YtcncpbcbedfakaaGreat
end
section
namespace Go.Proofs.YtcncpbcbedfakaaGreat
set_option maxRecDepth 100000
set_option maxHeartbeats 4000000
theorem zHG (x : Hd) : (Kd6.f x).length = 34 := Kd6.len x
theorem Q0C (x : Dg) : (idR.f x).length = 32 := idR.len x
theorem JiT (x : Hd) : (Kd6.f x).take 34 = Kd6.f x := List.take_of_length_le (by rw [zHG]; exact Nat.le_refl _)
theorem QVQ (x : Dg) : (idR.f x).take 32 = idR.f x := List.take_of_length_le (by rw [Q0C]; exact Nat.le_refl _)
theorem Qa4 : ∀ (zs l : List AV), l.length = zs.length → over zs 0 l = l := by
 intro zs l h
 simp only [over, List.take_zero, List.nil_append, Nat.zero_add]
 rw [List.drop_eq_nil_of_le (by omega), List.append_nil]
noncomputable def outL (v : List Int) (ds : Dots) (l : List Hd) : List Hd := l.filter fun x => decide (¬ (zEL v ds = 0 ∧ ZvJ v ds x.1))
theorem XYD (v : List Int) (ds : Dots) {l : List Hd} {i : Nat} (h : i < l.length) : outL v ds (l.take (i + 1)) = outL v ds (l.take i) ++ (if ¬ (zEL v ds = 0 ∧ ZvJ v ds (l.getD i Kd6.d).1) then [l.getD i Kd6.d] else []) := by
 unfold outL
 rw [List.take_succ_eq_append_getElem h, List.filter_append, List.getD_eq_getElem?_getD, List.getElem?_eq_getElem h]
 simp only [Option.getD_some, List.filter_cons, List.filter_nil, decide_eq_true_eq]
theorem Z5j (v : List Int) (ds : Dots) (l : List Hd) (i : Nat) : (outL v ds (l.take i)).length ≤ i := by
 unfold outL
 exact Nat.le_trans (List.length_filter_le _ _) (by rw [List.length_take]; omega)
end Go.Proofs.YtcncpbcbedfakaaGreat
end
section
namespace Go.Proofs.YtcncpbcbedfakaaGreat
set_option maxRecDepth 100000
set_option maxHeartbeats 4000000
theorem eqcG (a b c d : Int) : qN9 [.i, .i] [.i .i64 a, .i .i64 b] [.i .i64 c, .i .i64 d] = some (decide (a = c ∧ b = d)) := by
 have := eqc2 (a, b) (c, d)
 simp only at this
 rw [this]
 congr 1
 exact decide_eq_decide.2 (by rw [Prod.mk.injEq])
theorem zCz : ([.i .u8 0, .i .u8 0, .i .u8 0, .i .u8 0, .i .u8 0, .i .u8 0, .i .u8 0, .i .u8 0, .i .u8 0, .i .u8 0, .i .u8 0, .i .u8 0, .i .u8 0, .i .u8 0, .i .u8 0, .i .u8 0, .i .u8 0, .i .u8 0, .i .u8 0, .i .u8 0, .i .u8 0, .i .u8 0, .i .u8 0, .i .u8 0, .i .u8 0, .i .u8 0, .i .u8 0, .i .u8 0, .i .u8 0, .i .u8 0, .i .u8 0, .i .u8 0] : List AV) = idR.f KDQ := _root_.id rfl
def Z0v (l : List Hd) (d : Int × Int) : Dg × Bool := match l.find? (fun x => decide (x.1 = d)) with
 | some x => (x.2, true)
 | none => (KDQ, false)
theorem qa0 {l : List Hd} {d : Int × Int} {i : Nat} (hi : i < l.length) (h0 : ∀ k, k < i → (l.getD k Kd6.d).1 ≠ d) (h : (l.getD i Kd6.d).1 = d) : Z0v l d = ((l.getD i Kd6.d).2, true) := by
 unfold Z0v
 have e : l.find? (fun x => decide (x.1 = d)) = some (l.getD i Kd6.d) := by
  rw [List.find?_eq_some_iff_getElem]
  refine ⟨by simpa using h, i, hi, by rw [List.getD_eq_getElem?_getD, List.getElem?_eq_getElem hi]; rfl, fun j hj => ?_⟩
  have := h0 j hj
  rw [List.getD_eq_getElem?_getD, List.getElem?_eq_getElem (by omega : j < l.length)] at this
  simpa using this
 rw [e]
theorem Jfg {l : List Hd} {d : Int × Int} (h0 : ∀ k, k < l.length → (l.getD k Kd6.d).1 ≠ d) : Z0v l d = (KDQ, false) := by
 unfold Z0v
 have e : l.find? (fun x => decide (x.1 = d)) = none := by
  rw [List.find?_eq_none]
  intro x hx
  obtain ⟨k, hk, rfl⟩ := List.getElem_of_mem hx
  have := h0 k hk
  rw [List.getD_eq_getElem?_getD, List.getElem?_eq_getElem hk] at this
  simpa using this
 rw [e]
noncomputable def ztc : List AV → List AB → Option (AV × List AB)
 | [l, .ag [.i .i64 a, .i .i64 b]], h => (getS Kd6 h l).bind fun hs => some (.tu [.ag (idR.f (Z0v hs (a, b)).1), .b (Z0v hs (a, b)).2], h)
 | _, _ => none
theorem YEP : Spec Tryz.prog 51 ztc := by
 intro args h v h' e
 unfold ztc at e
 split at e
 ·rename_i l a b
  obtain ⟨hs, hl, e⟩ := zZA e
  cases e
  refine FnAt.c (FnAt.frz0 fun hz => ?_)
  replace hl := hl.frz
  generalize h.map AB.freeze = h at *
  refine FnAt.run (by kernel_rfl) (T := ⟨[], []⟩) ⟨trivial, trivial⟩ Tryz.func51 sw51 fun ho hh => ?_
  simp only [XDC, Y8A, Bool.and_eq_true] at ho
  have f1 := hl.fx ho.1 (sz := 34) rfl
  have f4 := Kca hl
  unfold w51
  simp only [QhW, YqD, z18, KHF, Xq8, if_true, if_false, ↓reduceIte, Nat.reduceAdd, Nat.reduceSub, Nat.reduceLeDiff, Nat.reduceEqDiff, Nat.reduceMul, Nat.reduceLT, Int.reduceLT, Int.reduceLE, Int.reduceEq, CO.tmps, Opd.tmps, optT, Nat.reducePow, Nat.reduceDiv, Nat.reduceMod, f1, zCz, J46]
  refine q2X (S := Nat) (fun i => hs.length - i) (fun i => [l] ++ tp 2 ++ [.p (h.length + 0) 0, .p (h.length + 1) 0] ++ tp 1 ++ [.i .i64 i] ++ tp 19) (fun i => h ++ [.blk true true [.i .i64 a, .i .i64 b], .blk true true (idR.f KDQ)]) (fun i => i ≤ hs.length ∧ ∀ k, k < i → (hs.getD k Kd6.d).1 ≠ (a, b)) 0 ⟨Nat.zero_le _, fun k hk => absurd hk (Nat.not_lt_zero _)⟩ (Bt.wk (by simp only [z18, Xq8, if_true, if_false, reduceIte, Nat.reduceAdd, Nat.reduceSub, Nat.reduceLeDiff, Nat.reduceEqDiff, Nat.reduceMul, Nat.reduceLT, Int.reduceLT, Int.reduceLE, Int.reduceEq])) fun i hi => ?_
  by_cases g1 : i < hs.length
  ·have g1' := eq_true g1
   have e1 : IntKind.i64.wrap ((i : Int) + 1) = ((i + 1 : Nat) : Int) := ZWo (by have := hl.2; unfold maxLen at this; unfold In64; omega)
   by_cases hq : (hs.getD i Kd6.d).1 = (a, b)
   ·have q' : ((hs.getD i Kd6.d).1.1 = a ∧ (hs.getD i Kd6.d).1.2 = b) = True := eq_true (by rw [hq]; exact ⟨rfl, rfl⟩)
    rw [qa0 g1 hi.2 hq]
    simp only [z18, KHF, Xq8, if_true, if_false, ↓reduceIte, Nat.reduceAdd, Nat.reduceSub, Nat.reduceLeDiff, Nat.reduceEqDiff, Nat.reduceMul, Nat.reduceLT, Int.reduceLT, Int.reduceLE, Int.reduceEq, CO.tmps, Opd.tmps, optT, Nat.reducePow, Nat.reduceDiv, Nat.reduceMod, f1, f4, g1', eqcG, q', e1, Q0C, J46, QVQ, Qa4, XUt hh, Ygn hz, QqV hz, qNQ hz]
    exact Bt.drop _ hh rfl (by simp only [Ztp, XDC, Xrx, Y8A, ok_b, YlK, Bool.and_true])
   ·have q' : ((hs.getD i Kd6.d).1.1 = a ∧ (hs.getD i Kd6.d).1.2 = b) = False := eq_false (fun z => hq (Prod.ext z.1 z.2))
    simp only [z18, KHF, Xq8, if_true, if_false, ↓reduceIte, Nat.reduceAdd, Nat.reduceSub, Nat.reduceLeDiff, Nat.reduceEqDiff, Nat.reduceMul, Nat.reduceLT, Int.reduceLT, Int.reduceLE, Int.reduceEq, CO.tmps, Opd.tmps, optT, Nat.reducePow, Nat.reduceDiv, Nat.reduceMod, f1, f4, g1', eqcG, q', e1, Q0C, J46, QVQ, Qa4, XUt hh, Ygn hz, QqV hz, qNQ hz]
    refine ⟨i + 1, ⟨g1, fun k hk => ?_⟩, by dsimp only; omega, Bt.wk (by simp only [z18, Xq8, if_true, if_false, reduceIte, Nat.reduceAdd, Nat.reduceSub, Nat.reduceLeDiff, Nat.reduceEqDiff, Nat.reduceMul, Nat.reduceLT, Int.reduceLT, Int.reduceLE, Int.reduceEq])⟩
    rcases Nat.lt_succ_iff_lt_or_eq.1 hk with z | rfl
    ·exact hi.2 k z
    ·exact hq
  ·obtain rfl : i = hs.length := by omega
   have g1' := eq_false g1
   rw [Jfg hi.2]
   simp only [z18, KHF, Xq8, if_true, if_false, ↓reduceIte, Nat.reduceAdd, Nat.reduceSub, Nat.reduceLeDiff, Nat.reduceEqDiff, Nat.reduceMul, Nat.reduceLT, Int.reduceLT, Int.reduceLE, Int.reduceEq, CO.tmps, Opd.tmps, optT, Nat.reducePow, Nat.reduceDiv, Nat.reduceMod, f1, g1', zCz, Q0C, J46, QVQ, Qa4]
   exact Bt.drop _ hh rfl (by simp only [Ztp, XDC, Xrx, Y8A, ok_b, YlK, Bool.and_true])
 ·cases e
noncomputable instance (l : List Hd) (x : Hd) (i : Nat) : Decidable (∃ y ∈ l.take i, XSb x y) := Classical.propDecidable _
noncomputable def Y8V (l : List Hd) (x : Hd) (i : Nat) : List Hd := if ∃ y ∈ l.take i, XSb x y then layG XSb (l.take i) x else l.take i
theorem Xy3 {l : List Hd} {x : Hd} (h : ¬ ∃ y ∈ l, XSb x y) : layG XSb l x = l ++ [x] := by
 induction l with
 | nil => rfl
 | cons a l ih =>
  unfold layG
  rw [if_neg fun q => h ⟨a, .head _, q⟩, ih fun ⟨y, hy, q⟩ => h ⟨y, .tail _ hy, q⟩]
  rfl
theorem Qrf {l : List Hd} {x y : Hd} (h : ∃ z ∈ l, XSb x z) : layG XSb (l ++ [y]) x = layG XSb l x ++ [y] := by
 induction l with
 | nil => obtain ⟨z, hz, _⟩ := h; cases hz
 | cons a l ih =>
  show layG XSb (a :: (l ++ [y])) x = _
  unfold layG
  by_cases q : XSb x a
  ·rw [if_pos q, if_pos q]; rfl
  ·rw [if_neg q, if_neg q, ih]
   ·rfl
   ·obtain ⟨z, hz, hz2⟩ := h
    rcases List.mem_cons.1 hz with rfl | hz
    ·exact absurd hz2 q
    ·exact ⟨z, hz, hz2⟩
open Classical in
theorem K2H {l : List Hd} {x : Hd} {i : Nat} (hi : i < l.length) :
  ((∃ y ∈ l.take (i + 1), XSb x y) ↔ (∃ y ∈ l.take i, XSb x y) ∨ XSb x (l.getD i Kd6.d)) ∧
  Y8V l x (i + 1) = Y8V l x i ++ (if (∃ y ∈ l.take i, XSb x y) ∨ ¬ XSb x (l.getD i Kd6.d) then [l.getD i Kd6.d] else [x, l.getD i Kd6.d]) := by
 have et : l.take (i + 1) = l.take i ++ [l.getD i Kd6.d] := by rw [List.take_succ_eq_append_getElem hi, List.getD_eq_getElem?_getD, List.getElem?_eq_getElem hi]; rfl
 have h1 : (∃ y ∈ l.take (i + 1), XSb x y) ↔ (∃ y ∈ l.take i, XSb x y) ∨ XSb x (l.getD i Kd6.d) := by
  rw [et]
  constructor
  ·rintro ⟨y, hy, q⟩
   rcases List.mem_append.1 hy with z | z
   ·exact .inl ⟨y, z, q⟩
   ·rw [List.mem_singleton.1 z] at q
    exact .inr q
  ·rintro (⟨y, hy, q⟩ | q)
   ·exact ⟨y, List.mem_append.2 (.inl hy), q⟩
   ·exact ⟨_, List.mem_append.2 (.inr (.head _)), q⟩
 refine ⟨h1, ?_⟩
 unfold Y8V
 by_cases p : ∃ y ∈ l.take i, XSb x y
 ·rw [if_pos (h1.2 (.inl p)), if_pos p, if_pos (.inl p), et, Qrf p]
 ·by_cases q : XSb x (l.getD i Kd6.d)
  ·rw [if_pos (h1.2 (.inr q)), if_neg p, if_neg (fun z => z.elim p (fun z => z q)), et]
   clear h1 et
   generalize l.take i = m at *
   generalize l.getD i Kd6.d = y at *
   induction m with
   | nil => show layG XSb [y] x = [x, y]; unfold layG; rw [if_pos q]
   | cons a m ih =>
    show layG XSb (a :: (m ++ [y])) x = _
    unfold layG
    rw [if_neg fun z => p ⟨a, .head _, z⟩, ih fun ⟨z, hz, hz2⟩ => p ⟨z, .tail _ hz, hz2⟩]
    rfl
  ·rw [if_neg (fun z => (h1.1 z).elim p q), if_neg p, if_pos (.inr q), et]
theorem JXN (l : List Hd) (x : Hd) : layG XSb l x = if ∃ y ∈ l.take l.length, XSb x y then Y8V l x l.length else Y8V l x l.length ++ [x] := by
 unfold Y8V
 split
 ·rw [List.take_length]
 ·rename_i h
  rw [List.take_length] at h ⊢
  exact Xy3 h
end Go.Proofs.YtcncpbcbedfakaaGreat
end
section
namespace Go.Proofs.YtcncpbcbedfakaaGreat
set_option maxRecDepth 100000
set_option maxHeartbeats 4000000
open Classical in
noncomputable def getH (a : AV) : Option Hd := if e : ∃ y, a = .ag (Kd6.f y) then some e.choose else none
theorem Ktb (y : Hd) : getH (.ag (Kd6.f y)) = some y := by
 have e : ∃ z, AV.ag (Kd6.f y) = .ag (Kd6.f z) := ⟨y, rfl⟩
 unfold getH
 rw [dif_pos e]
 have h := e.choose_spec
 rw [AV.ag.injEq] at h
 rw [← Kd6.inj _ _ h]
theorem z3D {β : Type} {a : AV} {f : Hd → Option β} {b : β} (e : (getH a).bind f = some b) : ∃ y, a = .ag (Kd6.f y) ∧ f y = some b := by
 unfold getH at e
 split at e
 ·rename_i h
  exact ⟨h.choose, h.choose_spec, e⟩
 ·cases e
section
variable {α : Type} {r : Row α}
theorem QuB (id : Nat) (l : List α) (x y : α) : apS r id (l ++ [x, y]) = .sl id 0 (l.length + 2) (l.length + 2) (some r.sz) := by
 unfold apS
 rw [if_neg (by simp), List.length_append]
 rfl
theorem zUc (m : Bool) (l : List α) (x y : α) : resB r m (l ++ [x, y]) = .blk true m (r.cells l ++ (r.f x ++ r.f y)) := by
 unfold resB
 rw [if_neg (by simp)]
 simp [Row.cells]
theorem JVV (id : Nat) (x y : α) : apS r id [x, y] = .sl id 0 2 2 (some r.sz) := _root_.id rfl
theorem YP6 (m : Bool) (x y : α) : resB r m [x, y] = .blk true m (r.f x ++ r.f y) := by
 unfold resB
 rw [if_neg (by simp)]
 simp [Row.cells]
theorem zOg (id : Nat) (l : List α) (x : α) : rsl r id (l ++ [x]) = .sl id 0 (l.length + 1) (l.length + 1) (some r.sz) := by
 unfold rsl
 rw [if_neg (by simp), List.length_append]
 rfl
theorem KY9 (id : Nat) (x : α) : rsl r id [x] = .sl id 0 1 1 (some r.sz) := _root_.id rfl
end
open Classical in
noncomputable def ZiR (l : List Hd) (x : Hd) (i : Nat) : Bool := decide (∃ z ∈ l.take i, XSb x z)
theorem qLa {l : List Hd} {x : Hd} {i : Nat} (h : ∃ z ∈ l.take i, XSb x z) : ZiR l x i = true := decide_eq_true h
theorem XDM {l : List Hd} {x : Hd} {i : Nat} (h : ¬ ∃ z ∈ l.take i, XSb x z) : ZiR l x i = false := decide_eq_false h
noncomputable def JEH : List AV → List AB → Option (AV × List AB)
 | [l, x], h => (getS Kd6 h l).bind fun hs => (getH x).bind fun y => if hs.length ≤ 1000000 then some (rsl Kd6 h.length (layG XSb hs y), h ++ [resB Kd6 true (layG XSb hs y)]) else none
 | _, _ => none
theorem X5Y : Spec Tryz.prog 53 JEH := by
 intro args h v h' e
 unfold JEH at e
 split at e
 ·rename_i l x
  obtain ⟨hs, hl, e⟩ := zZA e
  obtain ⟨y, hx, e2⟩ := z3D e
  clear e
  subst hx
  split at e2
  ·rename_i hL
   cases e2
   refine FnAt.c (FnAt.frz fun hz => ?_)
   rw [show h.length = (h.map AB.freeze).length from (List.length_map _).symm]
   replace hl := hl.frz
   generalize h.map AB.freeze = h at *
   refine FnAt.run (by kernel_rfl) (T := ⟨[⟨73, K2w, fun _ => []⟩], []⟩) ⟨⟨QVb, trivial⟩, trivial⟩ Tryz.func53 sw53 fun ho hh => ?_
   simp only [XDC, Y8A, Bool.and_eq_true] at ho
   have f1 := hl.fx ho.1 (sz := 34) rfl
   have f4 := Kca hl
   have fo : ∀ c, l.ok (fun i => decide (i < h.length + c)) = true := fun c => AV.ok_mono (fun i q => by simp only [decide_eq_true_eq] at q ⊢; omega) l ho.1
   have fr : ∀ sel, Wk (l.ren (selN h.length sel)) l := fun sel => Wk.ren (fun i hi => ZiG hi) ho.1
   have f5 : ∀ (x : List AB), ldV (h ++ (.blk true true (Kd6.f y) :: x)) (some 2) (.p (h.length + 0) 0) = some (.ag [.i .i64 y.1.1, .i .i64 y.1.2]) := fun x => by
    rw [J5Q, XPC]
    simp only [Option.bind_some, zHG, Nat.zero_add]
    rw [if_pos (by decide), qMb, zBW]
   unfold w53
   simp only [QhW, YqD, z18, KHF, Xq8, if_true, if_false, ↓reduceIte, Nat.reduceAdd, Nat.reduceSub, Nat.reduceLeDiff, Nat.reduceEqDiff, Nat.reduceMul, Nat.reduceLT, Int.reduceLT, Int.reduceLE, Int.reduceEq, CO.tmps, Opd.tmps, optT, Nat.reducePow, Nat.reduceDiv, Nat.reduceMod, f1, QTL, zHG]
   refine q2X (S := Nat) (fun i => hs.length - i) (fun i => [l] ++ tp 2 ++ [.p (h.length + 0) 0] ++ tp 1 ++ [apS Kd6 (h.length + 1) (Y8V hs y i), .b (ZiR hs y i), .i .i64 i] ++ tp 36) (fun i => h ++ [.blk true true (Kd6.f y), resB Kd6 true (Y8V hs y i)]) (fun i => i ≤ hs.length) 0 (Nat.zero_le _) ?_ fun i hi => ?_
   ·have z0 : Y8V hs y 0 = [] := by unfold Y8V; rw [if_neg (by simp)]; rfl
    have z1 : ZiR hs y 0 = false := XDM (by simp)
    show Bt _ _ _ _ _ (h ++ [.blk true true (Kd6.f y), resB Kd6 true (Y8V hs y 0)])
    rw [z0, z1]
    show Bt _ _ _ _ _ (h ++ ([.blk true true (Kd6.f y)] ++ List.replicate 1 .dead))
    rw [← List.append_assoc]
    refine Bt.trans (Bt.wk ?_) (Bt.pad _ _ 1)
    simp only [q8J, z18, Xq8, if_true, if_false, reduceIte, Nat.reduceAdd, Nat.reduceSub, Nat.reduceLeDiff, Nat.reduceEqDiff, Nat.reduceMul, Nat.reduceLT, Int.reduceLT, Int.reduceLE, Int.reduceEq]
   ·have ln : (Y8V hs y i).length ≤ i + 1 := by
     unfold Y8V
     split
     ·rw [K8p, List.length_take]; omega
     ·rw [List.length_take]; omega
    by_cases g1 : i < hs.length
    ·have g1' := eq_true g1
     have e1 : IntKind.i64.wrap ((i : Int) + 1) = ((i + 1 : Nat) : Int) := ZWo (by unfold In64; omega)
     obtain ⟨hs1, hs2⟩ := K2H (x := y) g1
     by_cases p : ∃ z ∈ hs.take i, XSb y z
     ·have p' := qLa p
      have pt := qLa (hs1.2 (.inl p))
      rw [if_pos (.inl p)] at hs2
      have hlB : (Y8V hs y i).length ≠ 0 := by
       unfold Y8V
       rw [if_pos p, K8p]
       omega
      have gr : ∀ id, apS Kd6 id (Y8V hs y i) = rsl Kd6 id (Y8V hs y i) := fun id => YM2 _ hlB
      have fa := fun L k ys hb => q9y (h := h) (p := h.length) rfl (r := Kd6) (sz := 34) rfl L k (Y8V hs y i) 48 1 ys hlB hb (by decide) (by omega) (by unfold maxLen; omega)
      simp only [gr, p', z18, KHF, Xq8, if_true, if_false, ↓reduceIte, Nat.reduceAdd, Nat.reduceSub, Nat.reduceLeDiff, Nat.reduceEqDiff, Nat.reduceMul, Nat.reduceLT, Int.reduceLT, Int.reduceLE, Int.reduceEq, CO.tmps, Opd.tmps, optT, Nat.reducePow, Nat.reduceDiv, Nat.reduceMod, f1, f4, f5, g1', K2w, e1, fa, QTL, zHG, JiT, Qa4, List.length_cons, List.length_nil, XUt hh, Ygn hz, QqV hz, qNQ hz]
      refine ⟨i + 1, g1, by dsimp only; omega, ?_⟩
      dsimp only
      rw [hs2, pt]
      simp only [ZTM, YEn]
      exact Bt.sel [0, 3] hh (by decide) (by simp only [KlE, FrSel, BlkSel, AV.ren, renL, AV.ok, okL, Option.some.injEq, exists_eq_left', List.length_cons, List.length_nil, Nat.reduceAdd, Nat.reduceLT, reduceCtorEq, implies_true, exists_eq', fo, fr]) (by simp only [KlE, FrSel, BlkSel, AV.ren, renL, AV.ok, okL, Option.some.injEq, exists_eq_left', List.length_cons, List.length_nil, Nat.reduceAdd, Nat.reduceLT, reduceCtorEq, implies_true, exists_eq', fo, fr, zLU])
     ·have p' := XDM p
      have z3 : (1 * 48 ≤ 140737488355328 ∧ 1 ≤ maxLen) = True := eq_true ⟨by decide, by unfold maxLen; omega⟩
      by_cases q : XSb y (hs.getD i Kd6.d)
      ·have q' : JaS (y.1.1, y.1.2) ((hs.getD i Kd6.d).1.1, (hs.getD i Kd6.d).1.2) = True := eq_true q
       have pt := qLa (hs1.2 (.inr q))
       rw [if_neg (fun z => z.elim p (fun z => z q))] at hs2
       by_cases hB : Y8V hs y i = []
       ·rw [hB, List.nil_append] at hs2
        have fa2 := fun L k ys hb hx => Zwl (h := h) L k 1 34 48 1 ys hb hx (by decide) (by decide) (by decide) (by unfold maxLen; omega)
        simp only [hB, p', q', q8J, z18, KHF, Xq8, if_true, if_false, ↓reduceIte, Nat.reduceAdd, Nat.reduceSub, Nat.reduceLeDiff, Nat.reduceEqDiff, Nat.reduceMul, Nat.reduceLT, Int.reduceLT, Int.reduceLE, Int.reduceEq, CO.tmps, Opd.tmps, optT, Nat.reducePow, Nat.reduceDiv, Nat.reduceMod, z3, fa2, zlc, JJe, Z8u, QTt, f1, f4, f5, g1', K2w, e1, QTL, zHG, JiT, Qa4, List.length_cons, List.length_nil, XUt hh, Ygn hz, QqV hz, qNQ hz]
        refine ⟨i + 1, g1, by dsimp only; omega, ?_⟩
        dsimp only
        rw [hs2, pt]
        simp only [JVV, YP6, List.append_assoc]
        exact Bt.sel [0, 5] hh (by decide) (by simp only [KlE, FrSel, BlkSel, AV.ren, renL, AV.ok, okL, Option.some.injEq, exists_eq_left', List.length_cons, List.length_nil, Nat.reduceAdd, Nat.reduceLT, reduceCtorEq, implies_true, exists_eq', fo, fr]) (by simp only [KlE, FrSel, BlkSel, AV.ren, renL, AV.ok, okL, Option.some.injEq, exists_eq_left', List.length_cons, List.length_nil, Nat.reduceAdd, Nat.reduceLT, reduceCtorEq, implies_true, exists_eq', fo, fr, zLU])
       ·have hlB : (Y8V hs y i).length ≠ 0 := fun z => hB (List.eq_nil_of_length_eq_zero z)
        have gr : ∀ id, apS Kd6 id (Y8V hs y i) = rsl Kd6 id (Y8V hs y i) := fun id => YM2 _ hlB
        have fa := fun L k ys hb => q9y (h := h) (p := h.length) rfl (r := Kd6) (sz := 34) rfl L k (Y8V hs y i) 48 1 ys hlB hb (by decide) (by omega) (by unfold maxLen; omega)
        have fa2 := fun L k ys hb hx => Zwl (h := h) L k ((Y8V hs y i).length + 1) 34 48 1 ys hb hx (by decide) (by decide) (by omega) (by unfold maxLen; omega)
        have k8 : (Kd6.cells (Y8V hs y i)).length = (Y8V hs y i).length * 34 := Kd6.cells_len _
        have k9 : ((Y8V hs y i).length * 34 + 34 = ((Y8V hs y i).length + 1) * 34) = True := eq_true (by omega)
        simp only [gr, p', q', z18, KHF, Xq8, if_true, if_false, ↓reduceIte, Nat.reduceAdd, Nat.reduceSub, Nat.reduceLeDiff, Nat.reduceEqDiff, Nat.reduceMul, Nat.reduceLT, Int.reduceLT, Int.reduceLE, Int.reduceEq, CO.tmps, Opd.tmps, optT, Nat.reducePow, Nat.reduceDiv, Nat.reduceMod, fa, fa2, k8, k9, List.length_append, zlc, JJe, Z8u, QTt, f1, f4, f5, g1', K2w, e1, QTL, zHG, JiT, Qa4, List.length_cons, List.length_nil, XUt hh, Ygn hz, QqV hz, qNQ hz]
        refine ⟨i + 1, g1, by dsimp only; omega, ?_⟩
        dsimp only
        rw [hs2, pt]
        simp only [QuB, zUc, List.append_assoc]
        exact Bt.sel [0, 5] hh (by decide) (by simp only [KlE, FrSel, BlkSel, AV.ren, renL, AV.ok, okL, Option.some.injEq, exists_eq_left', List.length_cons, List.length_nil, Nat.reduceAdd, Nat.reduceLT, reduceCtorEq, implies_true, exists_eq', fo, fr]) (by simp only [KlE, FrSel, BlkSel, AV.ren, renL, AV.ok, okL, Option.some.injEq, exists_eq_left', List.length_cons, List.length_nil, Nat.reduceAdd, Nat.reduceLT, reduceCtorEq, implies_true, exists_eq', fo, fr, zLU])
      ·have q' : JaS (y.1.1, y.1.2) ((hs.getD i Kd6.d).1.1, (hs.getD i Kd6.d).1.2) = False := eq_false q
       have pt := XDM (fun z => (hs1.1 z).elim p q)
       rw [if_pos (.inr q)] at hs2
       by_cases hB : Y8V hs y i = []
       ·rw [hB, List.nil_append] at hs2
        simp only [hB, p', q', q8J, z18, KHF, Xq8, if_true, if_false, ↓reduceIte, Nat.reduceAdd, Nat.reduceSub, Nat.reduceLeDiff, Nat.reduceEqDiff, Nat.reduceMul, Nat.reduceLT, Int.reduceLT, Int.reduceLE, Int.reduceEq, CO.tmps, Opd.tmps, optT, Nat.reducePow, Nat.reduceDiv, Nat.reduceMod, z3, f1, f4, f5, g1', K2w, e1, QTL, zHG, JiT, Qa4, List.length_cons, List.length_nil, XUt hh, Ygn hz, QqV hz, qNQ hz]
        refine ⟨i + 1, g1, by dsimp only; omega, ?_⟩
        dsimp only
        rw [hs2, pt]
        simp only [ZNS, QE9]
        exact Bt.sel [0, 3] hh (by decide) (by simp only [KlE, FrSel, BlkSel, AV.ren, renL, AV.ok, okL, Option.some.injEq, exists_eq_left', List.length_cons, List.length_nil, Nat.reduceAdd, Nat.reduceLT, reduceCtorEq, implies_true, exists_eq', fo, fr]) (by simp only [KlE, FrSel, BlkSel, AV.ren, renL, AV.ok, okL, Option.some.injEq, exists_eq_left', List.length_cons, List.length_nil, Nat.reduceAdd, Nat.reduceLT, reduceCtorEq, implies_true, exists_eq', fo, fr, zLU])
       ·have hlB : (Y8V hs y i).length ≠ 0 := fun z => hB (List.eq_nil_of_length_eq_zero z)
        have gr : ∀ id, apS Kd6 id (Y8V hs y i) = rsl Kd6 id (Y8V hs y i) := fun id => YM2 _ hlB
        have fa := fun L k ys hb => q9y (h := h) (p := h.length) rfl (r := Kd6) (sz := 34) rfl L k (Y8V hs y i) 48 1 ys hlB hb (by decide) (by omega) (by unfold maxLen; omega)
        simp only [gr, p', q', z18, KHF, Xq8, if_true, if_false, ↓reduceIte, Nat.reduceAdd, Nat.reduceSub, Nat.reduceLeDiff, Nat.reduceEqDiff, Nat.reduceMul, Nat.reduceLT, Int.reduceLT, Int.reduceLE, Int.reduceEq, CO.tmps, Opd.tmps, optT, Nat.reducePow, Nat.reduceDiv, Nat.reduceMod, fa, f1, f4, f5, g1', K2w, e1, QTL, zHG, JiT, Qa4, List.length_cons, List.length_nil, XUt hh, Ygn hz, QqV hz, qNQ hz]
        refine ⟨i + 1, g1, by dsimp only; omega, ?_⟩
        dsimp only
        rw [hs2, pt]
        simp only [ZTM, YEn]
        exact Bt.sel [0, 3] hh (by decide) (by simp only [KlE, FrSel, BlkSel, AV.ren, renL, AV.ok, okL, Option.some.injEq, exists_eq_left', List.length_cons, List.length_nil, Nat.reduceAdd, Nat.reduceLT, reduceCtorEq, implies_true, exists_eq', fo, fr]) (by simp only [KlE, FrSel, BlkSel, AV.ren, renL, AV.ok, okL, Option.some.injEq, exists_eq_left', List.length_cons, List.length_nil, Nat.reduceAdd, Nat.reduceLT, reduceCtorEq, implies_true, exists_eq', fo, fr, zLU])
    ·obtain rfl : i = hs.length := by omega
     have g1' := eq_false g1
     have he := JXN hs y
     by_cases p : ∃ z ∈ hs.take hs.length, XSb y z
     ·have p' := qLa p
      rw [if_pos p] at he
      rw [he]
      simp only [p', z18, KHF, Xq8, if_true, if_false, ↓reduceIte, Nat.reduceAdd, Nat.reduceSub, Nat.reduceLeDiff, Nat.reduceEqDiff, Nat.reduceMul, Nat.reduceLT, Int.reduceLT, Int.reduceLE, Int.reduceEq, CO.tmps, Opd.tmps, optT, Nat.reducePow, Nat.reduceDiv, Nat.reduceMod, f1, g1']
      refine Bt.trans (Bt.wk1 (XIf _ _)) ?_
      exact Bt.sel [1] hh (by decide) (by simp only [KlE, FrSel, BlkSel, AV.ren, renL, AV.ok, okL, Option.some.injEq, exists_eq_left', List.length_cons, List.length_nil, Nat.reduceAdd, Nat.reduceLT, reduceCtorEq, implies_true, exists_eq']) (by simp only [KlE, FrSel, BlkSel, AV.ren, renL, AV.ok, okL, Option.some.injEq, exists_eq_left', List.length_cons, List.length_nil, Nat.reduceAdd, Nat.reduceLT, reduceCtorEq, implies_true, exists_eq'])
     ·have p' := XDM p
      rw [if_neg p] at he
      rw [he]
      have z3 : (1 * 48 ≤ 140737488355328 ∧ 1 ≤ maxLen) = True := eq_true ⟨by decide, by unfold maxLen; omega⟩
      by_cases hB : Y8V hs y hs.length = []
      ·simp only [hB, p', q8J, z18, KHF, Xq8, if_true, if_false, ↓reduceIte, Nat.reduceAdd, Nat.reduceSub, Nat.reduceLeDiff, Nat.reduceEqDiff, Nat.reduceMul, Nat.reduceLT, Int.reduceLT, Int.reduceLE, Int.reduceEq, CO.tmps, Opd.tmps, optT, Nat.reducePow, Nat.reduceDiv, Nat.reduceMod, f1, g1', z3, QTL, zHG, JiT, Qa4, List.length_cons, List.length_nil]
       rw [KY9, QE9]
       exact Bt.sel [3] hh (by decide) (by simp only [KlE, FrSel, BlkSel, AV.ren, renL, AV.ok, okL, Option.some.injEq, exists_eq_left', List.length_cons, List.length_nil, Nat.reduceAdd, Nat.reduceLT, reduceCtorEq, implies_true, exists_eq']) (by simp only [KlE, FrSel, BlkSel, AV.ren, renL, AV.ok, okL, Option.some.injEq, exists_eq_left', List.length_cons, List.length_nil, Nat.reduceAdd, Nat.reduceLT, reduceCtorEq, implies_true, exists_eq', zLU])
      ·have hlB : (Y8V hs y hs.length).length ≠ 0 := fun z => hB (List.eq_nil_of_length_eq_zero z)
       have gr : ∀ id, apS Kd6 id (Y8V hs y hs.length) = rsl Kd6 id (Y8V hs y hs.length) := fun id => YM2 _ hlB
       have fa := fun L k ys hb => q9y (h := h) (p := h.length) rfl (r := Kd6) (sz := 34) rfl L k (Y8V hs y hs.length) 48 1 ys hlB hb (by decide) (by omega) (by unfold maxLen; omega)
       simp only [gr, p', z18, KHF, Xq8, if_true, if_false, ↓reduceIte, Nat.reduceAdd, Nat.reduceSub, Nat.reduceLeDiff, Nat.reduceEqDiff, Nat.reduceMul, Nat.reduceLT, Int.reduceLT, Int.reduceLE, Int.reduceEq, CO.tmps, Opd.tmps, optT, Nat.reducePow, Nat.reduceDiv, Nat.reduceMod, f1, g1', fa, QTL, zHG, JiT, Qa4, List.length_cons, List.length_nil]
       rw [zOg, YEn]
       exact Bt.sel [3] hh (by decide) (by simp only [KlE, FrSel, BlkSel, AV.ren, renL, AV.ok, okL, Option.some.injEq, exists_eq_left', List.length_cons, List.length_nil, Nat.reduceAdd, Nat.reduceLT, reduceCtorEq, implies_true, exists_eq']) (by simp only [KlE, FrSel, BlkSel, AV.ren, renL, AV.ok, okL, Option.some.injEq, exists_eq_left', List.length_cons, List.length_nil, Nat.reduceAdd, Nat.reduceLT, reduceCtorEq, implies_true, exists_eq', zLU])
  ·cases e2
 ·cases e
end Go.Proofs.YtcncpbcbedfakaaGreat
end
section
namespace Go.Proofs.YtcncpbcbedfakaaGreat
set_option maxRecDepth 100000
set_option maxHeartbeats 4000000
theorem Zvz {l : List Hd} {v : List Int} {ds : Dots} (h : QeQ l v ds = 0) : zEL v ds = 0 ∧ qVW v ds l l.length := by
 unfold QeQ at h
 split at h
 ·rename_i c; exact absurd h c
 ·rename_i c
  split at h
  ·rename_i q; exact ⟨Decidable.not_not.1 c, q⟩
  ·cases h
end Go.Proofs.YtcncpbcbedfakaaGreat
end
section
namespace Go.Proofs.YtcncpbcbedfakaaGreat
set_option maxRecDepth 100000
set_option maxHeartbeats 4000000
noncomputable def YQN : List AV → List AB → Option (AV × List AB)
 | [a], h => (getS intR h a).bind fun xs => if xs.length ≤ 1000000 then some (rsl intR h.length xs, h ++ [resB intR true xs]) else none
 | _, _ => none
theorem KnK (h : List AB) (xs : List Int) (h0 : xs.length = 0) : FnC Tryz.prog 105 [.se] h (rsl intR h.length xs) (h ++ [resB intR true xs]) := by
 refine FnAt.c (FnAt.run (by kernel_rfl) (T := ⟨[], []⟩) ⟨trivial, trivial⟩ Tryz.func105 Y6A fun ho hh => ?_)
 have fs : ∀ x : List AB, srcV (h ++ x) 1 .se = some (0, []) := fun _ => rfl
 unfold w105
 simp only [QhW, YqD, z18, Xq8, if_true, if_false, reduceIte, Nat.reduceAdd, Nat.reduceSub, Nat.reduceLeDiff, Nat.reduceEqDiff, Nat.reduceMul, Nat.reduceLT, Int.reduceLT, Int.reduceLE, Int.reduceEq, fs]
 exact Bt.one 0 hh (fun _ => Wk.empty _ _ _ _ _ _) (by simp) (fun h => absurd h0 h)
noncomputable def qJA : List AV → List AB → Option (AV × List AB)
 | [a], h => (getS Kd6 h a).bind fun xs => if xs.length ≤ 1000000 then some (rsl Kd6 h.length xs, h ++ [resB Kd6 true xs]) else none
 | _, _ => none
theorem Kb3 (h : List AB) (xs : List Hd) (h0 : xs.length = 0) : FnC Tryz.prog 110 [.se] h (rsl Kd6 h.length xs) (h ++ [resB Kd6 true xs]) := by
 refine FnAt.c (FnAt.run (by kernel_rfl) (T := ⟨[], []⟩) ⟨trivial, trivial⟩ Tryz.func110 KIh fun ho hh => ?_)
 have fs : ∀ x : List AB, srcV (h ++ x) 34 .se = some (0, []) := fun _ => rfl
 unfold w110
 simp only [QhW, YqD, z18, Xq8, if_true, if_false, reduceIte, Nat.reduceAdd, Nat.reduceSub, Nat.reduceLeDiff, Nat.reduceEqDiff, Nat.reduceMul, Nat.reduceLT, Int.reduceLT, Int.reduceLE, Int.reduceEq, fs]
 exact Bt.one 0 hh (fun _ => Wk.empty _ _ _ _ _ _) (by simp) (fun h => absurd h0 h)
theorem qor (h : List AB) (xs : List Hd) (h0 : xs.length = 0) : FnC Tryz.prog 110 [.ns] h (rsl Kd6 h.length xs) (h ++ [resB Kd6 true xs]) := by
 refine FnAt.c (FnAt.run (by kernel_rfl) (T := ⟨[], []⟩) ⟨trivial, trivial⟩ Tryz.func110 KIh fun ho hh => ?_)
 unfold w110
 simp only [QhW, YqD, z18, Xq8, if_true, if_false, reduceIte, Nat.reduceAdd, Nat.reduceSub, Nat.reduceLeDiff, Nat.reduceEqDiff, Nat.reduceMul, Nat.reduceLT, Int.reduceLT, Int.reduceLE, Int.reduceEq]
 exact Bt.one0 h0 (Wk.nil _ _)
theorem KfI : Spec Tryz.prog 110 qJA := by
 intro args h v h' e
 unfold qJA at e
 split at e
 ·rename_i a
  obtain ⟨xs, ha, e⟩ := zZA e
  split at e
  ·rename_i hl
   cases e
   by_cases hk : ∃ id off cap, a = .sl id off 0 cap (some 0)
   ·obtain ⟨id, off, cap, rfl⟩ := hk
    have h0 : xs.length = 0 := by have := ha.len; simp only [lenV, Option.some.injEq] at this; omega
    exact FnC.empty1 (qor h xs h0) (Kb3 h xs h0)
   have hs := ha.isSl
   have hlen := ha.len
   cases a <;> first | (cases hs; done) | skip
   ·rename_i id off len cap k
    have hq : q70 (.sl id off len cap k) .ns = some false := by
     rw [K7c, if_neg]
     rintro ⟨rfl, rfl⟩
     exact hk ⟨_, _, _, rfl⟩
    refine FnAt.c (FnAt.run (by kernel_rfl) (T := ⟨[], []⟩) ⟨trivial, trivial⟩ Tryz.func110 KIh fun ho hh => ?_)
    simp only [XDC, Bool.and_eq_true] at ho
    have fa := ha.fx ho.1 (sz := 34) rfl
    have fs := ha.src (sz := 34) rfl
    unfold w110
    by_cases h0 : xs.length = 0
    ·simp only [QhW, YqD, z18, Xq8, if_true, if_false, reduceIte, Nat.reduceAdd, Nat.reduceSub, Nat.reduceLeDiff, Nat.reduceEqDiff, Nat.reduceMul, Nat.reduceLT, Int.reduceLT, Int.reduceLE, Int.reduceEq, fa, fs, h0, hq, YuD]
     exact Bt.one 0 hh (fun _ => Wk.empty _ _ _ _ _ _) (by simp) (fun h => absurd h0 h)
    ·simp only [QhW, YqD, z18, Xq8, if_true, if_false, reduceIte, Nat.reduceAdd, Nat.reduceSub, Nat.reduceLeDiff, Nat.reduceEqDiff, Nat.reduceMul, Nat.reduceLT, Int.reduceLT, Int.reduceLE, Int.reduceEq, fa, fs, h0, hq, YuD]
     exact ⟨⟨by omega, by unfold maxLen; omega⟩, Bt.one 1 hh (fun h => absurd h h0) (by simp) (fun _ => ⟨rfl, rfl⟩)⟩
   ·exact Kb3 h xs (by simp only [lenV, Option.some.injEq] at hlen; omega)
   ·exact qor h xs (by simp only [lenV, Option.some.injEq] at hlen; omega)
  ·cases e
 ·cases e
end Go.Proofs.YtcncpbcbedfakaaGreat
end
