/- Part 15 of what the laws' proofs rest on. No condition. -/
import Derived.Test.YtfaccliekejngaaGreatOo14
set_option linter.all false
section
namespace Go.Proofs.YtfaccliekejngaaGreat
theorem Zia (xs ys : List Int) (n i : Nat) (hi : i < n) : (jn xs ys n).getD i 0 = max (vAt xs ((i + 1 : Nat) : Int)) (vAt ys ((i + 1 : Nat) : Int)) := by
 simp [jn, List.getD_eq_getElem?_getD, List.getElem?_range hi]
theorem KJL (xs : List Int) (r : Int) : 0 ≤ vAt xs r := by unfold vAt; split <;> (try split) <;> omega
theorem J4U (xs : List Int) (r : Int) (h : r < 1 ∨ (xs.length : Int) < r) : vAt xs r = 0 := by
 unfold vAt
 by_cases h1 : r < 1
 ·rw [if_pos h1]
 ·rw [if_neg h1, if_pos (by omega)]
theorem YAu (xs : List Int) (i : Nat) (h : i < xs.length) : vAt xs ((i + 1 : Nat) : Int) = max (xs.getD i 0) 0 := by
 unfold vAt
 rw [if_neg (by omega), if_neg (by omega)]
 rw [show (((i + 1 : Nat) : Int) - 1).toNat = i by omega]
theorem z5S (xs ys : List Int) : (qIk xs ys).length = max xs.length ys.length := zDy _ _ _
theorem qvy (xs ys : List Int) (r : Int) : vAt (qIk xs ys) r = max (vAt xs r) (vAt ys r) := by
 by_cases h : r < 1 ∨ (((max xs.length ys.length : Nat) : Int) < r)
 ·rw [J4U _ _ (by rw [z5S]; exact h), J4U xs r (by omega), J4U ys r (by omega)]
  rfl
 ·obtain ⟨i, rfl⟩ : ∃ i : Nat, r = ((i + 1 : Nat) : Int) := ⟨(r - 1).toNat, by omega⟩
  rw [YAu _ i (by rw [z5S]; omega)]
  unfold qIk
  rw [Zia _ _ _ _ (by omega)]
  have := KJL xs ((i + 1 : Nat) : Int)
  omega
theorem XKw (xs : List Int) (d : Int × Int) : (YpI xs d).length ≤ max xs.length 16 := by
 unfold YpI
 split
 ·rw [z5S]; simp; omega
 ·rename_i h
  rw [z5S]
  simp only [List.length_set, List.length_replicate]
  omega
theorem KbM (r : Int) : vAt [] r = 0 := J4U [] r (by simp; omega)
theorem YXx (xs : List Int) {d : Int × Int} (hd : KG5 d) (hn : vAt xs d.1 < d.2) (r : Int) : vAt (YpI xs d) r = if r = d.1 then d.2 else vAt xs r := by
 obtain ⟨a, b⟩ := d
 obtain ⟨h1, h2, h3, h4⟩ := hd
 simp only at h1 h2 h3 h4 hn ⊢
 unfold YpI
 rw [if_neg (by simp only; omega), qvy]
 obtain ⟨i, rfl⟩ : ∃ i : Nat, a = ((i + 1 : Nat) : Int) := ⟨(a - 1).toNat, by omega⟩
 have e1 : ((i + 1 : Nat) : Int).toNat = i + 1 := by omega
 have e2 : (((i + 1 : Nat) : Int) - 1).toNat = i := by omega
 rw [e1, e2]
 by_cases h : r = ((i + 1 : Nat) : Int)
 ·subst h
  have e3 : vAt ((List.replicate (i + 1) (0 : Int)).set i b) ((i + 1 : Nat) : Int) = b := by
   rw [YAu _ i (by simp), List.getD_eq_getElem?_getD, List.getElem?_set_self (by simp), Option.getD_some]
   omega
  rw [if_pos rfl, e3]
  omega
 ·rw [if_neg h]
  have : vAt ((List.replicate (i + 1) (0 : Int)).set i b) r = 0 := by
   by_cases ho : r < 1 ∨ (((i + 1 : Nat) : Int) < r)
   ·exact J4U _ _ (by simpa using ho)
   ·obtain ⟨k, rfl⟩ : ∃ k : Nat, r = ((k + 1 : Nat) : Int) := ⟨(r - 1).toNat, by omega⟩
    rw [YAu _ k (by simp; omega)]
    simp only [List.getD_eq_getElem?_getD]
    rw [List.getElem?_set_ne (by omega), List.getElem?_replicate]
    split <;> simp
  rw [this]
  have := KJL xs r
  omega
abbrev AbS := List Int × Dots
def absD (s : AbS) (d : Int × Int) : AbS :=
 if d.2 ≤ vAt s.1 d.1 then s else if d.2 = vAt s.1 d.1 + 1 then (YpI s.1 d, s.2) else if s.2.length = 0 ∨ s.2.getD (s.2.length - 1) dotR.d ≠ d then (s.1, s.2 ++ [d]) else s
def absR (s : AbS) (l : Dots) : AbS := l.foldl absD s
theorem Q8q (s : AbS) {l : Dots} {i : Nat} (hi : i < l.length) : absR s (l.take (i + 1)) = absD (absR s (l.take i)) (l.getD i dotR.d) := by
 unfold absR
 rw [List.take_succ_eq_append_getElem hi, List.foldl_append, List.getD_eq_getElem?_getD, List.getElem?_eq_getElem hi]
 rfl
theorem QJC (s : AbS) (d : Int × Int) : (absD s d).1.length ≤ max s.1.length 16 ∧ (absD s d).2.length ≤ s.2.length + 1 := by
 unfold absD
 split
 ·omega
 ·split
  ·exact ⟨XKw s.1 d, by simp⟩
  ·split
   ·exact ⟨by simp only; omega, by simp⟩
   ·omega
theorem Xua (s : AbS) {d : Int × Int} (hd : KG5 d) (r : Int) : vAt s.1 r ≤ vAt (absD s d).1 r := by
 unfold absD
 split
 ·omega
 ·split
  ·rename_i h1 h2
   rw [YXx s.1 hd (by omega)]
   split
   ·rename_i h3; subst h3; omega
   ·omega
  ·split <;> simp
theorem eqc2 (w d : Int × Int) : XWq [.i, .i] [.i .i64 w.1, .i .i64 w.2] [.i .i64 d.1, .i .i64 d.2] = some (decide (w = d)) := by
 obtain ⟨a, b⟩ := w
 obtain ⟨c, d⟩ := d
 simp only [XWq, ZtW, Option.bind_some, Option.map_some, Prod.mk.injEq, if_true, Bool.and_true, Bool.decide_and]
 by_cases h1 : a = c <;> by_cases h2 : b = d <;> simp [h1, h2]
theorem JTD {α : Type} {r : Row α} (sz id n j : Nat) (l : List α) : idOf (elP sz (rsl r id l) n j) = [id] := by unfold rsl; split <;> rfl
end Go.Proofs.YtfaccliekejngaaGreat
end
section
namespace Go.Proofs.YtfaccliekejngaaGreat
set_option maxRecDepth 100000
def ZwT (a b : Int × Int) : Prop := a.1 < b.1 ∨ a.1 = b.1 ∧ a.2 < b.2
instance (a b : Int × Int) : Decidable (ZwT a b) := by unfold ZwT; infer_instance
end Go.Proofs.YtfaccliekejngaaGreat
end
section
namespace Go.Proofs.YtfaccliekejngaaGreat
set_option maxRecDepth 100000
set_option maxHeartbeats 4000000
def bsI (l : Dots) (d : Int × Int) (lo hi : Nat) : Nat :=
 if lo < hi then (if cmpD (l.getD ((lo + hi) / 2) dotR.d) d < 0 then bsI l d ((lo + hi) / 2 + 1) hi else bsI l d lo ((lo + hi) / 2)) else lo
termination_by hi - lo
decreasing_by all_goals omega
noncomputable def T_bs : List AV → List AB → Option (AV × List AB)
 | [s, .ag [.i .i64 a, .i .i64 b], .f (.func 119) [] []], h => (getS dotR h s).bind fun l =>
   if l.length ≤ 1000000 then some (.tu [.i .i64 (bsI l (a, b) 0 l.length), .b (decide (bsI l (a, b) 0 l.length < l.length ∧ cmpD (l.getD (bsI l (a, b) 0 l.length) dotR.d) (a, b) = 0))], h) else none
 | _, _ => none
theorem KGx : Spec Tryz.prog 134 T_bs := by
 intro args h v h' e
 unfold T_bs at e
 split at e
 ·rename_i s a b
  obtain ⟨l, hs, e⟩ := YI8 e
  split at e
  ·rename_i hl
   cases e
   refine FnAt.c (FnAt.frz0 fun hz => ?_)
   replace hs := hs.frz
   generalize h.map AB.freeze = h at *
   refine FnAt.run (by kernel_rfl) (T := ⟨[⟨119, XpL, fun _ => []⟩], []⟩) ⟨⟨qNy, trivial⟩, trivial⟩ Tryz.func134 XBT fun ho hh => ?_
   simp only [qMC, Bool.and_eq_true] at ho
   have f1 := hs.fx ho.1 (sz := 2) rfl
   unfold w134
   simp only [XH8, QN9, X1r, zVq, simprocAttr, f1]
   refine YMr (S := Nat × Nat) (fun x => x.2 - x.1) (fun x => [s] ++ tp 1 ++ [.f (.func 119) [] []] ++ tp 1 ++ [.p (h.length + 0) 0] ++ tp 3 ++ [.i .i64 l.length, .i .i64 x.1, .i .i64 x.2] ++ tp 38) (fun x => x.1 ≤ x.2 ∧ x.2 ≤ l.length ∧ bsI l (a, b) x.1 x.2 = bsI l (a, b) 0 l.length) (0, l.length) ⟨Nat.zero_le _, Nat.le_refl _, rfl⟩ (by simp only [X1r, zVq, simprocAttr]) fun x hx => ?_
   obtain ⟨lo, hi⟩ := x
   obtain ⟨x1, x2, x3⟩ := hx
   dsimp only at x1 x2 x3
   by_cases g : lo < hi
   ·have hm : (lo + hi) / 2 < l.length := by omega
    have e1 : IntKind.i64.wrap ((lo : Int) + (hi : Int)) = ((lo + hi : Nat) : Int) := ZL4 (by unfold In64; omega)
    have e2 : IntKind.u64.wrap ((lo + hi : Nat) : Int) = ((lo + hi : Nat) : Int) := by
     have : ((lo + hi : Nat) : Int) % 18446744073709551616 = ((lo + hi : Nat) : Int) := Int.emod_eq_of_lt (by omega) (by omega)
     exact this
    have e3 : ∀ k', binV .shr (.i .u64 ((lo + hi : Nat) : Int)) (.i k' 1) = some (.i .u64 (((lo + hi) / 2 : Nat) : Int)) := fun k' => by
     show (if (1 : Int) < 0 then none else some (AV.i .u64 (Int.fdiv ((lo + hi : Nat) : Int) (2 ^ (min (1 : Int).toNat IntKind.u64.bits))))) = _
     rw [if_neg (by decide), show ((2 : Int) ^ (min (1 : Int).toNat IntKind.u64.bits)) = 2 from by decide, Int.fdiv_eq_ediv_of_nonneg _ (by decide)]
     rfl
    have e4 : IntKind.i64.wrap (((lo + hi) / 2 : Nat) : Int) = (((lo + hi) / 2 : Nat) : Int) := ZL4 (by unfold In64; omega)
    have e5 : IntKind.i64.wrap ((((lo + hi) / 2 : Nat) : Int) + 1) = (((lo + hi) / 2 + 1 : Nat) : Int) := ZL4 (by unfold In64; omega)
    have e6 : ∀ k x, (AV.i k x).int? = some x := fun _ _ => rfl
    simp only [X1r, Z1D, zVq, simprocAttr, CO.tmps, Opd.tmps, optT, Nat.reducePow, Nat.reduceDiv, Nat.reduceMod, f1, g, hm, e1, e2, e3, e4, e5, e6, KdD, XpL, ZIt, QZp hz, QNE hh]
    have x4 : ∀ (_ : True), bsI l (a, b) lo hi = if cmpD (l.getD ((lo + hi) / 2) dotR.d) (a, b) < 0 then bsI l (a, b) ((lo + hi) / 2 + 1) hi else bsI l (a, b) lo ((lo + hi) / 2) := fun _ => by rw [bsI, if_pos g]
    refine ⟨fun q => ⟨((lo + hi) / 2 + 1, hi), ⟨by dsimp only; omega, x2, ?_⟩, by dsimp only; omega, Wk.refl _, Wk.refl _⟩, fun q => ⟨(lo, (lo + hi) / 2), ⟨by dsimp only; omega, by dsimp only; omega, ?_⟩, by dsimp only; omega, Wk.refl _, Wk.refl _⟩⟩
    ·rw [← x3, x4 trivial, if_pos q]
    ·rw [← x3, x4 trivial, if_neg q]
   ·obtain rfl : lo = hi := by omega
    have x4 : bsI l (a, b) 0 l.length = lo := by rw [← x3, bsI, if_neg (Nat.lt_irrefl _)]
    by_cases g2 : lo < l.length
    ·simp only [X1r, Z1D, zVq, simprocAttr, CO.tmps, Opd.tmps, optT, Nat.reducePow, Nat.reduceDiv, Nat.reduceMod, f1, g, g2, x4, KdD, XpL, ZIt, QZp hz, QNE hh]
     exact Bt.drop _ hh rfl rfl
    ·simp only [X1r, Z1D, zVq, simprocAttr, CO.tmps, Opd.tmps, optT, Nat.reducePow, Nat.reduceDiv, Nat.reduceMod, f1, g, g2, x4, KdD, XpL, ZIt, QZp hz, QNE hh]
     exact Bt.drop _ hh (by rw [decide_eq_false fun q => q.1]) rfl
  ·cases e
 ·cases e
def zZh (v : List Int) (ds : Dots) (d : Int × Int) : Prop := (bsI ds d 0 ds.length < ds.length ∧ cmpD (ds.getD (bsI ds d 0 ds.length) dotR.d) d = 0) ∨ Zom v d
instance (v : List Int) (ds : Dots) (d : Int × Int) : Decidable (zZh v ds d) := by unfold zZh; infer_instance
noncomputable def Qig : List AV → List AB → Option (AV × List AB)
 | [.ag [s, t], .ag [.i .i64 a, .i .i64 b]], h => (getS intR h s).bind fun v => (getS dotR h t).bind fun ds => if ds.length ≤ 1000000 then some (.b (decide (zZh v ds (a, b))), h) else none
 | _, _ => none
theorem zIV : Spec Tryz.prog 97 Qig := by
 intro args h v h' e
 unfold Qig at e
 split at e
 ·rename_i s t a b
  obtain ⟨vs, hs, e⟩ := YI8 e
  obtain ⟨ds, ht, e⟩ := YI8 e
  split at e
  ·rename_i hl
   cases e
   refine FnAt.c (FnAt.run (by kernel_rfl) (T := ⟨[⟨134, T_bs, fun _ => []⟩, ⟨135, zX9, fun _ => []⟩], []⟩) ⟨⟨KGx, qJX, trivial⟩, trivial⟩ Tryz.func97 sw97 fun ho hh => ?_)
   simp only [qMC, JAX, Bool.and_eq_true] at ho
   have f1 := hs.fx ho.1.1 (sz := 1) rfl
   have f2 := ht.fx ho.1.2.1 (sz := 2) rfl
   unfold w97
   simp only [XH8, QN9, X1r, zVq, simprocAttr, f1, f2, T_bs, zX9, hl]
   refine ⟨fun q => Bt.dropB _ hh (decide_eq_true (.inl q)).symm, fun q => Bt.dropB _ hh ?_⟩
   exact decide_eq_decide.2 ⟨fun z => .inr z, fun z => z.resolve_left q⟩
  ·cases e
 ·cases e
end Go.Proofs.YtfaccliekejngaaGreat
end
section
namespace Go.Proofs.YtfaccliekejngaaGreat
set_option maxRecDepth 100000
set_option maxHeartbeats 4000000
theorem qLa (xs : List Int) (r : Int) : 0 ≤ vAt xs r := by unfold vAt; split <;> (try split) <;> omega
end Go.Proofs.YtfaccliekejngaaGreat
end
section
namespace Go.Proofs.YtfaccliekejngaaGreat
set_option maxRecDepth 100000
set_option maxHeartbeats 4000000
noncomputable def zZH (chk : List Int → Dots → Int) : List AV → List AB → Option (AV × List AB)
 | [.ag [s, t]], h => (getS intR h s).bind fun v => (getS dotR h t).bind fun ds => some (.i .i64 (chk v ds), h)
 | _, _ => none
noncomputable def JMF (chk : List Int → Dots → Int) : List AV → List AB → Option (AV × List AB)
 | [.ag [s, t], .ag [s', t']], h => (getS intR h s).bind fun v => (getS dotR h t).bind fun ds => (getS intR h s').bind fun v' => (getS dotR h t').bind fun ds' => some (.i .i64 (if chk v ds = 0 then chk v' ds' else chk v ds), h)
 | _, _ => none
theorem YaB (chk : List Int → Dots → Int) (hC : Spec Tryz.prog 47 (zZH chk)) : Spec Tryz.prog 95 (JMF chk) := by
 intro args h v h' e
 unfold JMF at e
 split at e
 ·rename_i s t s' t'
  obtain ⟨vs, hs, e⟩ := YI8 e
  obtain ⟨ds, ht, e⟩ := YI8 e
  obtain ⟨vs', hs', e⟩ := YI8 e
  obtain ⟨ds', ht', e⟩ := YI8 e
  cases e
  refine FnAt.c (FnAt.run (by kernel_rfl) (T := ⟨[⟨47, zZH chk, fun _ => []⟩], []⟩) ⟨⟨hC, trivial⟩, trivial⟩ Tryz.func95 sw95 fun ho hh => ?_)
  simp only [qMC, JAX, Bool.and_eq_true] at ho
  have f1 := hs.fx ho.1.1 (sz := 1) rfl
  have f2 := ht.fx ho.1.2.1 (sz := 2) rfl
  have f3 := hs'.fx ho.2.1.1 (sz := 1) rfl
  have f4 := ht'.fx ho.2.1.2.1 (sz := 2) rfl
  unfold w95
  simp only [XH8, QN9, X1r, zVq, simprocAttr, f1, f2, f3, f4, zZH]
  exact ⟨fun q => Bt.dropI _ hh (by rw [if_neg q]), fun q => Bt.dropI _ hh (by rw [if_pos (Decidable.not_not.1 q)])⟩
 ·cases e
noncomputable def q1S (chk : List Int → Dots → Int) : List AV → List AB → Option (AV × List AB)
 | [.ag [s, t], .ag [.i .i64 a, .i .i64 b]], h => (getS intR h s).bind fun v => (getS dotR h t).bind fun ds => some (.b (decide (chk v ds = 0 ∧ zZh v ds (a, b))), h)
 | _, _ => none
theorem XwF (chk : List Int → Dots → Int) (h0 : ∀ v ds, chk v ds = 0 → J6E v ds ∧ ds.length ≤ 4096) (hC : Spec Tryz.prog 47 (zZH chk)) : Spec Tryz.prog 70 (q1S chk) := by
 intro args h v h' e
 unfold q1S at e
 split at e
 ·rename_i s t a b
  obtain ⟨vs, hs, e⟩ := YI8 e
  obtain ⟨ds, ht, e⟩ := YI8 e
  cases e
  refine FnAt.c (FnAt.run (by kernel_rfl) (T := ⟨[⟨47, zZH chk, fun _ => []⟩, ⟨97, Qig, fun _ => []⟩], []⟩) ⟨⟨hC, zIV, trivial⟩, trivial⟩ Tryz.func70 sw70 fun ho hh => ?_)
  simp only [qMC, JAX, Bool.and_eq_true] at ho
  have f1 := hs.fx ho.1.1 (sz := 1) rfl
  have f2 := ht.fx ho.1.2.1 (sz := 2) rfl
  unfold w70
  by_cases q : chk vs ds = 0
  ·have hl : (ds.length ≤ 1000000) = True := eq_true (by have := (h0 vs ds q).2; omega)
   have q' := eq_true q
   simp only [XH8, QN9, X1r, zVq, simprocAttr, f1, f2, zZH, Qig, hl, q']
   exact ⟨Bt.dropB _ hh rfl, fun q => q.elim⟩
  ·have q' := eq_false q
   simp only [XH8, QN9, X1r, zVq, simprocAttr, f1, f2, zZH, Qig, q']
   exact ⟨fun q => q.elim, Bt.dropB _ hh (decide_eq_false fun q => q.1).symm⟩
 ·cases e
def maxC (v : List Int) (ds : Dots) (r : Int) : Nat → Int
 | 0 => vAt v r
 | i + 1 => if (ds.getD i dotR.d).1 = r then max (maxC v ds r i) (ds.getD i dotR.d).2 else maxC v ds r i
def J6W (chk : List Int → Dots → Int) (v : List Int) (ds : Dots) (r : Int) : (Int × Int) × Int :=
 if chk v ds ≠ 0 then ((0, 0), chk v ds) else if r < 1 ∨ 16 < r then ((0, 0), 3)
 else if 1048576 ≤ maxC v ds r ds.length then ((0, 0), 10) else ((r, maxC v ds r ds.length + 1), 0)
theorem zh0 (v : List Int) (ds : Dots) (r : Int) : ∀ i, 0 ≤ maxC v ds r i
 | 0 => qLa v r
 | i + 1 => by
  have h1 := zh0 v ds r i
  unfold maxC
  split <;> omega
noncomputable def Y6B (chk : List Int → Dots → Int) : List AV → List AB → Option (AV × List AB)
 | [.ag [s, t], .i .i64 r], h => (getS intR h s).bind fun v => (getS dotR h t).bind fun ds => some (.tu [.ag [.i .i64 (J6W chk v ds r).1.1, .i .i64 (J6W chk v ds r).1.2], .i .i64 (J6W chk v ds r).2], h)
 | _, _ => none
theorem zKX (chk : List Int → Dots → Int) (hC : Spec Tryz.prog 47 (zZH chk)) : Spec Tryz.prog 50 (Y6B chk) := by
 intro args h v h' e
 unfold Y6B at e
 split at e
 ·rename_i s t r
  obtain ⟨vs, hs, e⟩ := YI8 e
  obtain ⟨ds, ht, e⟩ := YI8 e
  cases e
  refine FnAt.c (FnAt.run (by kernel_rfl) (T := ⟨[⟨47, zZH chk, fun _ => []⟩, ⟨96, T_At, fun _ => []⟩], []⟩) ⟨⟨hC, QYv, trivial⟩, trivial⟩ Tryz.func50 sw50 fun ho hh => ?_)
  simp only [qMC, JAX, Bool.and_eq_true] at ho
  have f1 := hs.fx ho.1.1 (sz := 1) rfl
  have f2 := ht.fx ho.1.2.1 (sz := 2) rfl
  have m2 := ht.2
  unfold maxLen at m2
  unfold w50
  simp only [XH8, QN9, X1r, zVq, simprocAttr, f1, f2, zZH, T_At]
  have vv : ∀ x : (Int × Int) × Int, J6W chk vs ds r = x → AV.tu [.ag [.i .i64 x.1.1, .i .i64 x.1.2], .i .i64 x.2] = .tu [.ag [.i .i64 (J6W chk vs ds r).1.1, .i .i64 (J6W chk vs ds r).1.2], .i .i64 (J6W chk vs ds r).2] := fun x hx => by rw [hx]
  refine ⟨fun q => Bt.drop _ hh (vv ((0, 0), chk vs ds) ?_) rfl, fun q => ⟨fun q1 => Bt.drop _ hh (vv ((0, 0), 3) ?_) rfl, fun q1 => ⟨fun q2 => Bt.drop _ hh (vv ((0, 0), 3) ?_) rfl, fun q2 => ?_⟩⟩⟩
  ·unfold J6W
   rw [if_pos q]
  ·unfold J6W
   rw [if_neg q, if_pos (.inl q1)]
  ·unfold J6W
   rw [if_neg q, if_pos (.inr q2)]
  have q3 : ¬ (r < 1 ∨ 16 < r) := fun z => z.elim q1 q2
  have fo3 : ∀ c, t.ok (fun i => decide (i < h.length + c)) = true := fun c => AV.ok_mono (fun i q => by simp only [decide_eq_true_eq] at q ⊢; omega) _ ho.1.2.1
  have fr2 : ∀ sel, Wk (t.ren (selN h.length sel)) t := fun sel => Wk.ren (fun i hi => Xdk hi) ho.1.2.1
  have fo1 : ∀ c, s.ok (fun i => decide (i < h.length + c)) = true := fun c => AV.ok_mono (fun i q => by simp only [decide_eq_true_eq] at q ⊢; omega) _ ho.1.1
  have fr1 : ∀ sel, Wk (s.ren (selN h.length sel)) s := fun sel => Wk.ren (fun i hi => Xdk hi) ho.1.1
  refine YHj (S := Nat) (fun i => ds.length - i) (fun i => tp 1 ++ [.i .i64 r] ++ tp 2 ++ [.p (h.length + 1) 0] ++ tp 2 ++ [.i .i64 (maxC vs ds r i)] ++ tp 20 ++ [t, .i .i64 ds.length, .i .i64 i] ++ tp 19) (fun _ => h ++ [.blk false true [s, t], .blk true true [.i .i64 0, .i .i64 0]]) (fun i => i ≤ ds.length) 0 (Nat.zero_le _) ?_ fun i hi => ?_
  ·exact Bt.wk (by simp only [X1r, zVq, simprocAttr, maxC])
  have bd := zh0 vs ds r i
  simp only [X1r, zVq, simprocAttr, f1, f2]
  refine ⟨fun g1 => ?_, fun g1 => ?_⟩
  ·have e1 : IntKind.i64.wrap ((i : Int) + 1) = ((i + 1 : Nat) : Int) := ZL4 (by unfold In64; omega)
   simp only [X1r, zVq, simprocAttr, f1, f2, g1, KdD, e1]
   refine ⟨fun g2 => ⟨i + 1, g1, by dsimp only; omega, ?_⟩, fun g2 => ⟨i + 1, g1, by dsimp only; omega, ?_⟩⟩
   ·simp only [maxC, if_pos g2]
    exact Bt.sel [0, 1] hh (by decide) (by simp only [q9C, FrSel, BlkSel, AV.ren, renL, AV.ok, okL, Option.some.injEq, exists_eq_left', List.length_cons, List.length_nil, Nat.reduceAdd, Nat.reduceLT, reduceCtorEq, implies_true, exists_eq', fo1, fo3, fr1, fr2]) (by simp only [q9C, FrSel, BlkSel, AV.ren, renL, AV.ok, okL, Option.some.injEq, exists_eq_left', List.length_cons, List.length_nil, Nat.reduceAdd, Nat.reduceLT, reduceCtorEq, implies_true, exists_eq', fo1, fo3, fr1, fr2])
   ·simp only [maxC, if_neg g2]
    exact Bt.sel [0, 1] hh (by decide) (by simp only [q9C, FrSel, BlkSel, AV.ren, renL, AV.ok, okL, Option.some.injEq, exists_eq_left', List.length_cons, List.length_nil, Nat.reduceAdd, Nat.reduceLT, reduceCtorEq, implies_true, exists_eq', fo1, fo3, fr1, fr2]) (by simp only [q9C, FrSel, BlkSel, AV.ren, renL, AV.ok, okL, Option.some.injEq, exists_eq_left', List.length_cons, List.length_nil, Nat.reduceAdd, Nat.reduceLT, reduceCtorEq, implies_true, exists_eq', fo1, fo3, fr1, fr2])
  ·obtain rfl : i = ds.length := by omega
   by_cases g2 : 1048576 ≤ maxC vs ds r ds.length
   ·have g2' := eq_true g2
    simp only [g2']
    refine ⟨fun _ => Bt.drop _ hh (vv ((0, 0), 10) ?_) rfl, fun q => absurd trivial q⟩
    unfold J6W
    rw [if_neg q, if_neg q3, if_pos g2]
   ·have e1 : IntKind.i64.wrap (maxC vs ds r ds.length + 1) = maxC vs ds r ds.length + 1 := ZL4 (by unfold In64; omega)
    simp only [e1]
    refine ⟨fun z => absurd z g2, fun _ => Bt.drop _ hh (vv ((r, maxC vs ds r ds.length + 1), 0) ?_) rfl⟩
    unfold J6W
    rw [if_neg q, if_neg q3, if_neg g2]
 ·cases e
end Go.Proofs.YtfaccliekejngaaGreat
end
section
namespace Go.Proofs.YtfaccliekejngaaGreat
variable {α : Type} {r : Row α} {h : List AB} {s : AV} {l : List α}
def AV.capOk : AV → Bool
 | .sl _ _ n c _ => decide (n ≤ c)
 | _ => true
theorem KGT (id : Nat) (l : List α) : (rsl r id l).capOk = true := by
 unfold rsl
 split <;> simp [AV.capOk]
theorem Rd.slc {id off len cap : Nat} {k : Option Nat} (e : Rd r h (.sl id off len cap k) l) (h0 : l.length ≠ 0) : len = l.length ∧ ∃ xs, XAh h id = some xs ∧ off + l.length * r.sz ≤ xs.length ∧ (xs.drop off).take (l.length * r.sz) = r.cells l := by
 have e1 := e.1
 have e2 := e.len
 simp only [lenV, Option.some.injEq] at e2
 obtain rfl : len = l.length := by omega
 simp only [rdS, if_neg h0] at e1
 obtain ⟨xs, h1, e1⟩ := Option.bind_eq_some_iff.1 e1
 split at e1
 ·rename_i h2
  simp only [Option.some.injEq, Prod.mk.injEq, true_and] at e1
  exact ⟨rfl, xs, h1, h2, e1⟩
 ·cases e1
theorem Rd.mk_sl {id off n cap : Nat} {k : Option Nat} {xs : List AV} (h1 : XAh h id = some xs) (hn : n = l.length) (h2 : off + l.length * r.sz ≤ xs.length) (h3 : (xs.drop off).take (l.length * r.sz) = r.cells l) (hm : l.length ≤ maxLen) : Rd r h (.sl id off n cap k) l := by
 subst hn
 refine ⟨?_, hm⟩
 by_cases h0 : l.length = 0
 ·have : l = [] := List.eq_nil_of_length_eq_zero h0
  subst this
  simp only [rdS, List.length_nil, if_true]
  rfl
 ·simp only [rdS, if_neg h0, h1, Option.bind_some, if_pos h2, h3]
theorem Rd.mk0 {id off cap : Nat} {k : Option Nat} (h0 : l.length = 0) : Rd r h (.sl id off 0 cap k) l := by
 have : l = [] := List.eq_nil_of_length_eq_zero h0
 subst this
 exact ⟨by simp only [rdS, if_true]; rfl, Nat.zero_le _⟩
theorem Rd.takeS (e : Rd r h s l) (hc : s.capOk = true) {i : Nat} (hi : i ≤ l.length) {sz : Nat} (hz : r.sz = sz) : ∃ s', slL sz s none (some (.i .i64 i)) none = some s' ∧ Rd r h s' (l.take i) ∧ ∀ q, s.ok q = true → s'.ok q = true := by
 subst hz
 have hs := e.isSl
 have hl := e.len
 cases s <;> first | (cases hs; done) | skip
 ·rename_i id off len cap k
  simp only [lenV, Option.some.injEq] at hl
  simp only [AV.capOk, decide_eq_true_eq] at hc
  have hb : bnd len cap (some (.i .i64 (i : Int))) = some i := by
   simp only [bnd]
   rw [if_pos (by omega)]
   rfl
  refine ⟨.sl id off i cap k, ?_, ?_, fun q ho => ?_⟩
  ·simp only [slL, hb, Option.bind_some]
   simp only [bnd, Option.map_some, if_true]
  ·by_cases h0 : i = 0
   ·subst h0
    exact Rd.mk0 (by simp)
   ·obtain ⟨-, xs, h1, h2, h3⟩ := e.slc (by omega)
    have hti : (l.take i).length = i := by rw [List.length_take]; omega
    have hmul : i * r.sz ≤ l.length * r.sz := Nat.mul_le_mul_right _ hi
    refine Rd.mk_sl h1 hti.symm (by rw [hti]; omega) ?_ (by have := e.2; omega)
    rw [hti, ← r.cells_take, ← h3, List.take_take, Nat.min_eq_left hmul]
  ·simp only [AV.ok, Bool.or_eq_true, Bool.and_eq_true] at ho ⊢
   refine ho.imp (fun g => ⟨⟨?_, g.1.2⟩, g.2⟩) fun z => z
   have := Nat.eq_of_beq_eq_true g.1.1
   have h0 : i = 0 := by omega
   subst h0
   rfl
 ·simp only [lenV, Option.some.injEq] at hl
  have h0 : i = 0 := by omega
  subst h0
  exact ⟨.se, rfl, ⟨rfl, Nat.zero_le _⟩, fun _ h => h⟩
 ·simp only [lenV, Option.some.injEq] at hl
  have h0 : i = 0 := by omega
  subst h0
  exact ⟨.ns, rfl, ⟨rfl, Nat.zero_le _⟩, fun _ h => h⟩
theorem Rd.dropS (e : Rd r h s l) (hc : s.capOk = true) {i : Nat} (hi : i ≤ l.length) {sz : Nat} (hz : r.sz = sz) : ∃ s', slL sz s (some (.i .i64 i)) none none = some s' ∧ Rd r h s' (l.drop i) ∧ ∀ q, s.ok q = true → s'.ok q = true := by
 subst hz
 have hs := e.isSl
 have hl := e.len
 cases s <;> first | (cases hs; done) | skip
 ·rename_i id off len cap k
  simp only [lenV, Option.some.injEq] at hl
  simp only [AV.capOk, decide_eq_true_eq] at hc
  have hb : bnd 0 len (some (.i .i64 (i : Int))) = some i := by
   simp only [bnd]
   rw [if_pos (by omega)]
   rfl
  have hm := e.2
  by_cases h0 : i = 0
  ·subst h0
   refine ⟨.sl id off len cap k, ?_, by rw [List.drop_zero]; exact e, fun _ h => h⟩
   simp only [slL]
   rw [show bnd len cap none = some len from rfl, Option.bind_some, hb]
   simp only [Option.map_some, if_true]
  ·by_cases h1 : i < cap
   ·refine ⟨.sl id (off + i * r.sz) (len - i) (cap - i) (kcut k r.sz), ?_, ?_, fun q ho => ?_⟩
    ·simp only [slL]
     rw [show bnd len cap none = some len from rfl, Option.bind_some, hb]
     simp only [Option.map_some, if_neg h0, if_pos h1]
    ·by_cases h2 : i = l.length
     ·rw [show len - i = 0 from by omega]
      exact Rd.mk0 (by simp; omega)
     ·obtain ⟨-, xs, g1, g2, g3⟩ := e.slc (by omega)
      have hti : (l.drop i).length = l.length - i := by rw [List.length_drop]
      have hmul : (l.length - i) * r.sz + i * r.sz = l.length * r.sz := by rw [← Nat.add_mul]; congr 1; omega
      refine Rd.mk_sl g1 (by omega) (by rw [hti]; omega) ?_ (by omega)
      rw [hti, ← r.cells_drop, ← g3, List.drop_take, List.drop_drop]
      congr 1
      omega
    ·simp only [AV.ok, Bool.or_eq_true, Bool.and_eq_true] at ho ⊢
     refine .inr (ho.elim (fun g => ?_) fun z => z)
     have := Nat.eq_of_beq_eq_true g.1.2
     omega
   ·have hi2 : i = l.length := by omega
    by_cases hk : k = none
    ·refine ⟨.sl id off 0 0 none, ?_, Rd.mk0 (by simp; omega), fun q ho => ?_⟩
     ·simp only [slL]
      rw [show bnd len cap none = some len from rfl, Option.bind_some, hb]
      simp only [Option.map_some, if_neg h0, if_neg h1, if_pos hk]
     ·subst hk
      simp only [AV.ok, Bool.or_eq_true, Bool.and_eq_true] at ho ⊢
      exact .inr (ho.elim (fun g => absurd g.2 (by simp)) fun z => z)
    ·refine ⟨.se, ?_, ?_, fun q ho => rfl⟩
     ·simp only [slL]
      rw [show bnd len cap none = some len from rfl, Option.bind_some, hb]
      simp only [Option.map_some, if_neg h0, if_neg h1, if_neg hk]
     ·rw [List.drop_eq_nil_of_le (by omega)]
      exact ⟨rfl, Nat.zero_le _⟩
 ·simp only [lenV, Option.some.injEq] at hl
  have h0 : i = 0 := by omega
  subst h0
  exact ⟨.se, rfl, by rw [List.drop_zero]; exact e, fun _ h => h⟩
 ·simp only [lenV, Option.some.injEq] at hl
  have h0 : i = 0 := by omega
  subst h0
  exact ⟨.ns, rfl, by rw [List.drop_zero]; exact e, fun _ h => h⟩
end Go.Proofs.YtfaccliekejngaaGreat
end
section
namespace Go.Proofs.YtfaccliekejngaaGreat
open Go.RowKit
section
variable {P : Program} {α : Type} {r : Row α}
theorem Bt.less {p : Nat} {fr : List AV} {h : List AB} {i : Nat} {B B' : AB} (hi : h[i]? = some B) (hbr : ∀ ρ w b o n, BR (KC P) ρ w b o n B → BR (KC P) ρ w b o n B') (hm : B'.mut = true → B.mut = true) (hl : B'.live = true → B.live = true) : Bt P p fr h fr (h.set i B') := by
 intro ρ w cs hp rr v
 have hlt := (List.getElem?_eq_some_iff.1 hi).1
 have cls : ∀ (j : Nat) C, (h.set i B')[j]? = some C → ∃ C0, h[j]? = some C0 ∧ (C.mut = true → C0.mut = true) ∧ (C.live = true → C0.live = true) ∧ ∀ ρ w b o n, BR (KC P) ρ w b o n C0 → BR (KC P) ρ w b o n C := fun j C hC => by
  rw [List.getElem?_set] at hC
  split at hC
  ·rename_i hij
   subst hij
   cases hC
   exact ⟨B, hi, hm, hl, hbr⟩
  ·exact ⟨C, hC, fun z => z, fun z => z, fun _ _ _ _ _ z => z⟩
 refine ⟨by rw [List.length_set]; exact hp, ρ, v, ⟨by rw [List.length_set]; exact rr.len, fun j C b o n h1 h2 => ?_, fun j k bj oj bk ok Bj Bk hne h1 h2 h3 h4 g1 g2 => ?_⟩, fun b ⟨j, C, o, h1, h2, h3⟩ => ?_, fun j b ⟨C, o, h1, h2, h3⟩ => ?_, fun _ _ => rfl⟩
 ·obtain ⟨C0, q1, _, _, q4⟩ := cls j C h1
  exact q4 _ _ _ _ _ (rr.blk j C0 b o n q1 h2)
 ·obtain ⟨C0, q1, q2, _, _⟩ := cls j Bj h1
  obtain ⟨C1, z1, _, z3, _⟩ := cls k Bk h2
  exact rr.sep j k bj oj bk ok C0 C1 hne q1 z1 h3 h4 (q2 g1) (z3 g2)
 ·obtain ⟨C0, q1, q2, _, _⟩ := cls j C h1
  exact ⟨j, C0, o, q1, q2 h2, h3⟩
 ·obtain ⟨C0, q1, _, q3, _⟩ := cls j C h1
  exact ⟨j, ⟨C0, o, q1, q3 h2, h3⟩, fun _ => rfl, fun z => z⟩
theorem Bt.take {p : Nat} {fr : List AV} {h : List AB} {i n : Nat} {m : Bool} {l : List α} (hi : h[i]? = some (resB r m l)) (hn : n ≤ l.length) : Bt P p fr h fr (h.set i (resB r m (l.take n))) := by
 have hl : (l.take n).length = n := by rw [List.length_take]; omega
 by_cases h0 : n = 0
 ·have e : resB r m (l.take n) = .dead := by unfold resB; rw [if_pos (hl.trans h0)]
  rw [e]
  exact Bt.less hi (fun ρ w b o q _ => trivial) (fun q => by cases q) (fun q => by cases q)
 ·have hl0 : ¬ l.length = 0 := by omega
  have hle : n * r.sz ≤ l.length * r.sz := Nat.mul_le_mul_right _ hn
  have hc : r.cells (l.take n) = (r.cells l).take (n * r.sz) := (r.cells_take l n).symm
  have hcl := r.cells_len l
  refine Bt.less hi (fun ρ w b o q hb => ?_) (fun q => ?_) (fun q => ?_)
  ·simp only [resB, hl, if_neg h0, if_neg hl0, BR] at hb ⊢
   obtain ⟨cs, e, fz, h1, h2, h3, h4⟩ := hb
   refine ⟨cs, e, fz, h1, h2, ?_, fun k a c ha hcs => ?_⟩
   ·rw [hc, List.length_take]; omega
   ·rw [hc, List.getElem?_take] at ha
    split at ha
    ·exact h4 k a c ha hcs
    ·cases ha
  ·simpa only [resB, hl, if_neg h0, if_neg hl0, AB.mut] using q
  ·simp only [resB, if_neg hl0, AB.live]
def cutS (s : AV) (n : Nat) : AV :=
 match s with
 | .sl id off _ cap k => .sl id off n cap k
 | s => s
theorem Znx (id : Nat) {l : List α} {n : Nat} (hn : n ≤ l.length) : Wk (rsl r id (l.take n)) (cutS (rsl r id l) n) := by
 have hl : (l.take n).length = n := by rw [List.length_take]; omega
 by_cases h0 : n = 0
 ·subst h0
  unfold rsl
  rw [if_pos hl]
  split <;> exact Wk.empty _ _ _ _ _ _
 ·unfold rsl
  rw [hl, if_neg h0, if_neg (by omega)]
  intro ρ c hv
  simp only [cutS] at hv
  generalize hk : (some r.sz : Option Nat) = k at hv ⊢
  generalize l.length = m at hv hn
  cases hv with
  | sl _ _ _ _ _ b o nn cap' g1 g2 g3 g4 g5 g6 => exact .sl id 0 n n k b o nn cap' g1 (Nat.le_refl _) (by omega) g4 (fun q => by rw [q] at hk; cases hk) g6
  | sz => exact absurd rfl h0
theorem Zd6 (f : Nat → Nat) (id n : Nat) (l : List α) : (cutS (rsl r id l) n).ren f = cutS (rsl r (f id) l) n := by unfold rsl; split <;> rfl
theorem zdI (q : Nat → Bool) (id n : Nat) {l : List α} (h : q id = true) : (cutS (rsl r id l) n).ok q = true := by unfold rsl; split <;> simp [cutS, AV.ok, h]
theorem nsSl : AV.ns.isSl = true := _root_.id rfl
theorem slSl (a b c d : Nat) (k : Option Nat) : (AV.sl a b c d k).isSl = true := _root_.id rfl
theorem Jf8 {s : AV} (h : s.isSl = true) (n : Nat) : (cutS s n).isSl = true := by cases s <;> first | rfl | cases h
theorem Z45 (id n : Nat) (l : List α) : (cutS (rsl r id l) n).isSl = true := Jf8 (QV1 id l) n
theorem Qrq (id n : Nat) (l : List α) : (cutS (rsl r id l) n).one = true := Qwl (Z45 id n l)
theorem Xev (id n : Nat) (l : List α) : (cutS (rsl r id l) n).cells = [cutS (rsl r id l) n] := YCL (Z45 id n l)
theorem KZm (id n : Nat) (l : List α) : (cutS (rsl r id l) n).known = true := ZVo (Z45 id n l)
theorem FnC.bt {g : Nat} {args : List AV} {h h1 h2 : List AB} {a a' : AV} (e : FnC P g args h a h1) (b : Bt P h.length [a] h1 [a'] h2) : FnC P g args h a' h2 := by
 refine ⟨e.1, fun ρ w vals hr hv => (e.2 ρ w vals hr hv).mono ?_⟩
 rintro x w' ⟨v', ρ', rfl, hva, hrel, heff⟩
 obtain ⟨_, ρ2, v2, r2, o2, a2, f2⟩ := b ρ' w' #[v'] (heff.len hr hrel) hrel ⟨rfl, fun j x c hx hc => by
  match j, hx with
  | 0, hx => cases hx; cases hc; exact hva⟩
 exact ⟨v', ρ2, rfl, v2.2 0 a' v' rfl rfl, r2, heff.trans ⟨rfl, rfl, ⟨rfl, Nat.le_refl _⟩, Nat.le_refl _, fun _ _ _ => rfl, fun b h => .inl (o2 b h), fun i b h => .inl (a2 i b h), f2⟩⟩
end
end Go.Proofs.YtfaccliekejngaaGreat
end
section
namespace Go.Proofs.YtfaccliekejngaaGreat
set_option maxRecDepth 100000
def YU6 (h : List AB) (id : Nat) : Option (AV × AV) :=
 match h[id]? with
 | some (.blk false true [v, d]) => if v.isSl = true ∧ d.isSl = true then some (v, d) else none
 | _ => none
theorem YYh {h : List AB} {id : Nat} {x : AV × AV} (e : YU6 h id = some x) : h[id]? = some (.blk false true [x.1, x.2]) ∧ x.1.isSl = true ∧ x.2.isSl = true := by
 unfold YU6 at e
 split at e
 ·rename_i v d hb
  split at e
  ·rename_i hs
   cases e
   exact ⟨hb, hs⟩
  ·cases e
 ·cases e
theorem qGB {h : List AB} {id : Nat} {v d : AV} (hh : HOk h) (hb : h[id]? = some (.blk false true [v, d])) : v.ok (fun i => decide (i < h.length)) = true ∧ d.ok (fun i => decide (i < h.length)) = true := by
 have := hh id _ hb
 simpa [AB.ok, okL] using this
noncomputable def qzP : List AV → List AB → Option (AV × List AB)
 | [.p id 0, s], h => (YU6 h id).bind fun x => (getS intR h x.1).bind fun xs => (getS intR h s).bind fun ys => if xs.length ≤ 1000000 ∧ ys.length ≤ 1000000 then some (.p id 0, bx2 h id (rsl intR h.length (qIk xs ys)) x.2 ++ [resB intR true (qIk xs ys)]) else none
 | _, _ => none
theorem ZXC : Spec Tryz.prog 101 qzP := by
 intro args h v h' e
 unfold qzP at e
 split at e
 ·rename_i id s
  obtain ⟨⟨v0, d0⟩, hx, e⟩ := Option.bind_eq_some_iff.1 e
  obtain ⟨hb, hv, hd⟩ := YYh hx
  obtain ⟨xs, h1, e⟩ := YI8 e
  obtain ⟨ys, h2, e⟩ := YI8 e
  split at e
  ·rename_i hl
   cases e
   dsimp only at *
   refine FnAt.c (FnAt.run (by kernel_rfl) (T := ⟨[⟨139, YLL, fun _ => []⟩], []⟩) ⟨⟨Qer, trivial⟩, trivial⟩ Tryz.func101 K9I fun ho hh => ?_)
   simp only [qMC, Bool.and_eq_true] at ho
   have hid := (List.getElem?_eq_some_iff.1 hb).1
   have fb := zVe hid
   have f1 := (h1.bx2 hb hv hd ZhR v0 d0).fxB (sz := 1) rfl
   have f2 := (h2.bx2 hb hv hd ZhR v0 d0).fxB (sz := 1) rfl
   rw [show h ++ [] = bx2 h id v0 d0 ++ [] by rw [qvZ hb]]
   unfold w101
   simp only [XH8, QN9, X1r, Y9j, simprocAttr, YLL, fb, f1, f2, hl]
   exact Bt.refl _ _ _
  ·cases e
 ·cases e
def XvB : List AV → List AB → Option (AV × List AB)
 | [.p id 0], h => (YU6 h id).bind fun x => (lenV x.2).bind fun n => if 4096 < n then some (.tu [.ag [.ns, .ns], .i .i64 10], h) else some (.tu [.ag [x.1, x.2], .i .i64 0], h)
 | _, _ => none
theorem Y1e : Spec Tryz.prog 104 XvB := by
 intro args h v h' e
 unfold XvB at e
 split at e
 ·rename_i id
  obtain ⟨⟨v0, d0⟩, hx, e⟩ := Option.bind_eq_some_iff.1 e
  obtain ⟨hb, hv, hd⟩ := YYh hx
  obtain ⟨n, hn, e⟩ := Option.bind_eq_some_iff.1 e
  dsimp only at *
  refine FnAt.c (FnAt.run (by kernel_rfl) (T := ⟨[], []⟩) ⟨trivial, trivial⟩ Tryz.func104 KZg fun ho hh => ?_)
  have hid := (List.getElem?_eq_some_iff.1 hb).1
  have fb := zVe hid
  have e0 : h ++ [] = bx2 h id v0 d0 ++ [] := by rw [qvZ hb]
  rw [e0]
  unfold w104
  simp only [XH8, QN9, X1r, Y9j, simprocAttr, fb, hn, zJM hd, zJM hv]
  rw [qvZ hb]
  have ok := qGB hh hb
  refine ⟨fun h1 => ?_, fun h1 => ⟨by rw [Qwl hv, Qwl hd]; rfl, ?_⟩⟩
  ·rw [if_pos h1] at e
   cases e
   exact Bt.drop _ hh rfl (by simp [AV.ok, okL])
  ·rw [if_neg h1] at e
   cases e
   exact Bt.drop _ hh rfl (by simp [AV.ok, okL, ok.1, ok.2])
 ·cases e
def K29 (xs : List Int) : Nat → List Int
 | 0 => []
 | n + 1 => if xs.getD n intR.d = 0 then K29 xs n else xs.take (n + 1)
theorem J5U {s : AV} {n m : Nat} (h : s.capOk = true) (hl : lenV s = some (n : Int)) (hm : m ≤ n) : (cutS s m).capOk = true := by
 cases s with
 | sl id off len cap k =>
  simp only [lenV, Option.some.injEq, Int.natCast_inj] at hl
  simp only [AV.capOk, cutS, decide_eq_true_eq] at h ⊢
  omega
 | _ => rfl
noncomputable def qMN : List AV → List AB → Option (AV × List AB)
 | [.p id 0], h => (YU6 h id).bind fun x => (getS intR h x.1).bind fun xs => if x.1.capOk = true then some (.p id 0, bx2 h id (cutS x.1 (K29 xs xs.length).length) x.2) else none
 | _, _ => none
theorem ZFQ (s : AV) (n m : Nat) : cutS (cutS s n) m = cutS s m := by cases s <;> rfl
theorem Jq1 {s : AV} (h : s.isSl = true) (n : Nat) : (cutS s n).isSl = true := by cases s <;> first | rfl | cases h
theorem ZEV {s : AV} {n : Nat} (h : lenV s = some (n : Int)) : cutS s n = s := by
 cases s with
 | sl id off len cap k =>
  simp only [lenV, Option.some.injEq, Int.natCast_inj] at h
  subst h
  rfl
 | _ => rfl
theorem Rd.cut {α : Type} {r : Row α} {h : List AB} {s : AV} {l : List α} (e : Rd r h s l) (n : Nat) (hn : n ≤ l.length) : Rd r h (cutS s n) (l.take n) := by
  refine ⟨?_, by have := e.2; rw [List.length_take]; omega⟩
  have h1 := e.1
  have hl := K5k h1
  cases s with
  | sl id off len cap k =>
    simp only [lenV, Option.some.injEq, Int.natCast_inj] at hl
    subst hl
    simp only [cutS, rdS] at h1 ⊢
    by_cases h0 : n = 0
    · subst h0
      rfl
    · rw [if_neg h0]
      rw [if_neg (by omega)] at h1
      obtain ⟨xs, h2, h3⟩ := Option.bind_eq_some_iff.1 h1
      rw [h2]
      split at h3
      · rename_i h4
        simp only [Option.some.injEq, Prod.mk.injEq, true_and] at h3
        have hle := Nat.mul_le_mul_right r.sz hn
        simp only [Option.bind_some]
        rw [if_pos (by omega), List.length_take, Nat.min_eq_left hn, ← r.cells_take, ← h3, List.take_take, Nat.min_eq_left hle]
      · cases h3
  | ns => simp only [lenV, Option.some.injEq] at hl; have h0 : n = 0 := by omega
          subst h0; rfl
  | se => simp only [lenV, Option.some.injEq] at hl; have h0 : n = 0 := by omega
          subst h0; rfl
  | _ => cases h1
theorem Z0E {q : Nat → Bool} {s : AV} {n m : Nat} (h : s.ok q = true) (hl : lenV s = some (n : Int)) (hm : m ≤ n) : (cutS s m).ok q = true := by
 cases s with
 | sl id off len cap k =>
  simp only [lenV, Option.some.injEq, Int.natCast_inj] at hl
  rcases YVw h with ⟨rfl, rfl, rfl⟩ | h1
  ·have : m = 0 := by omega
   subst this
   exact h
  ·simp [cutS, AV.ok, h1]
 | _ => exact h
theorem ZwG {sz : Nat} {s : AV} {n m : Nat} (hs : s.isSl = true) (hl : lenV s = some (n : Int)) (hok : s.capOk = true) (hm : m ≤ n) : slL sz s none (some (.i .i64 (m : Int))) none = some (cutS s m) := by
  cases s with
  | sl id off len cap k =>
    simp only [lenV, Option.some.injEq, Int.natCast_inj] at hl
    subst hl
    have : len ≤ cap := of_decide_eq_true hok
    simp only [slL, bnd, Option.map_some, cutS, if_true]
    rw [if_pos (by omega)]
    simp
  | ns => simp only [lenV, Option.some.injEq] at hl; have h0 : m = 0 := by omega
          subst h0; simp [slL, bnd, cutS]
  | se => simp only [lenV, Option.some.injEq] at hl; have h0 : m = 0 := by omega
          subst h0; simp [slL, bnd, cutS]
  | _ => cases hs
theorem Xpz : Spec Tryz.prog 103 qMN := by
 intro args h v h' e
 unfold qMN at e
 split at e
 ·rename_i id
  obtain ⟨⟨v0, d0⟩, hx, e⟩ := Option.bind_eq_some_iff.1 e
  obtain ⟨hb, hv, hd⟩ := YYh hx
  obtain ⟨xs, h1, e⟩ := YI8 e
  split at e
  ·rename_i hcap
   cases e
   dsimp only at *
   refine FnAt.c (FnAt.run (by kernel_rfl) (T := ⟨[], []⟩) ⟨trivial, trivial⟩ Tryz.func103 QOT fun ho hh => ?_)
   have hid := (List.getElem?_eq_some_iff.1 hb).1
   have fb := zVe hid
   have hlen := h1.len
   have e0 : h ++ [] = bx2 h id (cutS v0 xs.length) d0 ++ [] := by rw [ZEV hlen, qvZ hb]
   rw [e0]
   unfold w103
   simp only [XH8, QN9, X1r, Y9j, simprocAttr]
   refine YHj (S := Nat) (fun n => n) (fun _ => [.p id 0] ++ tp 44) (fun n => bx2 h id (cutS v0 n) d0 ++ []) (fun n => n ≤ xs.length ∧ K29 xs xs.length = K29 xs n) xs.length ⟨Nat.le_refl _, rfl⟩ (Bt.wk (by simp only [X1r, Y9j, simprocAttr])) fun n hn => ?_
   have hs1 := Jq1 hv n
   have r1 := (h1.bx2 hb hv hd ZhR (cutS v0 n) d0).cut n hn.1
   have f1 := r1.fxB (sz := 1) rfl
   have fl := r1.len
   have fi : ∀ k m, iadV 1 (cutS v0 n) (.i k m) = _ := r1.iad
   have ok := qGB hh hb
   have o1 := Z0E ok.1 hlen hn.1
   have fo : ∀ c lo hi anc past, (cutS v0 n).ok (qOk (h.length + c) lo hi anc past) = true := fun c lo hi anc past => AV.ok_mono (fun i q => X5H (by simp only [decide_eq_true_eq] at q; omega)) _ o1
   have fe : ∀ k j c lo hi anc past, k < (xs.take n).length → (elP 1 (cutS v0 n) k j).ok (qOk (h.length + c) lo hi anc past) = true := fun k j c lo hi anc past hk => r1.okEl (fo c lo hi anc past) k j 1 hk
   have ln : (xs.take n).length = n := by rw [List.length_take]; omega
   rw [ln] at fl fi fe
   simp only [ln] at f1
   have hidz : id < (h.map AB.freeze).length := by rw [List.length_map]; exact hid
   have fz := zVe hidz
   simp only [List.length_map] at fz
   cases n with
   | zero =>
    simp only [X1r, Z1D, Y9j, simprocAttr, CO.tmps, Opd.tmps, optT, Nat.reducePow, Nat.reduceDiv, Nat.reduceMod, fb, f1, fl, fi, fo, fe, zJM hs1, Int.lt_irrefl, Int.natCast_zero, false_implies, true_implies, implies_true]
    rw [hn.2, show K29 xs 0 = [] from rfl]
    exact Bt.eq rfl (List.append_nil _)
   | succ m =>
    have e1 : IntKind.i64.wrap (((m + 1 : Nat) : Int) - 1) = (m : Int) := by
     rw [show ((m + 1 : Nat) : Int) - 1 = (m : Int) by omega]
     exact ZL4 (by have := h1.2; unfold maxLen at this; unfold In64; omega)
    have e2 : (0 < ((m + 1 : Nat) : Int)) = True := eq_true (by omega)
    have e3 : (m < m + 1) = True := eq_true (by omega)
    have e4 := ZwG (sz := 1) hs1 fl (J5U hcap hlen hn.1) (m := m) (by omega)
    rw [ZFQ] at e4
    have e5 : (xs.take (m + 1)).getD m intR.d = xs.getD m intR.d := by
     rw [List.getD_eq_getElem?_getD, List.getD_eq_getElem?_getD, List.getElem?_take, if_pos (by omega)]
    have o2 := Z0E ok.1 hlen (m := m) (by omega)
    have fo2 : ∀ c lo hi anc past, (cutS v0 m).ok (qOk (h.length + c) lo hi anc past) = true := fun c lo hi anc past => AV.ok_mono (fun i q => X5H (by simp only [decide_eq_true_eq] at q; omega)) _ o2
    have fo3 : ∀ c, (cutS v0 m).ok (fun i => decide (i < h.length + c)) = true := fun c => AV.ok_mono (fun i q => by simp only [decide_eq_true_eq] at q ⊢; omega) _ o2
    have fd2 : ∀ c lo hi anc past, d0.ok (qOk (h.length + c) lo hi anc past) = true := fun c lo hi anc past => AV.ok_mono (fun i q => X5H (by simp only [decide_eq_true_eq] at q; omega)) _ ok.2
    have hk : ∀ x, HOk (bx2 h id (cutS v0 (m + 1)) d0 ++ x) = _ := fun x => ZEn (quX id _ _) (z1e hid hh o1 ok.2) x
    simp only [X1r, Z1D, Y9j, simprocAttr, CO.tmps, Opd.tmps, optT, Nat.reducePow, Nat.reduceDiv, Nat.reduceMod, fb, fz, f1, fl, fi, fo, fo2, fo3, fd2, fe, zJM hs1, e1, e2, e3, e4, e5, QPQ, JEE, Nat.zero_lt_one, hk, Qy1 rfl hid, JAm hid, zl8 hidz, XEs, QVR, List.length_map, Qwl (Jq1 hv m)]
    refine ⟨fun h4 => ⟨m, ⟨by omega, ?_⟩, by dsimp only; omega, Bt.wk (by simp only [X1r, zVq, simprocAttr])⟩, fun h4 => ?_⟩
    ·rw [hn.2, K29, if_pos h4]
    ·have : (K29 xs xs.length).length = m + 1 := by rw [hn.2, K29, if_neg h4, List.length_take]; omega
     rw [this]
     exact Bt.eq rfl (List.append_nil _)
  ·cases e
 ·cases e
end Go.Proofs.YtfaccliekejngaaGreat
end
