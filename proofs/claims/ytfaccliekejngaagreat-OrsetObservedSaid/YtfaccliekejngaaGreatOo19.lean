/- Part 19 of what the laws' proofs rest on. No condition. -/
import Derived.Test.YtfaccliekejngaaGreatOo18
set_option linter.all false
section
namespace Go.Proofs.YtfaccliekejngaaGreat
section
variable {α : Type} {lt : α → α → Prop}
structure Strict (lt : α → α → Prop) : Prop where
 irr : ∀ a, ¬ lt a a
 tr : ∀ {a b c}, lt a b → lt b c → lt a c
theorem qfr (o : Strict lt) : ∀ {l l' : List α}, l.Pairwise lt → l'.Pairwise lt → (∀ d, d ∈ l ↔ d ∈ l') → l = l'
 | [], [], _, _, _ => rfl
 | [], b :: l', _, _, h => absurd ((h b).2 (.head _)) (by simp)
 | a :: l, [], _, _, h => absurd ((h a).1 (.head _)) (by simp)
 | a :: l, b :: l', h1, h2, h => by
  have r1 := List.pairwise_cons.1 h1
  have r2 := List.pairwise_cons.1 h2
  have e : a = b := by
   rcases List.mem_cons.1 ((h a).1 (.head _)) with q | q
   ·exact q
   ·rcases List.mem_cons.1 ((h b).2 (.head _)) with z | z
    ·exact z.symm
    ·exact absurd (o.tr (r2.1 a q) (r1.1 b z)) (o.irr _)
  subst e
  congr 1
  refine qfr o r1.2 r2.2 fun d => ⟨fun hd => ?_, fun hd => ?_⟩
  ·rcases List.mem_cons.1 ((h d).1 (.tail _ hd)) with q | q
   ·subst q; exact absurd (r1.1 _ hd) (o.irr _)
   ·exact q
  ·rcases List.mem_cons.1 ((h d).2 (.tail _ hd)) with q | q
   ·subst q; exact absurd (r2.1 _ hd) (o.irr _)
   ·exact q
theorem YXl (o : Strict lt) : ∀ {l : List α}, (∀ i (h : i + 1 < l.length), lt (l[i]'(by omega)) l[i + 1]) → l.Pairwise lt
 | [], _ => List.Pairwise.nil
 | [a], _ => List.pairwise_singleton _ _
 | a :: b :: l, h => by
  have ih := YXl o (l := b :: l) fun i hi => h (i + 1) (by simpa using hi)
  have h0 := h 0 (by simp)
  refine List.pairwise_cons.2 ⟨fun d hd => ?_, ih⟩
  rcases List.mem_cons.1 hd with rfl | q
  ·exact h0
  ·exact o.tr h0 ((List.pairwise_cons.1 ih).1 d q)
theorem JJZ (o : Strict lt) {l : List α} : l.Pairwise lt ↔ ∀ i (h : i + 1 < l.length), lt (l[i]'(by omega)) l[i + 1] :=
 ⟨fun h i hi => List.pairwise_iff_getElem.1 h i (i + 1) (by omega) hi (by omega), YXl o⟩
open Classical in
noncomputable def layG (lt : α → α → Prop) : List α → α → List α
 | [], h => [h]
 | x :: l, h => if lt h x then h :: x :: l else x :: layG lt l h
theorem zeS : ∀ (l : List α) (h y : α), y ∈ layG lt l h ↔ y = h ∨ y ∈ l
 | [], h, y => by simp [layG]
 | x :: l, h, y => by
  unfold layG
  split
  ·simp
  ·simp only [List.mem_cons, zeS l h y]
   constructor
   ·rintro (q | q | q)
    ·exact .inr (.inl q)
    ·exact .inl q
    ·exact .inr (.inr q)
   ·rintro (q | q | q)
    ·exact .inr (.inl q)
    ·exact .inl q
    ·exact .inr (.inr q)
theorem qso : ∀ (l : List α) (h : α), (layG lt l h).length = l.length + 1
 | [], h => rfl
 | x :: l, h => by
  unfold layG
  split
  ·rfl
  ·simp [qso l h]
theorem qFA (o : Strict lt) : ∀ {l : List α} {h : α}, l.Pairwise lt → (∀ x ∈ l, lt x h ∨ lt h x) → (layG lt l h).Pairwise lt
 | [], h, _, _ => List.pairwise_singleton _ _
 | x :: l, h, r, ht => by
  have rc := List.pairwise_cons.1 r
  unfold layG
  split
  ·rename_i q
   refine List.pairwise_cons.2 ⟨fun y hy => ?_, r⟩
   rcases List.mem_cons.1 hy with rfl | hy
   ·exact q
   ·exact o.tr q (rc.1 y hy)
  ·rename_i q
   refine List.pairwise_cons.2 ⟨fun y hy => ?_, qFA o rc.2 fun y hy => ht y (.tail _ hy)⟩
   rcases (zeS l h y).1 hy with rfl | hy
   ·exact (ht x (.head _)).resolve_right q
   ·exact rc.1 y hy
end
def KBL (a b : Hd) : Prop := ZwT a.1 b.1
theorem XEZ : Strict KBL := ⟨fun a => zng _, fun h k => YKM h k⟩
def cmpB : List UInt8 → List UInt8 → Int
 | [], [] => 0
 | [], _ :: _ => -1
 | _ :: _, [] => 1
 | a :: l, b :: l' => if a < b then -1 else if b < a then 1 else cmpB l l'
theorem z2f : ∀ l : List UInt8, cmpB l l = 0
 | [] => rfl
 | a :: l => by
  unfold cmpB
  rw [if_neg (UInt8.lt_irrefl a), if_neg (UInt8.lt_irrefl a), z2f l]
theorem XmJ : ∀ {l l' : List UInt8}, cmpB l l' = 0 → l = l'
 | [], [], _ => rfl
 | [], _ :: _, h => by simp [cmpB] at h
 | _ :: _, [], h => by simp [cmpB] at h
 | a :: l, b :: l', h => by
  unfold cmpB at h
  split at h
  ·simp at h
  ·split at h
   ·simp at h
   ·rename_i h1 h2
    rw [XmJ h, UInt8.le_antisymm (UInt8.not_lt.1 h2) (UInt8.not_lt.1 h1)]
theorem KUs : ∀ (l l' : List UInt8), cmpB l' l = - cmpB l l'
 | [], [] => rfl
 | [], _ :: _ => rfl
 | _ :: _, [] => rfl
 | a :: l, b :: l' => by
  unfold cmpB
  by_cases h1 : a < b
  ·rw [if_pos h1, if_neg (UInt8.lt_asymm h1), if_pos h1]; rfl
  ·by_cases h2 : b < a
   ·rw [if_pos h2, if_neg h1, if_pos h2]
   ·rw [if_neg h1, if_neg h2, if_neg h1, if_neg h2, KUs l l']
theorem ZNs : ∀ (l l' : List UInt8), cmpB l l' = -1 ∨ cmpB l l' = 0 ∨ cmpB l l' = 1
 | [], [] => .inr (.inl rfl)
 | [], _ :: _ => .inl rfl
 | _ :: _, [] => .inr (.inr rfl)
 | a :: l, b :: l' => by
  unfold cmpB
  split
  ·exact .inl rfl
  ·split
   ·exact .inr (.inr rfl)
   ·exact ZNs l l'
theorem XtM : ∀ {a b c : List UInt8}, cmpB a b < 0 → cmpB b c < 0 → cmpB a c < 0
 | [], [], _, h, _ => by simp [cmpB] at h
 | [], _ :: _, [], _, k => by simp [cmpB] at k
 | [], _ :: _, _ :: _, _, _ => by simp [cmpB]
 | _ :: _, [], _, h, _ => by simp [cmpB] at h
 | _ :: _, _ :: _, [], _, k => by simp [cmpB] at k
 | a :: l, b :: l', c :: l'', h, k => by
  unfold cmpB at h k ⊢
  by_cases h1 : a < b
  ·by_cases k1 : b < c
   ·rw [if_pos (UInt8.lt_trans h1 k1)]; omega
   ·rw [if_neg k1] at k
    by_cases k2 : c < b
    ·rw [if_pos k2] at k; omega
    ·have e : b = c := UInt8.le_antisymm (UInt8.not_lt.1 k2) (UInt8.not_lt.1 k1)
     subst e
     rw [if_pos h1]; omega
  ·rw [if_neg h1] at h
   by_cases h2 : b < a
   ·rw [if_pos h2] at h; omega
   ·rw [if_neg h2] at h
    have e : a = b := UInt8.le_antisymm (UInt8.not_lt.1 h2) (UInt8.not_lt.1 h1)
    subst e
    by_cases k1 : a < c
    ·rw [if_pos k1]; omega
    ·rw [if_neg k1] at k ⊢
     by_cases k2 : c < a
     ·rw [if_pos k2] at k; omega
     ·rw [if_neg k2] at k ⊢
      exact XtM h k
def cmpG (a b : Dg) : Int := cmpB a.l b.l
def Q9r (a b : Dg) : Prop := cmpG a b < 0
theorem J4F : Strict Q9r := ⟨fun a h => by unfold Q9r cmpG at h; rw [z2f] at h; omega, fun h k => XtM h k⟩
theorem qox (a b : Dg) : Q9r a b ∨ a = b ∨ Q9r b a := by
 unfold Q9r cmpG
 rw [KUs a.l b.l]
 rcases ZNs a.l b.l with q | q | q
 ·exact .inl (by omega)
 ·exact .inr (.inl (Dg.ext (XmJ q)))
 ·exact .inr (.inr (by omega))
end Go.Proofs.YtfaccliekejngaaGreat
end
section
namespace Go.Proofs.YtfaccliekejngaaGreat
set_option maxRecDepth 100000
set_option maxHeartbeats 4000000
def K16 (v : List Int) (ds : Dots) (l : List Hd) (i : Nat) : Prop := ∀ k, k < i → (0 < k → ZwT (l.getD (k - 1) qjO.d).1 (l.getD k qjO.d).1) ∧ (KXy v ds = 0 ∧ YlY v ds (l.getD k qjO.d).1)
noncomputable instance (v : List Int) (ds : Dots) (l : List Hd) (i : Nat) : Decidable (K16 v ds l i) := Classical.propDecidable _
noncomputable def Kq6 (l : List Hd) (v : List Int) (ds : Dots) : Int := if KXy v ds ≠ 0 then KXy v ds else if K16 v ds l l.length then 0 else 2
end Go.Proofs.YtfaccliekejngaaGreat
end
section
namespace Go.Proofs.YtfaccliekejngaaGreat
set_option maxRecDepth 100000
set_option maxHeartbeats 4000000
theorem zp7 (x : Hd) : (qjO.f x).length = 34 := qjO.len x
theorem XwU (x : Dg) : (idR.f x).length = 32 := idR.len x
theorem ZOt (x : Hd) : (qjO.f x).take 34 = qjO.f x := List.take_of_length_le (by rw [zp7]; exact Nat.le_refl _)
theorem Kb6 (x : Dg) : (idR.f x).take 32 = idR.f x := List.take_of_length_le (by rw [XwU]; exact Nat.le_refl _)
theorem Ke3 : ∀ (zs l : List AV), l.length = zs.length → over zs 0 l = l := by
 intro zs l h
 simp only [over, List.take_zero, List.nil_append, Nat.zero_add]
 rw [List.drop_eq_nil_of_le (by omega), List.append_nil]
noncomputable def outL (v : List Int) (ds : Dots) (l : List Hd) : List Hd := l.filter fun x => decide (¬ (KXy v ds = 0 ∧ YlY v ds x.1))
theorem ZsQ (v : List Int) (ds : Dots) {l : List Hd} {i : Nat} (h : i < l.length) : outL v ds (l.take (i + 1)) = outL v ds (l.take i) ++ (if ¬ (KXy v ds = 0 ∧ YlY v ds (l.getD i qjO.d).1) then [l.getD i qjO.d] else []) := by
 unfold outL
 rw [List.take_succ_eq_append_getElem h, List.filter_append, List.getD_eq_getElem?_getD, List.getElem?_eq_getElem h]
 simp only [Option.getD_some, List.filter_cons, List.filter_nil, decide_eq_true_eq]
theorem JeT (v : List Int) (ds : Dots) (l : List Hd) (i : Nat) : (outL v ds (l.take i)).length ≤ i := by
 unfold outL
 exact Nat.le_trans (List.length_filter_le _ _) (by rw [List.length_take]; omega)
end Go.Proofs.YtfaccliekejngaaGreat
end
section
namespace Go.Proofs.YtfaccliekejngaaGreat
set_option maxRecDepth 100000
set_option maxHeartbeats 4000000
theorem eqcG (a b c d : Int) : XWq [.i, .i] [.i .i64 a, .i .i64 b] [.i .i64 c, .i .i64 d] = some (decide (a = c ∧ b = d)) := by
 have := eqc2 (a, b) (c, d)
 simp only at this
 rw [this]
 congr 1
 exact decide_eq_decide.2 (by rw [Prod.mk.injEq])
noncomputable instance (l : List Hd) (x : Hd) (i : Nat) : Decidable (∃ y ∈ l.take i, KBL x y) := Classical.propDecidable _
end Go.Proofs.YtfaccliekejngaaGreat
end
section
namespace Go.Proofs.YtfaccliekejngaaGreat
set_option maxRecDepth 100000
set_option maxHeartbeats 4000000
open Classical in
noncomputable def getH (a : AV) : Option Hd := if e : ∃ y, a = .ag (qjO.f y) then some e.choose else none
theorem KDg (y : Hd) : getH (.ag (qjO.f y)) = some y := by
 have e : ∃ z, AV.ag (qjO.f y) = .ag (qjO.f z) := ⟨y, rfl⟩
 unfold getH
 rw [dif_pos e]
 have h := e.choose_spec
 rw [AV.ag.injEq] at h
 rw [← qjO.inj _ _ h]
theorem KFu {β : Type} {a : AV} {f : Hd → Option β} {b : β} (e : (getH a).bind f = some b) : ∃ y, a = .ag (qjO.f y) ∧ f y = some b := by
 unfold getH at e
 split at e
 ·rename_i h
  exact ⟨h.choose, h.choose_spec, e⟩
 ·cases e
section
variable {α : Type} {r : Row α}
theorem JQ6 (id : Nat) (l : List α) (x : α) : rsl r id (l ++ [x]) = .sl id 0 (l.length + 1) (l.length + 1) (some r.sz) := by
 unfold rsl
 rw [if_neg (by simp), List.length_append]
 rfl
theorem JfL (id : Nat) (x : α) : rsl r id [x] = .sl id 0 1 1 (some r.sz) := _root_.id rfl
end
end Go.Proofs.YtfaccliekejngaaGreat
end
section
namespace Go.Proofs.YtfaccliekejngaaGreat
set_option maxRecDepth 100000
set_option maxHeartbeats 4000000
theorem zvk {l : List Hd} {v : List Int} {ds : Dots} (h : Kq6 l v ds = 0) : KXy v ds = 0 ∧ K16 v ds l l.length := by
 unfold Kq6 at h
 split at h
 ·rename_i c; exact absurd h c
 ·rename_i c
  split at h
  ·rename_i q; exact ⟨Decidable.not_not.1 c, q⟩
  ·cases h
end Go.Proofs.YtfaccliekejngaaGreat
end
section
namespace Go.Proofs.YtfaccliekejngaaGreat
set_option maxRecDepth 100000
set_option maxHeartbeats 4000000
noncomputable def z6u : List AV → List AB → Option (AV × List AB)
 | [a], h => (getS intR h a).bind fun xs => if xs.length ≤ 1000000 then some (rsl intR h.length xs, h ++ [resB intR true xs]) else none
 | _, _ => none
theorem Xk2 (h : List AB) (xs : List Int) (h0 : xs.length = 0) : FnC Tryz.prog 112 [.se] h (rsl intR h.length xs) (h ++ [resB intR true xs]) := by
 refine FnAt.c (FnAt.run (by kernel_rfl) (T := ⟨[], []⟩) ⟨trivial, trivial⟩ Tryz.func112 YxF fun ho hh => ?_)
 have fs : ∀ x : List AB, srcV (h ++ x) 1 .se = some (0, []) := fun _ => rfl
 unfold w112
 simp only [XH8, QN9, X1r, zVq, simprocAttr, fs]
 exact Bt.one 0 hh (fun _ => Wk.empty _ _ _ _ _ _) (by simp) (fun h => absurd h0 h)
theorem zp4 (h : List AB) (xs : List Int) (h0 : xs.length = 0) : FnC Tryz.prog 112 [.ns] h (rsl intR h.length xs) (h ++ [resB intR true xs]) := by
 refine FnAt.c (FnAt.run (by kernel_rfl) (T := ⟨[], []⟩) ⟨trivial, trivial⟩ Tryz.func112 YxF fun ho hh => ?_)
 unfold w112
 simp only [XH8, QN9, X1r, zVq, simprocAttr]
 exact Bt.one0 h0 (Wk.nil _ _)
theorem z5k : Spec Tryz.prog 112 z6u := by
 intro args h v h' e
 unfold z6u at e
 split at e
 ·rename_i a
  obtain ⟨xs, ha, e⟩ := YI8 e
  split at e
  ·rename_i hl
   cases e
   by_cases hk : ∃ id off cap, a = .sl id off 0 cap (some 0)
   ·obtain ⟨id, off, cap, rfl⟩ := hk
    have h0 : xs.length = 0 := by have := ha.len; simp only [lenV, Option.some.injEq] at this; omega
    exact FnC.empty1 (zp4 h xs h0) (Xk2 h xs h0)
   have hs := ha.isSl
   have hlen := ha.len
   cases a <;> first | (cases hs; done) | skip
   ·rename_i id off len cap k
    have hq : Y1v (.sl id off len cap k) .ns = some false := by
     rw [zON, if_neg]
     rintro ⟨rfl, rfl⟩
     exact hk ⟨_, _, _, rfl⟩
    refine FnAt.c (FnAt.run (by kernel_rfl) (T := ⟨[], []⟩) ⟨trivial, trivial⟩ Tryz.func112 YxF fun ho hh => ?_)
    simp only [qMC, Bool.and_eq_true] at ho
    have fa := ha.fx ho.1 (sz := 1) rfl
    have fs := ha.src (sz := 1) rfl
    unfold w112
    by_cases h0 : xs.length = 0
    ·simp only [XH8, QN9, X1r, zVq, simprocAttr, fa, fs, h0, hq]
     exact Bt.one 0 hh (fun _ => Wk.empty _ _ _ _ _ _) (by simp) (fun h => absurd h0 h)
    ·simp only [XH8, QN9, X1r, zVq, simprocAttr, fa, fs, h0, hq]
     exact ⟨⟨by omega, by unfold maxLen; omega⟩, Bt.one 1 hh (fun h => absurd h h0) (by simp) (fun _ => ⟨rfl, rfl⟩)⟩
   ·exact Xk2 h xs (by simp only [lenV, Option.some.injEq] at hlen; omega)
   ·exact zp4 h xs (by simp only [lenV, Option.some.injEq] at hlen; omega)
  ·cases e
 ·cases e
noncomputable def zLz : List AV → List AB → Option (AV × List AB)
 | [a], h => (getS qjO h a).bind fun xs => if xs.length ≤ 1000000 then some (rsl qjO h.length xs, h ++ [resB qjO true xs]) else none
 | _, _ => none
end Go.Proofs.YtfaccliekejngaaGreat
end
section
namespace Go.Proofs.YtfaccliekejngaaGreat
set_option maxRecDepth 100000
set_option maxHeartbeats 4000000
abbrev jH (h : List AB) (s t s' t' sa sb : AV) (l : Dots) : List AB := h ++ jL h.length s t s' t' (apS dotR (h.length + 7) l) sa sb (resB dotR true l)
theorem JMn {h : List AB} {s t s' t' sa sb sa' sb' : AV} {l l' : Dots} (e : jH h s t s' t' sa sb l = jH h s t s' t' sa' sb' l') : sa = sa' ∧ sb = sb' ∧ l = l' := by
 replace e := List.append_cancel_left e
 simp only [jL, List.cons.injEq, AB.blk.injEq, and_true, true_and] at e
 obtain ⟨e1, e2, e3, e4⟩ := e
 exact ⟨e2, e3, Yqn e1 e4⟩
def ZJ4 (h : List AB) (s t s' t' sa sb : AV) (la lb l : Dots) (x : AV × List AB) : Prop :=
 if JZl la lb then ∃ sb', Prt h sb' (lb.drop 1) ∧ x = (.ag (dotR.f (lb.getD 0 dotR.d)), jH h s t s' t' sa sb' l)
 else ∃ sa', Prt h sa' (la.drop 1) ∧ x = (.ag (dotR.f (la.getD 0 dotR.d)), jH h s t s' t' sa' sb l)
def z7V (h : List AB) (s t s' t' : AV) (hh : List AB) (x : AV × List AB) : Prop :=
 ∃ sa sb la lb l, Prt h sa la ∧ Prt h sb lb ∧ hh = jH h s t s' t' sa sb l ∧ ZJ4 h s t s' t' sa sb la lb l x ∧ FnAt Tryz.prog 138 [.p (h.length + 4) 0, .p (h.length + 5) 0] hh x.1 x.2
open Classical in
noncomputable def XVs (h : List AB) (s t s' t' : AV) : List AV → List AB → Option (AV × List AB) := fun args hh =>
 if c : args = [.p (h.length + 4) 0, .p (h.length + 5) 0] ∧ ∃ x, z7V h s t s' t' hh x then some (Classical.choose c.2) else none
theorem zHC (h : List AB) (s t s' t' : AV) : Spec Tryz.prog 138 (XVs h s t s' t') := by
 intro args hh v h' e
 unfold XVs at e
 split at e
 ·rename_i c
  obtain ⟨rfl, hx⟩ := c
  obtain ⟨sa, sb, la, lb, l, _, _, _, _, q⟩ := Classical.choose_spec hx
  have e' := Option.some.inj e
  rw [e'] at q
  exact q.c
 ·cases e
theorem Q11 {h : List AB} {s t s' t' sa sb : AV} {la lb l : Dots} (pa : Prt h sa la) (pb : Prt h sb lb) (hx : ∃ x, ZJ4 h s t s' t' sa sb la lb l x ∧ FnAt Tryz.prog 138 [.p (h.length + 4) 0, .p (h.length + 5) 0] (jH h s t s' t' sa sb l) x.1 x.2) :
  ∃ x, XVs h s t s' t' [.p (h.length + 4) 0, .p (h.length + 5) 0] (jH h s t s' t' sa sb l) = some x ∧ ZJ4 h s t s' t' sa sb la lb l x := by
 obtain ⟨x, hr, hf⟩ := hx
 have c : ([.p (h.length + 4) 0, .p (h.length + 5) 0] : List AV) = [.p (h.length + 4) 0, .p (h.length + 5) 0] ∧ ∃ x, z7V h s t s' t' (jH h s t s' t' sa sb l) x := ⟨rfl, x, sa, sb, la, lb, l, pa, pb, rfl, hr, hf⟩
 refine ⟨Classical.choose c.2, by unfold XVs; rw [dif_pos c], ?_⟩
 obtain ⟨sa2, sb2, la2, lb2, l2, pa2, pb2, e, hr2, _⟩ := Classical.choose_spec c.2
 obtain ⟨rfl, rfl, rfl⟩ := JMn e
 have e1 := pa.rd.inj pa2.rd
 have e2 := pb.rd.inj pb2.rd
 subst e1 e2
 exact hr2
def zxE (h : List AB) (s t s' t' sa sb : AV) (l : Dots) (a b : Int) : List AB := h ++ (jL h.length s t s' t' (.sl (h.length + 10) 0 (l.length + 1) (l.length + 1) (some 2)) sa sb .dead ++ [.blk true true [.i .i64 a, .i .i64 b], .blk true true [.i .i64 a, .i .i64 b], .blk true true (dotR.cells l ++ [.i .i64 a, .i .i64 b])])
def ZJM (h : List AB) (s t s' t' : AV) (a b : Int) (hh r : List AB) : Prop := ∃ sa sb l, l.length ≤ 1000000 ∧ hh = jH h s t s' t' sa sb l ∧ r = zxE h s t s' t' sa sb l a b
open Classical in
noncomputable def ZZI (h : List AB) (s t s' t' : AV) : List AV → List AB → Option (AV × List AB)
 | [.ag [.i .i64 a, .i .i64 b]], hh => if c : ∃ r, ZJM h s t s' t' a b hh r then some (.b true, c.choose) else none
 | _, _ => none
theorem ZLC (h : List AB) (s t s' t' sa sb : AV) (l : Dots) (a b : Int) (hl : l.length ≤ 1000000) : ZZI h s t s' t' [.ag [.i .i64 a, .i .i64 b]] (jH h s t s' t' sa sb l) = some (.b true, zxE h s t s' t' sa sb l a b) := by
 have hc : ∃ r, ZJM h s t s' t' a b (jH h s t s' t' sa sb l) r := ⟨_, sa, sb, l, hl, rfl, rfl⟩
 obtain ⟨sa', sb', l', _, e, e5⟩ := hc.choose_spec
 obtain ⟨rfl, rfl, rfl⟩ := JMn e
 simp only [ZZI]
 rw [dif_pos hc, e5]
theorem qoO (h : List AB) (s t s' t' : AV) : ZFf Tryz.prog (h.length + 6) (ZZI h s t s' t') := by
 intro args hh v h' e
 unfold ZZI at e
 split at e
 ·rename_i a b
  split at e
  ·rename_i hc
   cases e
   obtain ⟨sa, sb, l, h1, h2, h3⟩ := hc.choose_spec
   rw [h3, h2]
   exact ZnZ h s t s' t' sa sb l a b h1
  ·cases e
 ·cases e
theorem QaA (la lb : Dots) (h : la.length + lb.length = 0) : mrgD (la.length + lb.length) la lb = [] := by rw [h]; rfl
theorem z4l (la lb : Dots) (h : la.length + lb.length ≠ 0) (c : JZl la lb) : 0 < lb.length ∧ mrgD (la.length + lb.length) la lb = lb.getD 0 dotR.d :: mrgD (la.length + (lb.drop 1).length) la (lb.drop 1) := by
 have hb : 0 < lb.length := by rcases c with q | q <;> omega
 refine ⟨hb, ?_⟩
 obtain ⟨n, hn⟩ : ∃ n, la.length + lb.length = n + 1 := ⟨la.length + lb.length - 1, by omega⟩
 rw [hn, show la.length + (lb.drop 1).length = n by rw [List.length_drop]; omega]
 conv => lhs; unfold mrgD
 rw [if_pos c]
theorem zsB (la lb : Dots) (h : la.length + lb.length ≠ 0) (c : ¬ JZl la lb) : 0 < la.length ∧ mrgD (la.length + lb.length) la lb = la.getD 0 dotR.d :: mrgD ((la.drop 1).length + lb.length) (la.drop 1) lb := by
 have ha : 0 < la.length := by
  rcases Nat.eq_zero_or_pos la.length with q | q
  ·exact absurd (.inl q) c
  ·exact q
 refine ⟨ha, ?_⟩
 obtain ⟨n, hn⟩ : ∃ n, la.length + lb.length = n + 1 := ⟨la.length + lb.length - 1, by omega⟩
 rw [hn, show (la.drop 1).length + lb.length = n by rw [List.length_drop]; omega]
 conv => lhs; unfold mrgD
 rw [if_neg c]
theorem Yxw (h : List AB) (hz : h.map AB.freeze = h) (hh : HOk h) {s t s' t' : AV} {v v' : List Int} {ds ds' : Dots} (hs : Rd intR h s v) (hs' : Rd intR h s' v') (pt : Prt h t ds) (pt' : Prt h t' ds')
  (os : s.ok (fun i => decide (i < h.length)) = true) (os' : s'.ok (fun i => decide (i < h.length)) = true) (hl : ds.length + ds'.length ≤ 20000) :
  FnAt Tryz.prog 137 [.y (h.length + 6), .p (h.length + 4) 0, .p (h.length + 5) 0] (h ++ [.blk false true [s, t], .blk false true [s', t'], .blk false true [.ns, .ns], .blk false true [.ns], .blk false true [t], .blk false true [t'], .lp .ready .n (jFr h.length s t s' t') [21] jA jB]) (.tu [])
   (h ++ [.blk false true [s, t], .blk false true [s', t'], .blk false true [.ns, .ns], .blk false true [apS dotR (h.length + 7) (mrgD (ds.length + ds'.length) ds ds')], .dead, .dead, .lp .ready .n (jFr h.length s t s' t') [21] jA jB, resB dotR true (mrgD (ds.length + ds'.length) ds ds')]) := by
 refine FnAt.run (by kernel_rfl) (T := ⟨[⟨138, XVs h s t s' t', fun _ => []⟩], [⟨h.length + 6, ZZI h s t s' t', fun _ => []⟩]⟩) ⟨⟨zHC h s t s' t', trivial⟩, ⟨qoO h s t s' t', trivial⟩⟩ Tryz.func137 JRa fun _ _ => ?_
 have f1 := hs.fx os (sz := 1) rfl
 have f2 := pt.rd.fx pt.ok (sz := 2) rfl
 have f3 := hs'.fx os' (sz := 1) rfl
 have f4 := pt'.rd.fx pt'.ok (sz := 2) rfl
 unfold w137
 simp only [XH8, QN9, X1r, zVq, simprocAttr]
 refine YHj (S := AV × AV × Dots × Dots × Dots) (fun x => x.2.2.1.length + x.2.2.2.1.length) (fun _ => [.y (h.length + 6), .p (h.length + 4) 0, .p (h.length + 5) 0] ++ tp 1 ++ [.f (.func 138) [] [.p (h.length + 4) 0, .p (h.length + 5) 0]] ++ tp 12) (fun x => jH h s t s' t' x.1 x.2.1 x.2.2.2.2)
  (fun x => Prt h x.1 x.2.2.1 ∧ Prt h x.2.1 x.2.2.2.1 ∧ x.2.2.2.2 ++ mrgD (x.2.2.1.length + x.2.2.2.1.length) x.2.2.1 x.2.2.2.1 = mrgD (ds.length + ds'.length) ds ds' ∧ x.2.2.1.length + x.2.2.2.1.length + x.2.2.2.2.length ≤ 20000) (t, t', ds, ds', []) ⟨pt, pt', rfl, by simp only [List.length_nil]; omega⟩ ?_ fun x hx => ?_
 ·have e : jH h s t s' t' t t' [] = h ++ [.blk false true [s, t], .blk false true [s', t'], .blk false true [.ns, .ns], .blk false true [.ns], .blk false true [t], .blk false true [t'], .lp .ready .n (jFr h.length s t s' t') [21] jA jB] ++ List.replicate 1 .dead := by
   rw [List.append_assoc]
   rfl
  rw [e]
  refine Bt.trans (Bt.wk ?_) (Bt.pad _ _ 1)
  simp only [X1r, zVq, simprocAttr]
 ·obtain ⟨sa, sb, la, lb, l⟩ := x
  obtain ⟨pa, pb, hM, hlen⟩ := hx
  dsimp only at pa pb hM hlen ⊢
  have f5 := pa.rd.fx pa.ok (sz := 2) rfl
  have f6 := pb.rd.fx pb.ok (sz := 2) rfl
  have ew : IntKind.i64.wrap ((la.length : Int) + (lb.length : Int)) = (la.length : Int) + (lb.length : Int) := ZL4 (by unfold In64; omega)
  by_cases hn : la.length + lb.length = 0
  ·have hg : ((0 : Int) < (la.length : Int) + (lb.length : Int)) = False := eq_false (by omega)
   simp only [jL, jFr, jA, jB, X1r, zVq, simprocAttr, f1, f2, f3, f4, f5, f6, ew, hg, false_implies]
   have hl0 : l = mrgD (ds.length + ds'.length) ds ds' := by rw [← hM, QaA la lb hn, List.append_nil]
   rw [← hl0]
   have l1 := Bt.less (P := Tryz.prog) (p := h.length + 7) (fr := [.tu []]) (h := jH h s t s' t' sa sb l) (i := h.length + 4) (B := .blk false true [sa]) (B' := .dead) (by rw [Yn6]; rfl) (fun _ _ _ _ _ _ => trivial) (fun q => by cases q) (fun q => by cases q)
   have l2 := Bt.less (P := Tryz.prog) (p := h.length + 7) (fr := [.tu []]) (h := (jH h s t s' t' sa sb l).set (h.length + 4) .dead) (i := h.length + 5) (B := .blk false true [sb]) (B' := .dead) (by rw [zpT, Yn6]; rfl) (fun _ _ _ _ _ _ => trivial) (fun q => by cases q) (fun q => by cases q)
   have l3 := l1.trans l2
   rw [zpT, zpT] at l3
   exact l3
  ·have hg : ((0 : Int) < (la.length : Int) + (lb.length : Int)) = True := eq_true (by omega)
   have hleast := Jvg h hz hh hs pt.rd hs' pt'.rd os pt.ok os' pt'.ok pa pb l hn
   have gl : l.length ≤ 1000000 := by omega
   have w1 : ∀ sel, Wk (s.ren (selN h.length sel)) s = True := fun sel => eq_true (Wk.ren (fun i hi => Xdk hi) os)
   have w2 : ∀ sel, Wk (t.ren (selN h.length sel)) t = True := fun sel => eq_true (Wk.ren (fun i hi => Xdk hi) pt.ok)
   have w3 : ∀ sel, Wk (s'.ren (selN h.length sel)) s' = True := fun sel => eq_true (Wk.ren (fun i hi => Xdk hi) os')
   have w4 : ∀ sel, Wk (t'.ren (selN h.length sel)) t' = True := fun sel => eq_true (Wk.ren (fun i hi => Xdk hi) pt'.ok)
   have w5 : ∀ sel, Wk (.ag [s.ren (selN h.length sel), t.ren (selN h.length sel)]) (.ag [s, t]) = True := fun sel => eq_true (JEJ ⟨of_eq_true (w1 sel), of_eq_true (w2 sel), trivial⟩)
   have w6 : ∀ sel, Wk (.ag [s'.ren (selN h.length sel), t'.ren (selN h.length sel)]) (.ag [s', t']) = True := fun sel => eq_true (JEJ ⟨of_eq_true (w3 sel), of_eq_true (w4 sel), trivial⟩)
   by_cases hc : JZl la lb
   ·obtain ⟨hb, hm⟩ := z4l la lb hn hc
    rw [if_pos hc] at hleast
    obtain ⟨sb0, pb0, fa⟩ := hleast
    obtain ⟨x, e1, e2⟩ := Q11 pa pb ⟨(_, _), by unfold ZJ4; rw [if_pos hc]; exact ⟨sb0, pb0, rfl⟩, fa⟩
    unfold ZJ4 at e2
    rw [if_pos hc] at e2
    obtain ⟨sb', pb', rfl⟩ := e2
    have w7 : ∀ sel, Wk (sa.ren (selN h.length sel)) sa = True := fun sel => eq_true (Wk.ren (fun i hi => Xdk hi) pa.ok)
    have w8 : ∀ sel, Wk (sb'.ren (selN h.length sel)) sb' = True := fun sel => eq_true (Wk.ren (fun i hi => Xdk hi) pb'.ok)
    have f7 := pb'.rd.fx pb'.ok (sz := 2) rfl
    have e3 := ZLC h s t s' t' sa sb' l (lb.getD 0 dotR.d).1 (lb.getD 0 dotR.d).2 gl
    simp only [KdD] at e1
    simp only [jL, jFr, jA, jB, X1r, zVq, simprocAttr, f1, f2, f3, f4, f5, f6, ew, hg, false_implies, e1, e3]
    refine ⟨(sa, sb', la, lb.drop 1, l ++ [lb.getD 0 dotR.d]), ⟨pa, pb', ?_, ?_⟩, ?_, ?_⟩
    ·dsimp only
     rw [← hM, hm, List.append_assoc]
     rfl
    ·dsimp only
     rw [List.length_append, List.length_drop, List.length_singleton]
     omega
    ·dsimp only
     rw [List.length_drop]
     omega
    ·dsimp only
     simp only [zxE, jH, jL, jFr, jA, jB, XlZ, zbl, z1G, Z97]
     refine Bt.selL 7 [0, 1, 2, 3, 4, 5, 6, 10] hh (by decide) (by decide) (by decide) (by decide) ?_ ?_
     ·simp only [q9C, FrSel, BlkSel, AV.ren, renL, AV.ok, okL, Option.some.injEq, exists_eq_left', List.length_cons, List.length_nil, Nat.reduceAdd, Nat.reduceLT, reduceCtorEq, implies_true, exists_eq', f1, f2, f3, f4, f5, f6, f7, w1, w2, w3, w4, w5, w6, w7, w8]
     ·simp only [q9C, FrSel, BlkSel, AV.ren, renL, AV.ok, okL, Option.some.injEq, exists_eq_left', List.length_cons, List.length_nil, Nat.reduceAdd, Nat.reduceLT, reduceCtorEq, implies_true, exists_eq', f1, f2, f3, f4, f5, f6, f7, w1, w2, w3, w4, w5, w6, w7, w8]
   ·obtain ⟨ha, hm⟩ := zsB la lb hn hc
    rw [if_neg hc] at hleast
    obtain ⟨sa0, pa0, fa⟩ := hleast
    obtain ⟨x, e1, e2⟩ := Q11 pa pb ⟨(_, _), by unfold ZJ4; rw [if_neg hc]; exact ⟨sa0, pa0, rfl⟩, fa⟩
    unfold ZJ4 at e2
    rw [if_neg hc] at e2
    obtain ⟨sa', pa', rfl⟩ := e2
    have w7 : ∀ sel, Wk (sa'.ren (selN h.length sel)) sa' = True := fun sel => eq_true (Wk.ren (fun i hi => Xdk hi) pa'.ok)
    have w8 : ∀ sel, Wk (sb.ren (selN h.length sel)) sb = True := fun sel => eq_true (Wk.ren (fun i hi => Xdk hi) pb.ok)
    have f7 := pa'.rd.fx pa'.ok (sz := 2) rfl
    have e3 := ZLC h s t s' t' sa' sb l (la.getD 0 dotR.d).1 (la.getD 0 dotR.d).2 gl
    simp only [KdD] at e1
    simp only [jL, jFr, jA, jB, X1r, zVq, simprocAttr, f1, f2, f3, f4, f5, f6, ew, hg, false_implies, e1, e3]
    refine ⟨(sa', sb, la.drop 1, lb, l ++ [la.getD 0 dotR.d]), ⟨pa', pb, ?_, ?_⟩, ?_, ?_⟩
    ·dsimp only
     rw [← hM, hm, List.append_assoc]
     rfl
    ·dsimp only
     rw [List.length_append, List.length_drop, List.length_singleton]
     omega
    ·dsimp only
     rw [List.length_drop]
     omega
    ·dsimp only
     simp only [zxE, jH, jL, jFr, jA, jB, XlZ, zbl, z1G, Z97]
     refine Bt.selL 7 [0, 1, 2, 3, 4, 5, 6, 10] hh (by decide) (by decide) (by decide) (by decide) ?_ ?_
     ·simp only [q9C, FrSel, BlkSel, AV.ren, renL, AV.ok, okL, Option.some.injEq, exists_eq_left', List.length_cons, List.length_nil, Nat.reduceAdd, Nat.reduceLT, reduceCtorEq, implies_true, exists_eq', f1, f2, f3, f4, f5, f6, f7, w1, w2, w3, w4, w5, w6, w7, w8]
     ·simp only [q9C, FrSel, BlkSel, AV.ren, renL, AV.ok, okL, Option.some.injEq, exists_eq_left', List.length_cons, List.length_nil, Nat.reduceAdd, Nat.reduceLT, reduceCtorEq, implies_true, exists_eq', f1, f2, f3, f4, f5, f6, f7, w1, w2, w3, w4, w5, w6, w7, w8]
end Go.Proofs.YtfaccliekejngaaGreat
end
section
namespace Go.Proofs.YtfaccliekejngaaGreat
set_option maxRecDepth 100000
set_option maxHeartbeats 4000000
def Kep : List AV → List AB → Option (AV × List AB)
 | [a, b], h => if a.isSl = true ∧ b.isSl = true then some (.f (.func 137) [] [.p (h.length + 0) 0, .p (h.length + 1) 0], h ++ [.blk false true [a], .blk false true [b]]) else none
 | _, _ => none
theorem zUF : Spec Tryz.prog 100 Kep := by
 intro args h v h' e
 unfold Kep at e
 split at e
 ·rename_i a b
  split at e
  ·rename_i hs
   cases e
   refine FnAt.c (FnAt.run (by kernel_rfl) (T := ⟨[], []⟩) ⟨trivial, trivial⟩ Tryz.func100 qpp fun ho hh => ?_)
   unfold w100
   simp only [XH8, QN9, X1r, zVq, simprocAttr, Qwl hs.1, Qwl hs.2, YCL hs.1, YCL hs.2]
   exact Bt.eq rfl rfl
  ·cases e
 ·cases e
def ws1 : List AV → List Nat
 | .p id _ :: _ => [id]
 | _ => []
theorem Q5R (id o : Nat) (l : List AV) : ws1 (.p id o :: l) = [id] := _root_.id rfl
def zbr (v v' : List Int) (ds ds' : Dots) : List Int × Dots := fmO (XF1 v v' 16) (ds ++ ds')
noncomputable def K1J : List AV → List AB → Option (AV × List AB)
 | [.ag [s, t], .ag [s', t']], h => (getS intR h s).bind fun v => (getS dotR h t).bind fun ds => (getS intR h s').bind fun v' => (getS dotR h t').bind fun ds' =>
   if t.capOk = true ∧ t'.capOk = true then
    if KXy v ds ≠ 0 then some (.tu [.ag [.ns, .ns], .i .i64 (KXy v ds)], h)
    else if KXy v' ds' ≠ 0 then some (.tu [.ag [.ns, .ns], .i .i64 (KXy v' ds')], h)
    else if (zbr v v' ds ds').2.length ≤ 4096 then some (.tu [.ag [rsl intR h.length (zbr v v' ds ds').1, apS dotR (h.length + 1) (zbr v v' ds ds').2], .i .i64 0], h ++ [resB intR true (zbr v v' ds ds').1, resB dotR true (zbr v v' ds ds').2])
    else some (.tu [.ag [.ns, .ns], .i .i64 10], h)
   else none
 | _, _ => none
theorem YD9 : Spec Tryz.prog 54 K1J := by
 intro args h v h' e
 unfold K1J at e
 split at e
 ·rename_i s t s' t'
  obtain ⟨vs, hs, e⟩ := YI8 e
  obtain ⟨ds, ht, e⟩ := YI8 e
  obtain ⟨vs', hs', e⟩ := YI8 e
  obtain ⟨ds', ht', e⟩ := YI8 e
  split at e
  ·rename_i hcap
   by_cases hq : KXy vs ds = 0 ∧ KXy vs' ds' = 0
   ·obtain ⟨c1, c2⟩ := hq
    obtain ⟨a1, a2, a3⟩ := YIo c1
    obtain ⟨b1, b2, b3⟩ := YIo c2
    obtain ⟨j1, j2⟩ := QY8 c1 c2
    rw [if_neg (not_not_intro c1), if_neg (not_not_intro c2)] at e
    have cb : (if KXy vs ds = 0 then KXy vs' ds' else KXy vs ds) = 0 := by rw [if_pos c1]; exact c2
    have main : ∀ h : List AB, h.map AB.freeze = h → Rd intR h s vs → Rd dotR h t ds → Rd intR h s' vs' → Rd dotR h t' ds' → ∀ x : AV × List AB, (if (zbr vs vs' ds ds').2.length ≤ 4096 then x = (.tu [.ag [rsl intR h.length (zbr vs vs' ds ds').1, apS dotR (h.length + 1) (zbr vs vs' ds ds').2], .i .i64 0], h ++ [resB intR true (zbr vs vs' ds ds').1, resB dotR true (zbr vs vs' ds ds').2]) else x = (.tu [.ag [.ns, .ns], .i .i64 10], h)) → FnAt Tryz.prog 54 [.ag [s, t], .ag [s', t']] h x.1 x.2 := by
     intro h hz hs ht hs' ht' x hx
     refine FnAt.run (by kernel_rfl) (T := ⟨[⟨95, JMF KXy, fun _ => []⟩, ⟨100, Kep, fun _ => []⟩, ⟨101, qzP, ws1⟩, ⟨102, Z5V, ws1⟩, ⟨103, qMN, ws1⟩, ⟨104, XvB, ws1⟩], []⟩) ⟨⟨YaB KXy QMk, zUF, ZXC, Xxp, Xpz, Y1e, trivial⟩, trivial⟩ Tryz.func54 sw54 fun ho hh => ?_
     simp only [qMC, JAX, Bool.and_eq_true] at ho
     have f1 := hs.fx ho.1.1 (sz := 1) rfl
     have f2 := ht.fx ho.1.2.1 (sz := 2) rfl
     have f3 := hs'.fx ho.2.1.1 (sz := 1) rfl
     have f4 := ht'.fx ho.2.1.2.1 (sz := 2) rfl
     unfold w54
     simp only [XH8, QN9, X1r, zVq, simprocAttr, f1, f2, f3, f4, JMF, Kep, cb, ht.isSl, ht'.isSl, false_implies, decide_false]
     refine W_rf rfl (by simp only [X1r, zVq, simprocAttr]) rfl (by simp only [X1r, zVq, simprocAttr]; rfl) (Yxw h hz hh hs hs' ⟨ht, hcap.1, ho.1.2.1⟩ ⟨ht', hcap.2, ho.2.1.2.1⟩ ho.1.1 ho.2.1.1 (by omega)) (by rw [Yn6]; rfl) (by decide) ?_
     have hM := (Kom _ ds ds' rfl)
     have lM : (mrgD (ds.length + ds'.length) ds ds').length = ds.length + ds'.length := by rw [hM.length_eq, List.length_append]
     obtain ⟨n1, n2, n3⟩ := KR4 a1
     have lW : (qIk (qIk [] vs) vs').length ≤ 16 := by rw [z5S]; have := b1.1; omega
     have nW : ∀ n ∈ qIk (qIk [] vs) vs', n ≤ 1048576 := fun n hn => by
      simp only [qIk, jn, List.mem_map, List.mem_range] at hn
      obtain ⟨i, _, rfl⟩ := hn
      have q1 := qfs vs' (fun n hn => (b1.2.1 n hn).2) ((i + 1 : Nat) : Int)
      have q2 := qfs (qIk [] vs) n1 ((i + 1 : Nat) : Int)
      simp only [qIk, jn] at q2
      omega
     have l1 := a1.1
     have l2 := b1.1
     have g0 : (([] : List Int).length ≤ 1000000) = True := eq_true (Nat.zero_le _)
     have g1 : (vs.length ≤ 1000000) = True := eq_true (by omega)
     have g2 : (vs'.length ≤ 1000000) = True := eq_true (by omega)
     have g3 : ((qIk [] vs).length ≤ 1000000) = True := eq_true (by omega)
     have g4 : ((qIk [] vs).length ≤ maxLen) = True := eq_true (by unfold maxLen; omega)
     have g5 : ((qIk (qIk [] vs) vs').length ≤ maxLen) = True := eq_true (by unfold maxLen; omega)
     have g7 : ((mrgD (ds.length + ds'.length) ds ds').length ≤ maxLen) = True := eq_true (by rw [lM]; unfold maxLen; omega)
     have gc : ((qIk (qIk [] vs) vs').length ≤ 100000 ∧ (mrgD (ds.length + ds'.length) ds ds').length ≤ 100000 ∧ (∀ n ∈ qIk (qIk [] vs) vs', n ≤ 1048576) ∧ ∀ d ∈ mrgD (ds.length + ds'.length) ds ds', KG5 d) = True :=
      eq_true ⟨by omega, by rw [lM]; omega, nW, fun d hd => (List.mem_append.1 (hM.mem_iff.1 hd)).elim (a1.2.2 d) (b1.2.2 d)⟩
     have hA := zSD (mrgD (ds.length + ds'.length) ds ds') (qIk (qIk [] vs) vs', [])
     have hfm : zbr vs vs' ds ds' = bldO (qIk (qIk [] vs) vs') (ds ++ ds') := j1.symm
     unfold bldO at hfm
     rw [← j2] at hfm
     generalize mrgD (ds.length + ds'.length) ds ds' = M at *
     generalize hW0 : qIk (qIk [] vs) vs' = W0 at *
     generalize hR : absR (W0, []) M = R at *
     have hfm1 : (zbr vs vs' ds ds').1 = R.1.take (topI R.1 R.1.length) := by rw [hfm]; exact X0i _ _ (Nat.le_refl _)
     have hfm2 : (zbr vs vs' ds ds').2 = R.2 := by rw [hfm]
     have htr := X0i R.1 R.1.length (Nat.le_refl _)
     have hti := ZGW R.1 R.1.length
     have hlen : (K29 R.1 R.1.length).length = topI R.1 R.1.length := by
      rw [htr, List.length_take]
      omega
     simp only [List.length_nil] at hA
     have gA : (R.1.length ≤ maxLen) = True := eq_true (by unfold maxLen; omega)
     have gB : (R.2.length ≤ maxLen) = True := eq_true (by rw [lM] at hA; unfold maxLen; omega)
     rw [hfm1, hfm2] at hx
     by_cases hq : R.1 = W0
     ·have gq := eq_true hq
      by_cases h6 : R.2.length ≤ 4096
      ·have g6 : ((4096 : Int) < (R.2.length : Int)) = False := eq_false (by omega)
       rw [if_pos h6] at hx
       subst hx
       simp only [X1r, Z1D, zVq, simprocAttr, CO.tmps, Opd.tmps, optT, Nat.reducePow, Nat.reduceDiv, Nat.reduceMod, f1, f2, f3, f4, qzP, Z5V, qMN, XvB, g0, g1, g2, g3, g4, g5, g7, gc, hW0, hR, gq, gA, gB, g6, QNE hh, QZp hz, Kme, QNt, Y4t, XZt, zw7, XPg, QV1, zoL, AV.isNs, KGT, nsSl, Z45, Q5R, QOX, Qrq, Xev, KZm, zdI]
       rw [hq] at hlen hti ⊢
       rw [hlen]
       refine zmR (a := 10) (b := 11) hh hti ?_ (fun _ => ?_) (by decide) ?_ ?_ <;> rfl
      ·have g6 : ((4096 : Int) < (R.2.length : Int)) = True := eq_true (by omega)
       rw [if_neg h6] at hx
       subst hx
       simp only [X1r, Z1D, zVq, simprocAttr, CO.tmps, Opd.tmps, optT, Nat.reducePow, Nat.reduceDiv, Nat.reduceMod, f1, f2, f3, f4, qzP, Z5V, qMN, XvB, g0, g1, g2, g3, g4, g5, g7, gc, hW0, hR, gq, gA, gB, g6, QNE hh, QZp hz, Kme, QNt, Y4t, XZt, zw7, XPg, QV1, zoL, AV.isNs, KGT, nsSl, Z45, Q5R, QOX, Qrq, Xev, KZm, zdI]
       exact Bt.drop _ hh rfl (by simp [AV.ok, okL])
     ·have gq := eq_false hq
      by_cases h6 : R.2.length ≤ 4096
      ·have g6 : ((4096 : Int) < (R.2.length : Int)) = False := eq_false (by omega)
       rw [if_pos h6] at hx
       subst hx
       simp only [X1r, Z1D, zVq, simprocAttr, CO.tmps, Opd.tmps, optT, Nat.reducePow, Nat.reduceDiv, Nat.reduceMod, f1, f2, f3, f4, qzP, Z5V, qMN, XvB, g0, g1, g2, g3, g4, g5, g7, gc, hW0, hR, gq, gA, gB, g6, QNE hh, QZp hz, Kme, QNt, Y4t, XZt, zw7, XPg, QV1, zoL, AV.isNs, KGT, nsSl, Z45, Q5R, QOX, Qrq, Xev, KZm, zdI]
       rw [hlen]
       refine zmR (a := 11) (b := 12) hh hti ?_ (fun _ => ?_) (by decide) ?_ ?_ <;> rfl
      ·have g6 : ((4096 : Int) < (R.2.length : Int)) = True := eq_true (by omega)
       rw [if_neg h6] at hx
       subst hx
       simp only [X1r, Z1D, zVq, simprocAttr, CO.tmps, Opd.tmps, optT, Nat.reducePow, Nat.reduceDiv, Nat.reduceMod, f1, f2, f3, f4, qzP, Z5V, qMN, XvB, g0, g1, g2, g3, g4, g5, g7, gc, hW0, hR, gq, gA, gB, g6, QNE hh, QZp hz, Kme, QNt, Y4t, XZt, zw7, XPg, QV1, zoL, AV.isNs, KGT, nsSl, Z45, Q5R, QOX, Qrq, Xev, KZm, zdI]
       exact Bt.drop _ hh rfl (by simp [AV.ok, okL])
    by_cases h6 : (zbr vs vs' ds ds').2.length ≤ 4096
    ·rw [if_pos h6] at e
     cases e
     refine FnAt.c (FnAt.frz fun hz => ?_)
     rw [show h.length = (h.map AB.freeze).length from (List.length_map _).symm]
     exact main _ hz hs.frz ht.frz hs'.frz ht'.frz (_, _) (by rw [if_pos h6])
    ·rw [if_neg h6] at e
     cases e
     refine FnAt.c (FnAt.frz0 fun hz => ?_)
     exact main _ hz hs.frz ht.frz hs'.frz ht'.frz (_, _) (by rw [if_neg h6])
   ·have hn : (if KXy vs ds = 0 then KXy vs' ds' else KXy vs ds) ≠ 0 := by
     split
     ·rename_i c1
      exact fun c2 => hq ⟨c1, c2⟩
     ·assumption
    have he : v = .tu [.ag [.ns, .ns], .i .i64 (if KXy vs ds = 0 then KXy vs' ds' else KXy vs ds)] ∧ h' = h := by
     by_cases c1 : KXy vs ds = 0
     ·have c2 : KXy vs' ds' ≠ 0 := fun c2 => hq ⟨c1, c2⟩
      rw [if_neg (not_not_intro c1), if_pos c2] at e
      cases e
      rw [if_pos c1]
      exact ⟨rfl, rfl⟩
     ·rw [if_pos c1] at e
      cases e
      rw [if_neg c1]
      exact ⟨rfl, rfl⟩
    obtain ⟨rfl, rfl⟩ := he
    clear e
    refine FnAt.c (FnAt.run (by kernel_rfl) (T := ⟨[⟨95, JMF KXy, fun _ => []⟩], []⟩) ⟨⟨YaB KXy QMk, trivial⟩, trivial⟩ Tryz.func54 sw54 fun ho hh => ?_)
    simp only [qMC, JAX, Bool.and_eq_true] at ho
    have f1 := hs.fx ho.1.1 (sz := 1) rfl
    have f2 := ht.fx ho.1.2.1 (sz := 2) rfl
    have f3 := hs'.fx ho.2.1.1 (sz := 1) rfl
    have f4 := ht'.fx ho.2.1.2.1 (sz := 2) rfl
    have cb := eq_false hn
    unfold w54
    simp only [XH8, QN9, X1r, zVq, simprocAttr, f1, f2, f3, f4, JMF, cb, false_implies]
    exact Bt.drop _ hh rfl (by simp [AV.ok, okL])
  ·cases e
 ·cases e
noncomputable def Xo8 : List AV → List AB → Option (AV × List AB)
 | [.ag [s, t], .ag [s', t']], h => (getS intR h s).bind fun v => (getS dotR h t).bind fun ds => (getS intR h s').bind fun v' => (getS dotR h t').bind fun ds' =>
   if t.capOk = true ∧ t'.capOk = true then
    if KXy v ds ≠ 0 then some (.tu [.ag [.ns, .ns], .i .i64 (KXy v ds)], h)
    else if KXy v' ds' ≠ 0 then some (.tu [.ag [.ns, .ns], .i .i64 (KXy v' ds')], h)
    else if (zbr v v' ds ds').2.length ≤ 4096 then some (.tu [.ag [rsl intR h.length (zbr v v' ds ds').1, rsl dotR (h.length + 1) (zbr v v' ds ds').2], .i .i64 0], h ++ [resB intR true (zbr v v' ds ds').1, resB dotR true (zbr v v' ds ds').2])
    else some (.tu [.ag [.ns, .ns], .i .i64 10], h)
   else none
 | _, _ => none
theorem Ksu : Spec Tryz.prog 54 Xo8 := by
 intro args h v h' e
 unfold Xo8 at e
 split at e
 ·rename_i s t s' t'
  obtain ⟨vs, hs, e⟩ := YI8 e
  obtain ⟨ds, ht, e⟩ := YI8 e
  obtain ⟨vs', hs', e⟩ := YI8 e
  obtain ⟨ds', ht', e⟩ := YI8 e
  split at e
  ·rename_i hcap
   have key : ∀ v h', K1J [.ag [s, t], .ag [s', t']] h = some (v, h') → FnC Tryz.prog 54 [.ag [s, t], .ag [s', t']] h v h' := fun v h' q => YD9 _ _ _ _ q
   simp only [K1J, hs.get, ht.get, hs'.get, ht'.get, Option.bind_some] at key
   rw [if_pos hcap] at key
   split at e
   ·rename_i c
    cases e
    exact key _ _ (by rw [if_pos c])
   ·rename_i c
    split at e
    ·rename_i c2
     cases e
     exact key _ _ (by rw [if_neg c, if_pos c2])
    ·rename_i c2
     split at e
     ·rename_i c3
      cases e
      exact (key _ _ (by rw [if_neg c, if_neg c2, if_pos c3])).bt ZiY
     ·rename_i c3
      cases e
      exact key _ _ (by rw [if_neg c, if_neg c2, if_neg c3])
  ·cases e
 ·cases e
end Go.Proofs.YtfaccliekejngaaGreat
end
section
namespace Go.Proofs.YtfaccliekejngaaGreat
theorem chk0 (v : List Int) (ds : Dots) (c : KXy v ds = 0) : J6E v ds ∧ ds.length ≤ 4096 := ⟨(YIo c).1, (YIo c).2.1⟩
theorem qUj {v : List Int} (p : ∀ n ∈ v, 0 ≤ n) (ds : Dots) (r : Int) : ∀ i, maxC v ds r i = maxR v ds r i
 | 0 => (KT0 p r).symm
 | i + 1 => by
  unfold maxC maxR
  rw [qUj p ds r i]
theorem YQZ (v : List Int) (ds : Dots) (r : Int) : J6W KXy v ds r = qRf v ds r := by
 unfold J6W qRf
 by_cases c : KXy v ds = 0
 ·rw [if_neg (not_not_intro c), if_neg (not_not_intro c)]
  obtain ⟨h1, _, _⟩ := YIo c
  rw [qUj (fun n hn => (h1.2.1 n hn).1)]
  have := JMs v ds h1 r ds.length (Nat.le_refl _)
  by_cases hr : r < 1 ∨ 16 < r
  ·rw [if_pos hr, if_pos hr]
  ·rw [if_neg hr, if_neg hr]
   by_cases hm : maxR v ds r ds.length = 1048576
   ·rw [if_pos (by omega), if_pos hm]
   ·rw [if_neg (by omega), if_neg hm]
 ·rw [if_pos c, if_pos c]
theorem zUE : Spec Tryz.prog 70 zEW := by
 intro args h v h' e
 unfold zEW at e
 split at e
 ·rename_i s t a b
  refine XwF KXy chk0 QMk _ h v h' ?_
  simp only [q1S]
  rw [← e]
  congr 1
  funext v
  congr 1
  funext ds
  rw [decide_eq_decide.2 (and_congr_right fun c => J1s c (a, b))]
 ·cases e
theorem YEI : Spec Tryz.prog 50 Yh9 := by
 intro args h v h' e
 unfold Yh9 at e
 split at e
 ·refine zKX KXy QMk _ h v h' ?_
  simp only [Y6B, YQZ]
  exact e
 ·cases e
end Go.Proofs.YtfaccliekejngaaGreat
end
section
namespace Go.Proofs.YtfaccliekejngaaGreat
set_option maxRecDepth 100000
set_option maxHeartbeats 4000000
def zBP (v : List Int) (ds : List (Int × Int)) (y : Hd) : Prop := ¬ (KXy v ds = 0 ∧ YlY v ds y.1)
noncomputable instance (v : List Int) (ds : List (Int × Int)) (y : Hd) : Decidable (zBP v ds y) := Classical.propDecidable _
end Go.Proofs.YtfaccliekejngaaGreat
end
section
namespace Go.Proofs.YtfaccliekejngaaGreat
section
variable {α : Type} (q : α → α → Prop) [DecidableRel q]
def cmps : α → List α → List α
 | _, [] => []
 | p, x :: l => if q x p then cmps x l else x :: cmps x l
def cmpL : List α → List α
 | [] => []
 | x :: l => x :: cmps q x l
theorem Qfs : ∀ (l : List α) (p x : α), cmps q p (l ++ [x]) = if q x ((p :: l).getLast (by simp)) then cmps q p l else cmps q p l ++ [x]
 | [], p, x => rfl
 | y :: l, p, x => by
  have e := Qfs l y x
  simp only [List.cons_append, cmps, e, List.getLast_cons_cons]
  split <;> split <;> simp
theorem X5N (l : List α) (d : α) {n : Nat} (h0 : 0 < n) (h : n < l.length) : cmpL q (l.take (n + 1)) = if q (l.getD n d) (l.getD (n - 1) d) then cmpL q (l.take n) else cmpL q (l.take n) ++ [l.getD n d] := by
 cases l with
 | nil => cases h
 | cons a l =>
  obtain ⟨m, rfl⟩ : ∃ m, n = m + 1 := ⟨n - 1, by omega⟩
  have hm : m < l.length := by simpa using h
  have e1 : l.take (m + 1) = l.take m ++ [l.getD m d] := by
   rw [List.take_succ_eq_append_getElem hm, List.getD_eq_getElem?_getD, List.getElem?_eq_getElem hm]
   rfl
  have e2 : (a :: l).getD (m + 1) d = l.getD m d := by simp [List.getD_eq_getElem?_getD]
  have e3 : (a :: l).getD (m + 1 - 1) d = (a :: l.take m).getLast (by simp) := by
   rw [List.getLast_eq_getElem, Nat.add_sub_cancel, List.getD_eq_getElem?_getD]
   have hlen : (a :: l.take m).length - 1 = m := by simp; omega
   have : (a :: l.take m)[(a :: l.take m).length - 1]? = (a :: l)[m]? := by
    rw [hlen]
    cases m with
    | zero => rfl
    | succ m => simp
   rw [← this, List.getElem?_eq_getElem (by simp)]
   rfl
  rw [List.take_succ_cons, List.take_succ_cons, e1, e2, e3]
  simp only [cmpL]
  rw [Qfs]
  split <;> simp
theorem Xx4 : ∀ (l : List α) (p : α), (cmps q p l).length ≤ l.length
 | [], _ => Nat.le_refl _
 | x :: l, p => by
  have := Xx4 l x
  simp only [cmps]
  split <;> simp <;> omega
theorem Y2Q : ∀ l : List α, (cmpL q l).length ≤ l.length
 | [] => Nat.le_refl _
 | x :: l => by have := Xx4 q l x; simp only [cmpL, List.length_cons]; omega
theorem z69 (l : List α) (d : α) : ∀ n, n ≤ l.length → (∀ k, 0 < k → k < n → ¬ q (l.getD k d) (l.getD (k - 1) d)) → cmpL q (l.take n) = l.take n
 | 0, _, _ => by simp [cmpL]
 | n + 1, h, hk => by
  by_cases h0 : n = 0
  ·subst h0
   cases l with
   | nil => rfl
   | cons a l => rfl
  ·rw [X5N q l d (by omega) (by omega), if_neg (hk n (by omega) (by omega)), z69 l d n (by omega) fun k h1 h2 => hk k h1 (by omega)]
   rw [List.take_succ_eq_append_getElem (by omega : n < l.length), List.getD_eq_getElem?_getD, List.getElem?_eq_getElem (by omega)]
   rfl
structure CmpSt (l L : List α) (m i : Nat) : Prop where
 len : L.length = l.length
 pos : 0 < i
 lt : i < m
 le : m ≤ l.length
 hd : L.take i = cmpL q (l.take m)
 tl : L.drop (m - 1) = l.drop (m - 1)
theorem CmpSt.first (l : List α) (d : α) {k : Nat} (h0 : 0 < k) (h : k < l.length) (hk : ∀ j, 0 < j → j < k → ¬ q (l.getD j d) (l.getD (j - 1) d)) (hq : q (l.getD k d) (l.getD (k - 1) d)) : CmpSt q l l (k + 1) k :=
 ⟨rfl, h0, Nat.lt_succ_self _, h, by rw [X5N q l d h0 h, if_pos hq, z69 q l d k (by omega) hk], rfl⟩
theorem CmpSt.getD {l L : List α} {m i : Nat} (s : CmpSt q l L m i) (d : α) {j : Nat} (h : m - 1 ≤ j) : L.getD j d = l.getD j d := by
 have e := congrArg (fun z => z[j - (m - 1)]?) s.tl
 simp only [List.getElem?_drop] at e
 have : m - 1 + (j - (m - 1)) = j := by omega
 rw [this] at e
 rw [List.getD_eq_getElem?_getD, List.getD_eq_getElem?_getD, e]
theorem CmpSt.skip {l L : List α} {m i : Nat} (s : CmpSt q l L m i) (d : α) (h : m < l.length) (hq : q (l.getD m d) (l.getD (m - 1) d)) : CmpSt q l L (m + 1) i :=
 ⟨s.len, s.pos, Nat.lt_succ_of_lt s.lt, h, by rw [X5N q l d (by have := s.lt; omega) h, if_pos hq]; exact s.hd, by
  have e := congrArg (List.drop 1) s.tl
  rw [List.drop_drop, List.drop_drop] at e
  have h1 : m - 1 + 1 = m + 1 - 1 := by have := s.lt; omega
  rw [h1] at e
  exact e⟩
theorem CmpSt.keep {l L : List α} {m i : Nat} (s : CmpSt q l L m i) (d : α) (h : m < l.length) (hq : ¬ q (l.getD m d) (l.getD (m - 1) d)) : CmpSt q l (L.set i (l.getD m d)) (m + 1) (i + 1) := by
 have hl := s.len
 have hi := s.lt
 refine ⟨by rw [List.length_set]; exact hl, Nat.succ_pos _, by omega, h, ?_, ?_⟩
 ·rw [X5N q l d (by omega) h, if_neg hq, ← s.hd, List.take_succ_eq_append_getElem (by rw [List.length_set]; omega), List.getElem_set_self, List.take_set_of_le (Nat.le_refl _)]
 ·have e := congrArg (List.drop 1) s.tl
  rw [List.drop_drop, List.drop_drop] at e
  have h1 : m - 1 + 1 = m + 1 - 1 := by omega
  rw [h1] at e
  rw [List.drop_set_of_lt (by omega)]
  exact e
end
end Go.Proofs.YtfaccliekejngaaGreat
end
section
namespace Go.Proofs.YtfaccliekejngaaGreat
section
variable {α : Type} {r : Row α}
theorem JMO (l l' : List α) : r.cells (l ++ l') = r.cells l ++ r.cells l' := List.flatMap_append
theorem Zxt (l : List α) (i : Nat) (x : α) (h : i < l.length) : over (r.cells l) (i * r.sz) (r.f x) = r.cells (l.set i x) := by
 have e : i * r.sz + r.sz = (i + 1) * r.sz := (Nat.succ_mul i r.sz).symm
 unfold over
 rw [r.len, e, r.cells_take, r.cells_drop, List.set_eq_take_append_cons_drop, if_pos h, JMO, List.append_assoc]
 rfl
theorem JnR (n : Nat) (z : α) : r.cells (List.replicate n z) = (List.replicate n (r.f z)).flatten := by
 induction n with
 | zero => rfl
 | succ n ih =>
  rw [List.replicate_succ, List.replicate_succ, List.flatten_cons, ← ih]
  rfl
theorem ztR (l : List α) (i n : Nat) (z : α) (h : i + n = l.length) : over (r.cells l) (i * r.sz) (List.replicate n (r.f z)).flatten = r.cells (l.take i ++ List.replicate n z) := by
 have hl : (List.replicate n (r.f z)).flatten.length = n * r.sz := by rw [← JnR, r.cells_len, List.length_replicate]
 unfold over
 rw [hl, ← Nat.add_mul, h, r.cells_take, r.cells_drop, List.drop_length, JMO, JnR]
 exact List.append_nil _
theorem zzZ {h : List AB} {id : Nat} {l : List α} (hi : h[id]? = some (resB r true l)) {i : Nat} {x : α} (hl : i < l.length) (hx : (r.f x).all AV.flat = true) : stB h id (i * r.sz) (r.f x) = some (h.set id (resB r true (l.set i x))) := by
 have hle : i * r.sz + r.sz ≤ l.length * r.sz := by rw [← Nat.succ_mul]; exact Nat.mul_le_mul_right _ hl
 unfold resB at hi
 rw [if_neg (by omega)] at hi
 unfold stB
 rw [hi]
 dsimp only
 rw [if_pos ⟨by rw [r.len, r.cells_len]; exact hle, hx⟩, Zxt l i x hl]
 unfold resB
 rw [List.length_set, if_neg (by omega)]
theorem zQe {h : List AB} {id : Nat} {l : List α} (hi : h[id]? = some (resB r true l)) {i n : Nat} {z : α} (hl : i + n = l.length) (hn : 0 < n) (hz : (r.f z).all AV.flat = true) : stB h id (i * r.sz) (List.replicate n (r.f z)).flatten = some (h.set id (resB r true (l.take i ++ List.replicate n z))) := by
 have hlen : (List.replicate n (r.f z)).flatten.length = n * r.sz := by rw [← JnR, r.cells_len, List.length_replicate]
 unfold resB at hi
 rw [if_neg (by omega)] at hi
 unfold stB
 rw [hi]
 dsimp only
 have hall : (List.replicate n (r.f z)).flatten.all (wrOk true) = true := by
  rw [List.all_eq_true]
  intro x hx
  rw [List.mem_flatten] at hx
  obtain ⟨k, hk, hxk⟩ := hx
  rw [(List.mem_replicate.1 hk).2] at hxk
  exact List.all_eq_true.1 hz x hxk
 rw [if_pos ⟨by rw [hlen, ← Nat.add_mul, hl, r.cells_len]; exact Nat.le_refl _, hall⟩, ztR l i n z hl]
 unfold resB
 have e : (l.take i ++ List.replicate n z).length = l.length := by rw [List.length_append, List.length_take, List.length_replicate]; omega
 rw [e, if_neg (by omega)]
theorem JSB {h : List AB} {id : Nat} {m : Bool} {l : List α} (hi : h[id]? = some (resB r m l)) (h0 : 0 < l.length) (x : List AB) : XAh (h ++ x) id = some (r.cells l) := by
 unfold XAh
 rw [List.getElem?_append_left (List.getElem?_eq_some_iff.1 hi).1, hi]
 unfold resB
 rw [if_neg (by omega)]
theorem Z2r {h : List AB} {id o j : Nat} {m : Bool} {l : List α} (hi : h[id]? = some (resB r m l)) (hj : j < l.length) (ho : o = j * r.sz) (x : List AB) : ldV (h ++ x) (some r.sz) (.p id o) = some (.ag (r.f (l.getD j r.d))) := by
 subst ho
 have hle : j * r.sz + r.sz ≤ l.length * r.sz := by rw [← Nat.succ_mul]; exact Nat.mul_le_mul_right _ hj
 simp only [ldV, JSB hi (by omega : 0 < l.length), Option.bind_some]
 rw [if_pos (by rw [r.cells_len]; exact hle), r.cells_drop, List.drop_eq_getElem_cons hj, List.getD_eq_getElem?_getD, List.getElem?_eq_getElem hj]
 congr 2
 exact (List.take_left' (r.len _) : (r.f l[j] ++ r.cells (l.drop (j + 1))).take r.sz = r.f l[j])
theorem QTq {h : List AB} {id o j : Nat} {l : List α} (hi : h[id]? = some (resB r true l)) (hj : j < l.length) (ho : o = j * r.sz) {y : α} (hy : (r.f y).all AV.flat = true) (x : List AB) : stV (h ++ x) (some r.sz) (.p id o) (.ag (r.f y)) = some (h.set id (resB r true (l.set j y)) ++ x) := by
 subst ho
 have hlt := (List.getElem?_eq_some_iff.1 hi).1
 have hi2 : (h ++ x)[id]? = some (resB r true l) := by rw [List.getElem?_append_left hlt]; exact hi
 simp only [stV]
 rw [if_pos (r.len y), zzZ hi2 hj hy, List.set_append_left _ _ hlt]
end
end Go.Proofs.YtfaccliekejngaaGreat
end
section
namespace Go.Proofs.YtfaccliekejngaaGreat
set_option maxRecDepth 100000
set_option maxHeartbeats 4000000
def clrV (h : List AB) (z : List AV) : AV → Option (AV × List AB)
 | .ns => some (.tu [], h)
 | .se => some (.tu [], h)
 | .sl id off n _ _ => if n = 0 then some (.tu [], h) else (stB h id off ((List.replicate n z).flatten)).map (.tu [], ·)
 | _ => none
theorem Jss {T : Env} {fr : List AV} {h : List AB} (z : List AV) (x : Opd) : opR T (.clr z x) fr h = clrV h z (x.ev fr) := by
 show (match x.ev fr with | .ns => _ | .se => _ | .sl id off n _ _ => _ | _ => _) = _
 unfold clrV
 split <;> rfl
theorem zJG {h : List AB} {id i n : Nat} {l : List Dg} (hi : h[id]? = some (resB idR true l)) (hl : i + n = l.length) (hn : 0 < n) (c : Nat) (x : List AB) : clrV (h ++ x) (idR.f KFp) (.sl id (0 + i * 32) n c (some 32)) = some (.tu [], h.set id (resB idR true (l.take i ++ List.replicate n KFp)) ++ x) := by
 have hlt := (List.getElem?_eq_some_iff.1 hi).1
 have hi2 : (h ++ x)[id]? = some (resB idR true l) := by rw [List.getElem?_append_left hlt]; exact hi
 have := zQe (r := idR) hi2 hl hn (Ydx KFp)
 simp only [clrV]
 rw [if_neg (by omega), Nat.zero_add, show i * 32 = i * idR.sz from rfl, this, List.set_append_left _ _ hlt]
 rfl
theorem ZVj {h : List AB} {id i n : Nat} {L m : List Dg} (hlt : id < h.length) (hL : L.length = n) (hi : i ≤ n) (h0 : 0 < n) (ht : L.take i = m) : Bt Tryz.prog h.length [.sl id 0 i n (some 32)] (h.set id (resB idR true L) ++ []) [rsl idR id m] (h.set id (resB idR true m)) := by
 subst ht hL
 rw [List.append_nil]
 have hb := Bt.take (P := Tryz.prog) (p := h.length) (fr := [.sl id 0 i L.length (some 32)]) (h := h.set id (resB idR true L)) (i := id) (n := i) (m := true) (l := L) (List.getElem?_set_self hlt) hi
 rw [List.set_set] at hb
 refine hb.trans (Bt.wk ⟨?_, trivial⟩)
 have e : AV.sl id 0 i L.length (some 32) = cutS (rsl idR id L) i := by
  unfold rsl
  rw [if_neg (by omega)]
  rfl
 rw [e]
 exact Znx id hi
def cpI (l : List Dg) : List Dg := cmpL Eq l
theorem Js6 {h : List AB} {id : Nat} {B : AB} (e : h[id]? = some B) : h.set id B = h := by
 apply List.ext_getElem?
 intro j
 rw [List.getElem?_set]
 split
 ·rename_i hij
  subst hij
  first | rw [if_pos (List.getElem?_eq_some_iff.1 e).1, e] | rw [e]
 ·rfl
end Go.Proofs.YtfaccliekejngaaGreat
end
section
namespace Go.Proofs.YtfaccliekejngaaGreat
set_option maxRecDepth 100000
set_option maxHeartbeats 4000000
theorem KBo {c : Ctx} {k : List IT} {fr : List AV} {h : List AB} {len0 n anc : Nat} {past : List Pt} {d : Option Nat} {l : List DOp} (rs : List Nat) (vs : List AV) (v : AV) : W c (.dmk [] vs (some (v, QHx rs [] 0 h)) len0 n anc past d l :: k) fr h = (okL (fun i => decide (i < h.length)) vs = true ∧ HOk h ∧ indA len0 anc past [] past = true ∧ v.ok (qOk len0 h.length h.length anc past) = true ∧
      W c (.drw len0 (n + 1) (⟨n, h.length, h.length, seen len0 anc (JAW past) h.length, []⟩ :: past) l :: k) (put fr d v) h) := by
  rw [← ZRZ, quK]
  have e1 : (QHx rs [] 0 h).length = h.length := XDi _ _ _ _
  have e2 : Xxu [] (QHx rs [] 0 h) 0 h = h := by
    refine List.ext_getElem? fun i => ?_
    rw [Z7Q]
    split
    · rw [if_neg (by simp)]
    · rename_i hi
      rw [Nat.zero_add, List.getElem?_eq_none (by omega), List.getElem?_eq_none (by omega)]
  have e3 : (QHx rs [] 0 h).drop h.length = [] := List.drop_eq_nil_of_le (by omega)
  simp only [e1, e2, e3, List.all_nil, Nat.le_refl, true_and]
theorem Kdm {h : List AB} (hh : HOk h) {α : Type} {r : Row α} (id : Nat) (m : Bool) (L : List α)  : HOk (h.set id (resB r m L) ++ []) = True := by
 refine eq_true fun i B hB => ?_
 rw [List.append_nil] at hB ⊢
 rw [List.length_set]
 rw [List.getElem?_set] at hB
 split at hB
 ·split at hB
  ·cases hB
   unfold resB
   split
   ·rfl
   ·rfl
  ·cases hB
 ·exact hh i B hB
theorem YSK {h : List AB} (hh : HOk h) : HOk (h ++ []) = True := eq_true (by rw [List.append_nil]; exact hh)
theorem JdP {h : List AB} {id i n : Nat} {l : List Hd} (hi : h[id]? = some (resB qjO true l)) (hl : i + n = l.length) (hn : 0 < n) (c : Nat) (x : List AB) : clrV (h ++ x) (qjO.f ((0, 0), KFp)) (.sl id (0 + i * 34) n c (some 34)) = some (.tu [], h.set id (resB qjO true (l.take i ++ List.replicate n ((0, 0), KFp))) ++ x) := by
 have hlt := (List.getElem?_eq_some_iff.1 hi).1
 have hi2 : (h ++ x)[id]? = some (resB qjO true l) := by rw [List.getElem?_append_left hlt]; exact hi
 have := zQe (r := qjO) hi2 hl hn (XEe ((0, 0), KFp))
 simp only [clrV]
 rw [if_neg (by omega), Nat.zero_add, show i * 34 = i * qjO.sz from rfl, this, List.set_append_left _ _ hlt]
 rfl
theorem q5h {h : List AB} {id i n : Nat} {L m : List Hd} (hlt : id < h.length) (hL : L.length = n) (hi : i ≤ n) (h0 : 0 < n) (ht : L.take i = m) : Bt Tryz.prog h.length [.sl id 0 i n (some 34)] (h.set id (resB qjO true L) ++ []) [rsl qjO id m] (h.set id (resB qjO true m)) := by
 subst ht hL
 rw [List.append_nil]
 have hb := Bt.take (P := Tryz.prog) (p := h.length) (fr := [.sl id 0 i L.length (some 34)]) (h := h.set id (resB qjO true L)) (i := id) (n := i) (m := true) (l := L) (List.getElem?_set_self hlt) hi
 rw [List.set_set] at hb
 refine hb.trans (Bt.wk ⟨?_, trivial⟩)
 have e : AV.sl id 0 i L.length (some 34) = cutS (rsl qjO id L) i := by
  unfold rsl
  rw [if_neg (by omega)]
  rfl
 rw [e]
 exact Znx id hi
end Go.Proofs.YtfaccliekejngaaGreat
end
section
namespace Go.Proofs.YtfaccliekejngaaGreat
section
variable {va vb vc : List Int} {da db dc : Dots}
theorem QaH (a : NF va da) (b : NF vb db) : NF (zbr va vb da db).1 (zbr va vb da db).2 := NF.fm (Zdb a.rg b.rg)
theorem QoG (a : NF va da) (b : NF vb db) (d : Int × Int) : inC (zbr va vb da db).1 (zbr va vb da db).2 d ↔ inC va da d ∨ inC vb db d := by
 have := JRq (Zdb a.rg b.rg) d
 rw [JEt a.rg b.rg] at this
 exact this
theorem qNf (a : NF va da) : zbr va va da da = (va, da) := by
 have := (QaH a a).ext a fun d => by rw [QoG a a, or_self]
 exact this
end
end Go.Proofs.YtfaccliekejngaaGreat
end
