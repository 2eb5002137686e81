/- Part 20 of what the laws' proofs rest on. No condition. -/
import Derived.Test.YtbcpcjofkfgjoaaPg19
set_option linter.all false
section
namespace Go.Proofs.Ytbcpcjofkfgjoaa
set_option maxRecDepth 100000
set_option maxHeartbeats 4000000
instance (a b : Dg) : Decidable (KVT a b) := inferInstanceAs (Decidable (_ < _))
theorem q2S (x d : Dg) : (cmpG x d ≤ 0) ↔ ¬ KVT d x := by
 have q := ZtX d.l x.l
 unfold KVT cmpG
 omega
noncomputable def Z3I : List AV → List AB → Option (AV × List AB)
 | [s, a, .b b, .i .i64 m], h => JSG [s, .f (.func 47) [] [], a, .b b, .i .i64 m] h
 | _, _ => none
theorem ZAu : Spec Try.prog 30 Z3I := by
 intro args h v h' e
 unfold Z3I at e
 split at e
 ·rename_i s a b m
  unfold JSG at e
  obtain ⟨l, hs, e⟩ := Yc7 e
  obtain ⟨d, hd, e2⟩ := qe3 e
  subst hd
  split at e2
  ·rename_i hl
   obtain ⟨hl, hc⟩ := hl
   have key : ∀ {v : AV} {N h2 : List AB}, Zn8 h.length l d b m = (v, N) → h2 = h ++ N → FnAt Try.prog 30 [s, .ag (idR.f d), .b b, .i .i64 m] h v h2 := by
    intro v N h2 ev e3
    refine FnAt.run (by kernel_rfl) (T := ⟨[⟨46, JSG, fun _ => []⟩], []⟩) ⟨⟨YdN, trivial⟩, trivial⟩ Try.func30 sw30 fun ho hh => ?_
    simp only [Qlf, Bool.and_eq_true] at ho
    have f1 := hs.fx ho.1 (sz := 32) rfl
    have hl' := eq_true hl
    have hc' := eq_true hc
    unfold w30
    unfold Zn8 at ev
    by_cases g1 : m < 1 ∨ 100 < m
    ·have g1' := eq_true g1
     rw [if_pos g1] at ev
     cases ev
     rw [List.append_nil] at e3
     subst e3
     simp only [QZz, KkX, KtL, KED, Kg0, simprocAttr, CO.tmps, Opd.tmps, optT, Nat.reducePow, Nat.reduceDiv, Nat.reduceMod, f1, qQz, zAC, qsh, JSG, qnv, Option.bind_some, hl', hc', g1', XHZ]
     exact Bt.drop _ hh rfl rfl
    have g1' := eq_false g1
    rw [if_neg g1] at ev
    by_cases g2 : risD l
    ·have g2' := eq_true g2
     rw [if_neg (fun q => q g2)] at ev
     cases ev
     subst e3
     simp only [QZz, KkX, KtL, KED, Kg0, simprocAttr, CO.tmps, Opd.tmps, optT, Nat.reducePow, Nat.reduceDiv, Nat.reduceMod, f1, qQz, zAC, qsh, JSG, qnv, Option.bind_some, hl', hc', g1', g2', not_true_eq_false, XHZ]
     exact Bt.sel [1] hh (by decide) (by simp only [JsM, FrSel, BlkSel, AV.ren, renL, AV.ok, okL, Option.some.injEq, exists_eq_left', List.length_cons, List.length_nil, Nat.reduceAdd, Nat.reduceLT, reduceCtorEq, implies_true, exists_eq']) (by simp only [JsM, FrSel, BlkSel, AV.ren, renL, AV.ok, okL, Option.some.injEq, exists_eq_left', List.length_cons, List.length_nil, Nat.reduceAdd, Nat.reduceLT, reduceCtorEq, implies_true, exists_eq'])
    ·have g2' := eq_false g2
     rw [if_pos g2] at ev
     cases ev
     rw [List.append_nil] at e3
     subst e3
     simp only [QZz, KkX, KtL, KED, Kg0, simprocAttr, CO.tmps, Opd.tmps, optT, Nat.reducePow, Nat.reduceDiv, Nat.reduceMod, f1, qQz, zAC, qsh, JSG, qnv, Option.bind_some, hl', hc', g1', g2', not_false_eq_true, XHZ]
     exact Bt.drop _ hh rfl rfl
   refine FnAt.c ?_
   unfold Zn8 at key
   by_cases g1 : m < 1 ∨ 100 < m
   ·rw [if_pos g1] at e2
    cases e2
    exact key (by rw [if_pos g1]) (List.append_nil _).symm
   rw [if_neg g1] at e2
   by_cases g2 : risD l
   ·rw [if_neg (fun q => q g2)] at e2
    cases e2
    exact key (by rw [if_neg g1, if_neg (fun q => q g2)]) rfl
   ·rw [if_pos g2] at e2
    cases e2
    exact key (by rw [if_neg g1, if_pos g2]) (List.append_nil _).symm
  ·cases e2
 ·cases e
theorem KsB {a' a : AV} (h : Wk a' a) (x y : AV) : Wk (.tu [a', x, y]) (.tu [a, x, y]) := by
 intro ρ c hc
 cases hc with
 | tu l cs hl hv =>
  refine .tu _ _ hl fun j b c hb hcj => ?_
  match j, hb with
  | 0, hb => cases hb; exact h _ _ (hv 0 _ _ rfl hcj)
  | 1, hb => cases hb; exact hv 1 _ _ rfl hcj
  | 2, hb => cases hb; exact hv 2 _ _ rfl hcj
def zCz (b : Bool) (d : Dg) (l : List Dg) : List Dg := l.filter fun x => decide (b = false ∨ KVT d x)
theorem Y9T (b : Bool) (d : Dg) {l : List Dg} {i : Nat} (h : i < l.length) : zCz b d (l.take (i + 1)) = zCz b d (l.take i) ++ (if b = false ∨ KVT d (l.getD i YBZ) then [l.getD i YBZ] else []) := by
 unfold zCz
 rw [List.take_succ_eq_append_getElem h, List.filter_append, List.getD_eq_getElem?_getD, List.getElem?_eq_getElem h]
 simp only [Option.getD_some, List.filter_cons, List.filter_nil, decide_eq_true_eq]
theorem XYD (b : Bool) (d : Dg) (l : List Dg) (i : Nat) : (zCz b d (l.take i)).length ≤ i := by
 unfold zCz
 exact Nat.le_trans (List.length_filter_le _ _) (by rw [List.length_take]; omega)
theorem X9r (b : Bool) (d : Dg) (l : List Dg) (i : Nat) : ∃ r, zCz b d l = zCz b d (l.take i) ++ r := by
 refine ⟨zCz b d (l.drop i), ?_⟩
 unfold zCz
 rw [← List.filter_append, List.take_append_drop]
open Classical in
noncomputable def QNA (n : Nat) (l : List Dg) (d : Dg) (b : Bool) (m : Int) : AV × List AB :=
 if m < 1 ∨ 100 < m then (.tu [.ns, .b false, .i .i64 3], [])
 else if ¬ risD l then (.tu [.ns, .b false, .i .i64 25], [])
 else (.tu [rsl idR n ((zCz b d l).take m.toNat), .b (decide (m < ((zCz b d l).length : Int))), .i .i64 0], [resB idR true ((zCz b d l).take m.toNat)])
open Classical in
noncomputable def QD4 : List AV → List AB → Option (AV × List AB)
 | [s, a, .b b, .i .i64 m], h => (getS idR h s).bind fun l => (getI a).bind fun d => if l.length ≤ 1000000 then
   (if m < 1 ∨ 100 < m then some (.tu [.ns, .b false, .i .i64 3], h)
   else if ¬ risD l then some (.tu [.ns, .b false, .i .i64 25], h)
   else some (.tu [rsl idR h.length ((zCz b d l).take m.toNat), .b (decide (m < ((zCz b d l).length : Int))), .i .i64 0], h ++ [resB idR true ((zCz b d l).take m.toNat)]))
  else none
 | _, _ => none
theorem qLF {h : List AB} (hz : h.map AB.freeze = h) {s : AV} {l : List Dg} {d : Dg} {b : Bool} {m : Int} (hs : Rd idR h s l) (hl : l.length ≤ 1000000) {v : AV} {N h2 : List AB} (ev : QNA h.length l d b m = (v, N)) (e2 : h2 = h ++ N) :
  FnAt Try.prog 31 [s, .ag (idR.f d), .b b, .i .i64 m] h v h2 := by
 unfold QNA at ev
 refine FnAt.run (by kernel_rfl) (T := ⟨[⟨48, Zns, fun _ => []⟩], []⟩) ⟨⟨YWp, trivial⟩, trivial⟩ Try.func31 sw31 fun ho hh => ?_
 simp only [Qlf, Bool.and_eq_true] at ho
 have f1 := hs.fx ho.1 (sz := 32) rfl
 have fo : ∀ c, s.ok (fun i => decide (i < h.length + c)) = true := fun c => AV.ok_mono (fun i q => by simp only [decide_eq_true_eq] at q ⊢; omega) s ho.1
 have fr : ∀ sel, Wk (s.ren (selN h.length sel)) s := fun sel => Wk.ren (fun i hi => ZVh hi) ho.1
 unfold w31
 by_cases g1 : m < 1
 ·have g1' := eq_true g1
  rw [if_pos (.inl g1)] at ev
  cases ev
  rw [List.append_nil] at e2
  subst e2
  simp only [QZz, KkX, KtL, KED, Kg0, simprocAttr, CO.tmps, Opd.tmps, optT, Nat.reducePow, Nat.reduceDiv, Nat.reduceMod, zAC, qQz, f1, g1', false_implies, forall_const, and_true, true_and, not_true_eq_false, not_false_eq_true, XHZ]
  exact Bt.drop _ hh rfl rfl
 by_cases g2 : 100 < m
 ·have g1' := eq_false g1
  have g2' := eq_true g2
  rw [if_pos (.inr g2)] at ev
  cases ev
  rw [List.append_nil] at e2
  subst e2
  simp only [QZz, KkX, KtL, KED, Kg0, simprocAttr, CO.tmps, Opd.tmps, optT, Nat.reducePow, Nat.reduceDiv, Nat.reduceMod, zAC, qQz, f1, g1', g2', false_implies, forall_const, and_true, true_and, not_true_eq_false, not_false_eq_true, XHZ]
  exact Bt.drop _ hh rfl rfl
 have g1' := eq_false g1
 have g2' := eq_false g2
 rw [if_neg (fun q => q.elim g1 g2)] at ev
 simp only [QZz, KkX, KtL, KED, Kg0, simprocAttr, CO.tmps, Opd.tmps, optT, Nat.reducePow, Nat.reduceDiv, Nat.reduceMod, zAC, qQz, f1, g1', g2', false_implies, forall_const, and_true, true_and, not_true_eq_false, not_false_eq_true, XHZ]
 refine ZiF (S := Nat) (fun i => l.length + 1 - i) (fun i => [s] ++ tp 1 ++ [.b b, .i .i64 m] ++ tp 1 ++ [.p (h.length + 0) 0] ++ tp 5 ++ [.i .i64 i] ++ tp 54) (fun i => 1 ≤ i ∧ i ≤ l.length + 1 ∧ ∀ j, j + 1 < i → j + 1 < l.length → KVT (l.getD j YBZ) (l.getD (j + 1) YBZ)) 1 ⟨by omega, by omega, fun j hj => by omega⟩ (by simp only [KtL, Kg0, simprocAttr]) fun i hi => ?_
 obtain ⟨i0, i1, i2⟩ := hi
 by_cases g3 : i < l.length
 ·have e1 : IntKind.i64.wrap ((i : Int) + 1) = ((i + 1 : Nat) : Int) := qfU (by unfold In64; omega)
  have e2' : IntKind.i64.wrap ((i : Int) - 1) = ((i - 1 : Nat) : Int) := by rw [qfU (by unfold In64; omega)]; omega
  have g5 : i - 1 < l.length := by omega
  by_cases g6 : KVT (l.getD (i - 1) YBZ) (l.getD i YBZ)
  ·have g6' : (0 ≤ cmpG (l.getD (i - 1) YBZ) (l.getD i YBZ)) = False := eq_false (by unfold KVT at g6; omega)
   simp only [KtL, KED, Kg0, simprocAttr, CO.tmps, Opd.tmps, optT, Nat.reducePow, Nat.reduceDiv, Nat.reduceMod, f1, g3, g5, e1, e2', g6', Zns, qc0, qnv, Option.bind_some, qQz, qsh, zAC, JGP, Nat.zero_lt_one, Ja7 hh, YNX hz, zzR hz, QDS hz, false_implies, forall_const, and_true, true_and, not_true_eq_false, not_false_eq_true, XHZ]
   refine ⟨i + 1, ⟨by omega, by omega, fun j hj hjl => ?_⟩, by omega, Wk.refl _⟩
   by_cases hji : j + 1 = i
   ·obtain rfl : j = i - 1 := by omega
    rwa [show i - 1 + 1 = i by omega]
   ·exact i2 j (by omega) hjl
  ·have g6' : (0 ≤ cmpG (l.getD (i - 1) YBZ) (l.getD i YBZ)) = True := eq_true (by unfold KVT at g6; omega)
   simp only [KtL, KED, Kg0, simprocAttr, CO.tmps, Opd.tmps, optT, Nat.reducePow, Nat.reduceDiv, Nat.reduceMod, f1, g3, g5, e1, e2', g6', Zns, qc0, qnv, Option.bind_some, qQz, qsh, zAC, JGP, Nat.zero_lt_one, Ja7 hh, YNX hz, zzR hz, QDS hz, false_implies, forall_const, and_true, true_and, not_true_eq_false, not_false_eq_true, XHZ]
   rw [if_pos (Q6h (by omega) g3 g6)] at ev
   cases ev
   rw [List.append_nil] at e2
   subst e2
   exact Bt.drop _ hh rfl rfl
 have hr : risD l := fun j hj => i2 j (by omega) hj
 have g3' : ((i : Int) < (l.length : Int)) = False := eq_false (by omega)
 rw [if_neg (fun q => q hr)] at ev
 cases ev
 subst e2
 simp only [KtL, KED, Kg0, simprocAttr, CO.tmps, Opd.tmps, optT, Nat.reducePow, Nat.reduceDiv, Nat.reduceMod, f1, g3', false_implies, forall_const, and_true, true_and, not_true_eq_false, not_false_eq_true]
 refine zIs (S := Nat) (fun i => l.length - i) (fun i => [s] ++ tp 1 ++ [.b b, .i .i64 m] ++ tp 1 ++ [.p (h.length + 0) 0] ++ tp 6 ++ [apS idR (h.length + 1) (zCz b d (l.take i)), .i .i64 i] ++ tp 52) (fun i => h ++ [.blk true true (idR.f d), resB idR true (zCz b d (l.take i))]) (fun i => i ≤ l.length ∧ (zCz b d (l.take i)).length ≤ m.toNat) 0 ⟨Nat.zero_le _, by simp [zCz]⟩ ?_ fun i hi => ?_
 ·show Bt _ _ _ _ _ (h ++ ([.blk true true (idR.f d)] ++ List.replicate 1 .dead))
  rw [← List.append_assoc]
  refine Bt.trans (Bt.wk ?_) (Bt.pad _ _ 1)
  rw [show apS idR (h.length + 1) (zCz b d (l.take 0)) = .ns from rfl]
  simp only [KtL, Kg0, simprocAttr]
 ·obtain ⟨i1, i2⟩ := hi
  have ln := XYD b d l i
  by_cases g4 : i < l.length
  ·have g4' : ((i : Int) < (l.length : Int)) = True := eq_true (by omega)
   have e1 : IntKind.i64.wrap ((i : Int) + 1) = ((i + 1 : Nat) : Int) := qfU (by unfold In64; omega)
   have hst := Y9T b d g4
   by_cases hp : b = false ∨ KVT d (l.getD i YBZ)
   ·rw [if_pos hp] at hst
    cases b with
    | false =>
     by_cases g5 : (zCz false d (l.take i)).length = m.toNat
     ·have g5' : (((zCz false d (l.take i)).length : Int) = m) = True := eq_true (by omega)
      obtain ⟨r, hr2⟩ := X9r false d l (i + 1)
      rw [hst] at hr2
      have k1 : (zCz false d l).take m.toNat = zCz false d (l.take i) := by
       rw [hr2, ← g5, List.append_assoc, List.take_left]
      have k2 : m < ((zCz false d l).length : Int) := by
       rw [hr2, List.length_append, List.length_append, List.length_singleton]
       omega
      simp only [KtL, KED, Kg0, simprocAttr, CO.tmps, Opd.tmps, optT, Nat.reducePow, Nat.reduceDiv, Nat.reduceMod, f1, g4, g4', g5', e1, Zns, qc0, qnv, Option.bind_some, qQz, qsh, zAC, JGP, Nat.zero_lt_one, Ja7 hh, YNX hz, zzR hz, QDS hz, false_implies, forall_const, and_true, true_and, not_true_eq_false, not_false_eq_true, XHZ]
      rw [k1, decide_eq_true k2]
      refine Bt.trans (Bt.wk1 (KsB (JIF _ _) _ _)) ?_
      exact Bt.sel [1] hh (by decide) (by simp only [JsM, FrSel, BlkSel, AV.ren, renL, AV.ok, okL, Option.some.injEq, exists_eq_left', List.length_cons, List.length_nil, Nat.reduceAdd, Nat.reduceLT, reduceCtorEq, implies_true, exists_eq']) (by simp only [JsM, FrSel, BlkSel, AV.ren, renL, AV.ok, okL, Option.some.injEq, exists_eq_left', List.length_cons, List.length_nil, Nat.reduceAdd, Nat.reduceLT, reduceCtorEq, implies_true, exists_eq'])
     ·have g5' : (((zCz false d (l.take i)).length : Int) = m) = False := eq_false (by omega)
      by_cases hB : zCz false d (l.take i) = []
      ·rw [hB, List.nil_append] at hst
       have z3 : (1 * 32 ≤ 140737488355328 ∧ 1 ≤ maxLen) = True := eq_true ⟨by decide, by unfold maxLen; omega⟩
       have g5' : ((0 : Int) = m) = False := eq_false (by omega)
       simp only [QZz, KkX, hB, YtJ, KtL, KED, Kg0, simprocAttr, CO.tmps, Opd.tmps, optT, Nat.reducePow, Nat.reduceDiv, Nat.reduceMod, f1, g4, g4', g5', e1, z3, Zns, qc0, qnv, Option.bind_some, qQz, qsh, zAC, JGP, XqR, List.length_cons, List.length_nil, Nat.zero_lt_one, Ja7 hh, YNX hz, zzR hz, QDS hz, false_implies, forall_const, and_true, true_and, not_true_eq_false, not_false_eq_true, XHZ]
       refine ⟨i + 1, ⟨g4, by rw [hst]; simp; omega⟩, by dsimp only; omega, ?_⟩
       dsimp only
       rw [hst]
       simp only [Q8K, qLQ]
       exact Bt.sel [0, 3] hh (by decide) (by simp only [JsM, FrSel, BlkSel, AV.ren, renL, AV.ok, okL, Option.some.injEq, exists_eq_left', List.length_cons, List.length_nil, Nat.reduceAdd, Nat.reduceLT, reduceCtorEq, implies_true, exists_eq', fo, fr]) (by simp only [JsM, FrSel, BlkSel, AV.ren, renL, AV.ok, okL, Option.some.injEq, exists_eq_left', List.length_cons, List.length_nil, Nat.reduceAdd, Nat.reduceLT, reduceCtorEq, implies_true, exists_eq', fo, fr, XrS])
      ·have hlB : (zCz false d (l.take i)).length ≠ 0 := fun q => hB (List.eq_nil_of_length_eq_zero q)
       have gr : ∀ id, apS idR id (zCz false d (l.take i)) = rsl idR id (zCz false d (l.take i)) := fun id => Kte _ hlB
       have fa := fun L k ys hb => zWD (h := h) (p := h.length) rfl (r := idR) (sz := 32) rfl L k (zCz false d (l.take i)) 32 1 ys hlB hb (by decide) (by omega) (by unfold maxLen; omega)
       simp only [QZz, KkX, gr, KtL, KED, Kg0, simprocAttr, CO.tmps, Opd.tmps, optT, Nat.reducePow, Nat.reduceDiv, Nat.reduceMod, f1, g4, g4', g5', e1, fa, Zns, qc0, qnv, Option.bind_some, qQz, qsh, zAC, JGP, XqR, List.length_cons, List.length_nil, Nat.zero_lt_one, Ja7 hh, YNX hz, zzR hz, QDS hz, false_implies, forall_const, and_true, true_and, not_true_eq_false, not_false_eq_true, XHZ]
       refine ⟨i + 1, ⟨g4, by rw [hst, List.length_append, List.length_singleton]; omega⟩, by dsimp only; omega, ?_⟩
       dsimp only
       rw [hst]
       simp only [zUW, zNU]
       exact Bt.sel [0, 3] hh (by decide) (by simp only [JsM, FrSel, BlkSel, AV.ren, renL, AV.ok, okL, Option.some.injEq, exists_eq_left', List.length_cons, List.length_nil, Nat.reduceAdd, Nat.reduceLT, reduceCtorEq, implies_true, exists_eq', fo, fr]) (by simp only [JsM, FrSel, BlkSel, AV.ren, renL, AV.ok, okL, Option.some.injEq, exists_eq_left', List.length_cons, List.length_nil, Nat.reduceAdd, Nat.reduceLT, reduceCtorEq, implies_true, exists_eq', fo, fr, XrS])
    | true =>
     have hlt : (cmpG (l.getD i YBZ) d ≤ 0) = False := eq_false fun q => (q2S _ _).1 q (hp.resolve_left (by decide))
     by_cases g5 : (zCz true d (l.take i)).length = m.toNat
     ·have g5' : (((zCz true d (l.take i)).length : Int) = m) = True := eq_true (by omega)
      obtain ⟨r, hr2⟩ := X9r true d l (i + 1)
      rw [hst] at hr2
      have k1 : (zCz true d l).take m.toNat = zCz true d (l.take i) := by
       rw [hr2, ← g5, List.append_assoc, List.take_left]
      have k2 : m < ((zCz true d l).length : Int) := by
       rw [hr2, List.length_append, List.length_append, List.length_singleton]
       omega
      simp only [KtL, KED, Kg0, simprocAttr, CO.tmps, Opd.tmps, optT, Nat.reducePow, Nat.reduceDiv, Nat.reduceMod, f1, g4, g4', g5', hlt, e1, Zns, qc0, qnv, Option.bind_some, qQz, qsh, zAC, JGP, Nat.zero_lt_one, Ja7 hh, YNX hz, zzR hz, QDS hz, false_implies, forall_const, and_true, true_and, not_true_eq_false, not_false_eq_true, XHZ]
      rw [k1, decide_eq_true k2]
      refine Bt.trans (Bt.wk1 (KsB (JIF _ _) _ _)) ?_
      exact Bt.sel [1] hh (by decide) (by simp only [JsM, FrSel, BlkSel, AV.ren, renL, AV.ok, okL, Option.some.injEq, exists_eq_left', List.length_cons, List.length_nil, Nat.reduceAdd, Nat.reduceLT, reduceCtorEq, implies_true, exists_eq']) (by simp only [JsM, FrSel, BlkSel, AV.ren, renL, AV.ok, okL, Option.some.injEq, exists_eq_left', List.length_cons, List.length_nil, Nat.reduceAdd, Nat.reduceLT, reduceCtorEq, implies_true, exists_eq'])
     ·have g5' : (((zCz true d (l.take i)).length : Int) = m) = False := eq_false (by omega)
      by_cases hB : zCz true d (l.take i) = []
      ·rw [hB, List.nil_append] at hst
       have z3 : (1 * 32 ≤ 140737488355328 ∧ 1 ≤ maxLen) = True := eq_true ⟨by decide, by unfold maxLen; omega⟩
       have g5' : ((0 : Int) = m) = False := eq_false (by omega)
       simp only [QZz, KkX, hB, YtJ, KtL, KED, Kg0, simprocAttr, CO.tmps, Opd.tmps, optT, Nat.reducePow, Nat.reduceDiv, Nat.reduceMod, f1, g4, g4', g5', hlt, e1, z3, Zns, qc0, qnv, Option.bind_some, qQz, qsh, zAC, JGP, XqR, List.length_cons, List.length_nil, Nat.zero_lt_one, Ja7 hh, YNX hz, zzR hz, QDS hz, false_implies, forall_const, and_true, true_and, not_true_eq_false, not_false_eq_true, XHZ]
       refine ⟨i + 1, ⟨g4, by rw [hst]; simp; omega⟩, by dsimp only; omega, ?_⟩
       dsimp only
       rw [hst]
       simp only [Q8K, qLQ]
       exact Bt.sel [0, 3] hh (by decide) (by simp only [JsM, FrSel, BlkSel, AV.ren, renL, AV.ok, okL, Option.some.injEq, exists_eq_left', List.length_cons, List.length_nil, Nat.reduceAdd, Nat.reduceLT, reduceCtorEq, implies_true, exists_eq', fo, fr]) (by simp only [JsM, FrSel, BlkSel, AV.ren, renL, AV.ok, okL, Option.some.injEq, exists_eq_left', List.length_cons, List.length_nil, Nat.reduceAdd, Nat.reduceLT, reduceCtorEq, implies_true, exists_eq', fo, fr, XrS])
      ·have hlB : (zCz true d (l.take i)).length ≠ 0 := fun q => hB (List.eq_nil_of_length_eq_zero q)
       have gr : ∀ id, apS idR id (zCz true d (l.take i)) = rsl idR id (zCz true d (l.take i)) := fun id => Kte _ hlB
       have fa := fun L k ys hb => zWD (h := h) (p := h.length) rfl (r := idR) (sz := 32) rfl L k (zCz true d (l.take i)) 32 1 ys hlB hb (by decide) (by omega) (by unfold maxLen; omega)
       simp only [QZz, KkX, gr, KtL, KED, Kg0, simprocAttr, CO.tmps, Opd.tmps, optT, Nat.reducePow, Nat.reduceDiv, Nat.reduceMod, f1, g4, g4', g5', hlt, e1, fa, Zns, qc0, qnv, Option.bind_some, qQz, qsh, zAC, JGP, XqR, List.length_cons, List.length_nil, Nat.zero_lt_one, Ja7 hh, YNX hz, zzR hz, QDS hz, false_implies, forall_const, and_true, true_and, not_true_eq_false, not_false_eq_true, XHZ]
       refine ⟨i + 1, ⟨g4, by rw [hst, List.length_append, List.length_singleton]; omega⟩, by dsimp only; omega, ?_⟩
       dsimp only
       rw [hst]
       simp only [zUW, zNU]
       exact Bt.sel [0, 3] hh (by decide) (by simp only [JsM, FrSel, BlkSel, AV.ren, renL, AV.ok, okL, Option.some.injEq, exists_eq_left', List.length_cons, List.length_nil, Nat.reduceAdd, Nat.reduceLT, reduceCtorEq, implies_true, exists_eq', fo, fr]) (by simp only [JsM, FrSel, BlkSel, AV.ren, renL, AV.ok, okL, Option.some.injEq, exists_eq_left', List.length_cons, List.length_nil, Nat.reduceAdd, Nat.reduceLT, reduceCtorEq, implies_true, exists_eq', fo, fr, XrS])
   ·cases b with
    | false => exact absurd (.inl rfl) hp
    | true =>
     have hlt : (cmpG (l.getD i YBZ) d ≤ 0) = True := eq_true ((q2S _ _).2 fun q => hp (.inr q))
     rw [if_neg hp, List.append_nil] at hst
     simp only [KtL, KED, Kg0, simprocAttr, CO.tmps, Opd.tmps, optT, Nat.reducePow, Nat.reduceDiv, Nat.reduceMod, f1, g4, g4', hlt, e1, Zns, qc0, qnv, Option.bind_some, qQz, qsh, zAC, JGP, Nat.zero_lt_one, Ja7 hh, YNX hz, zzR hz, QDS hz, false_implies, forall_const, and_true, true_and, not_true_eq_false, not_false_eq_true, XHZ]
     refine ⟨i + 1, ⟨g4, by rw [hst]; exact i2⟩, by dsimp only; omega, ?_⟩
     dsimp only
     rw [hst]
     exact Bt.wk (by simp only [KtL, Kg0, simprocAttr])
  ·obtain rfl : i = l.length := by omega
   have g4' : ((l.length : Int) < (l.length : Int)) = False := eq_false (by omega)
   have hk : zCz b d (l.take l.length) = zCz b d l := by rw [List.take_length]
   rw [hk] at i2 ⊢
   simp only [KtL, KED, Kg0, simprocAttr, CO.tmps, Opd.tmps, optT, Nat.reducePow, Nat.reduceDiv, Nat.reduceMod, f1, g4', false_implies, forall_const, and_true, true_and, not_true_eq_false, not_false_eq_true, XHZ]
   rw [List.take_of_length_le i2, decide_eq_false (by omega : ¬ m < ((zCz b d l).length : Int))]
   refine Bt.trans (Bt.wk1 (KsB (JIF _ _) _ _)) ?_
   exact Bt.sel [1] hh (by decide) (by simp only [JsM, FrSel, BlkSel, AV.ren, renL, AV.ok, okL, Option.some.injEq, exists_eq_left', List.length_cons, List.length_nil, Nat.reduceAdd, Nat.reduceLT, reduceCtorEq, implies_true, exists_eq']) (by simp only [JsM, FrSel, BlkSel, AV.ren, renL, AV.ok, okL, Option.some.injEq, exists_eq_left', List.length_cons, List.length_nil, Nat.reduceAdd, Nat.reduceLT, reduceCtorEq, implies_true, exists_eq'])
theorem YeL : Spec Try.prog 31 QD4 := by
 intro args h v h' e
 unfold QD4 at e
 split at e
 ·rename_i s a b m
  obtain ⟨l, hs, e⟩ := Yc7 e
  obtain ⟨d, hd, e2⟩ := qe3 e
  subst hd
  split at e2
  ·rename_i hl
   by_cases g1 : m < 1 ∨ 100 < m
   ·rw [if_pos g1] at e2
    cases e2
    exact FnAt.c (FnAt.frz0 fun hz => qLF hz hs.frz hl (by unfold QNA; rw [if_pos g1]) (List.append_nil _).symm)
   rw [if_neg g1] at e2
   by_cases g2 : risD l
   ·rw [if_neg (fun q => q g2)] at e2
    cases e2
    refine FnAt.c (FnAt.frz fun hz => qLF hz hs.frz hl ?_ rfl)
    unfold QNA
    rw [if_neg g1, if_neg (fun q => q g2), List.length_map]
   ·rw [if_pos g2] at e2
    cases e2
    exact FnAt.c (FnAt.frz0 fun hz => qLF hz hs.frz hl (by unfold QNA; rw [if_neg g1, if_pos g2]) (List.append_nil _).symm)
  ·cases e2
 ·cases e
end Go.Proofs.Ytbcpcjofkfgjoaa
end
section
namespace Go.Proofs.Ytbcpcjofkfgjoaa
set_option maxRecDepth 100000
set_option maxHeartbeats 4000000
theorem zOu {l : List Dg} (hr : risD l) (d : Dg) (b : Bool) : XUo l d b = zCz b d l := by
 cases b with
 | false =>
  unfold XUo zCz
  exact (List.filter_eq_self.2 fun _ _ => decide_eq_true (.inl rfl)).symm
 | true =>
  unfold XUo
  rw [if_pos rfl]
  unfold posD bsD zCz
  rw [YVR (cf := cmpG) (dv := YBZ) (fun a b => ZtX _ _) (fun a b c => Zwh) (fun a b h => Dg.ext (Yfk h)) hr d]
  refine List.filter_congr fun x _ => ?_
  rw [decide_eq_decide]
  exact ⟨fun q => .inr q, fun q => q.resolve_left (by decide)⟩
theorem YTL {h : List AB} (hz : h.map AB.freeze = h) {s : AV} {l : List Dg} (hs : Rd idR h s l) (d : Dg) (b : Bool) (m : Int) :
  FnAt Try.prog 9 [s, .ag (idR.f d), .b b, .i .i64 m] h (.b true) h := by
 refine FnAt.run (by kernel_rfl) (T := ⟨[⟨11, KnP, fun _ => []⟩, ⟨30, Z3I, fun _ => []⟩, ⟨31, QD4, fun _ => []⟩, ⟨32, JdZ, fun _ => []⟩, ⟨33, KB9 idR, fun _ => []⟩], []⟩) ⟨⟨qJN, ZAu, YeL, YDy, JVD, trivial⟩, trivial⟩ Try.func9 sw9 fun ho hh => ?_
 simp only [Qlf, Bool.and_eq_true] at ho
 have f1 := hs.fx ho.1 (sz := 32) rfl
 have fs := hs.src (sz := 32) rfl
 unfold w9
 by_cases hL : (130 : Int) < l.length
 ·have g1 := eq_true hL
  simp only [QZz, KkX, KtL, KED, Kg0, simprocAttr, CO.tmps, Opd.tmps, optT, Nat.reducePow, Nat.reduceDiv, Nat.reduceMod, f1, zAC, qQz, KnP, g1, false_implies, forall_const, and_true, true_and, not_true_eq_false, not_false_eq_true]
  exact Bt.dropB _ hh rfl
 have g1 := eq_false hL
 have hl : l.length ≤ 130 := by omega
 have l1 : (l.length ≤ 1000000) = True := eq_true (by omega)
 have lm : (l.length ≤ maxLen) = True := eq_true (by unfold maxLen; omega)
 by_cases h0 : l.length = 0
 ·have hn : l = [] := List.eq_nil_of_length_eq_zero h0
  have ge : ∀ (x : List AB) id, getS idR x (.sl id 0 0 0 none) = some l := fun x id => (Rd.mk0 (r := idR) (l := l) (h := x) h0).get
  have cz : ∀ id, (AV.sl id 0 0 0 none).capOk = true := fun _ => rfl
  by_cases c1 : m < 1 ∨ 100 < m
  ·have c1' := eq_true c1
   simp only [QZz, KkX, KtL, KED, Kg0, simprocAttr, CO.tmps, Opd.tmps, optT, Nat.reducePow, Nat.reduceDiv, Nat.reduceMod, f1, fs, h0, ge, cz,  zrf, zAC, qQz, qsh, qnv, Option.bind_some, KnP, Z3I, QD4, JSG, JdZ, JF0, g1, l1, lm, c1', qhS, beq_self_eq_true, Ja7 hh, YNX hz, zzR hz, QDS hz, false_implies, forall_const, and_true, true_and, not_true_eq_false, not_false_eq_true, ne_eq]
   exact Bt.dropB _ hh rfl
  have c1' := eq_false c1
  by_cases c2 : risD l
  ·have c2' := eq_true c2
   have hk := zOu c2 d b
   have ln : (zCz b d l).length ≤ l.length := List.length_filter_le _ _
   have l2 : ((List.take m.toNat (zCz b d l)).length ≤ 1000000) = True := eq_true (by rw [List.length_take]; omega)
   have l3 : ((List.take m.toNat (zCz b d l)).length ≤ maxLen) = True := eq_true (by rw [List.length_take]; unfold maxLen; omega)
   simp only [QZz, KkX, KtL, KED, Kg0, simprocAttr, CO.tmps, Opd.tmps, optT, Nat.reducePow, Nat.reduceDiv, Nat.reduceMod, f1, fs, h0, ge, cz,  zrf, zAC, qQz, qsh, qnv, Option.bind_some, KnP, Z3I, QD4, JSG, JdZ, QDs, g1, l1, lm, c1', c2', hk, l2, l3, qhS, beq_self_eq_true, Ja7 hh, YNX hz, zzR hz, QDS hz, false_implies, forall_const, and_true, true_and, not_true_eq_false, not_false_eq_true, ne_eq]
   exact Bt.dropB _ hh rfl
  ·have c2' := eq_false c2
   simp only [QZz, KkX, KtL, KED, Kg0, simprocAttr, CO.tmps, Opd.tmps, optT, Nat.reducePow, Nat.reduceDiv, Nat.reduceMod, f1, fs, h0, ge, cz,  zrf, zAC, qQz, qsh, qnv, Option.bind_some, KnP, Z3I, QD4, JSG, JdZ, JF0, g1, l1, lm, c1', c2', qhS, beq_self_eq_true, Ja7 hh, YNX hz, zzR hz, QDS hz, false_implies, forall_const, and_true, true_and, not_true_eq_false, not_false_eq_true, ne_eq]
   exact Bt.dropB _ hh rfl
 ·have zb : (l.length * 32 ≤ 140737488355328) = True := eq_true (by omega)
  have gs : ∀ id, AV.sl id 0 l.length l.length (some 32) = rsl idR id l := fun id => by unfold rsl; rw [if_neg h0]; rfl
  have gb : AB.blk true true (idR.cells l) = resB idR true l := by unfold resB; rw [if_neg h0]
  by_cases c1 : m < 1 ∨ 100 < m
  ·have c1' := eq_true c1
   simp only [QZz, KkX, KtL, KED, Kg0, simprocAttr, CO.tmps, Opd.tmps, optT, Nat.reducePow, Nat.reduceDiv, Nat.reduceMod, f1, fs, h0, zb, gs, gb,  zrf, zAC, qQz, qsh, qnv, Option.bind_some, KnP, Z3I, QD4, JSG, JdZ, JF0, g1, l1, lm, c1', qhS, beq_self_eq_true, Ja7 hh, YNX hz, zzR hz, QDS hz, false_implies, forall_const, and_true, true_and, not_true_eq_false, not_false_eq_true, ne_eq]
   exact Bt.dropB _ hh rfl
  have c1' := eq_false c1
  by_cases c2 : risD l
  ·have c2' := eq_true c2
   have hk := zOu c2 d b
   have ln : (zCz b d l).length ≤ l.length := List.length_filter_le _ _
   have l2 : ((List.take m.toNat (zCz b d l)).length ≤ 1000000) = True := eq_true (by rw [List.length_take]; omega)
   have l3 : ((List.take m.toNat (zCz b d l)).length ≤ maxLen) = True := eq_true (by rw [List.length_take]; unfold maxLen; omega)
   simp only [QZz, KkX, KtL, KED, Kg0, simprocAttr, CO.tmps, Opd.tmps, optT, Nat.reducePow, Nat.reduceDiv, Nat.reduceMod, f1, fs, h0, zb, gs, gb,  zrf, zAC, qQz, qsh, qnv, Option.bind_some, KnP, Z3I, QD4, JSG, JdZ, QDs, g1, l1, lm, c1', c2', hk, l2, l3, qhS, beq_self_eq_true, Ja7 hh, YNX hz, zzR hz, QDS hz, false_implies, forall_const, and_true, true_and, not_true_eq_false, not_false_eq_true, ne_eq]
   exact Bt.dropB _ hh rfl
  ·have c2' := eq_false c2
   simp only [QZz, KkX, KtL, KED, Kg0, simprocAttr, CO.tmps, Opd.tmps, optT, Nat.reducePow, Nat.reduceDiv, Nat.reduceMod, f1, fs, h0, zb, gs, gb,  zrf, zAC, qQz, qsh, qnv, Option.bind_some, KnP, Z3I, QD4, JSG, JdZ, JF0, g1, l1, lm, c1', c2', qhS, beq_self_eq_true, Ja7 hh, YNX hz, zzR hz, QDS hz, false_implies, forall_const, and_true, true_and, not_true_eq_false, not_false_eq_true, ne_eq]
   exact Bt.dropB _ hh rfl
end Go.Proofs.Ytbcpcjofkfgjoaa
end
