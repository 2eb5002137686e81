/- Part 16 of what the laws' proofs rest on. No condition. -/
import Derived.Laws.RangeAny
import Derived.Test.YthhghdebjiiliaaDoorPl15
set_option linter.all false
section
namespace Go.Proofs.YthhghdebjiiliaaDoor
set_option maxRecDepth 100000
set_option maxHeartbeats 4000000
def runB {Q : Type} (step : Q → Int → Option Q) (ends : Q → Bool) : List UInt8 → Nat → Q → Option Nat
 | [], pos, q => if ends q then none else some pos
 | b :: l, pos, q => match (if b.toNat < 128 then step q b.toNat else none) with
  | none => some pos
  | some q' => runB step ends l (pos + 1) q'
theorem ZZA (x : List UInt8) : lenV (.s x) = some (x.length : Int) := _root_.id rfl
theorem KWu (x : List UInt8) : (AV.s x).isStr = true := _root_.id rfl
def fltA (e : Int) : Option Nat → AV
 | none => .ag [.i .i64 0, .i .i64 0]
 | some at' => .ag [.i .i64 e, .i .i64 at']
theorem YGo {l : List UInt8} {pos : Nat} (h : pos < l.length) (ha : ¬ (l[pos]).toNat < 128) : 128 ≤ (Utf8.decode ⟨l.toArray⟩ pos).1 := by
 have hs : pos < (⟨l.toArray⟩ : ByteArray).size := by simpa [ByteArray.size] using h
 exact (decode_high ⟨l.toArray⟩ pos hs (by show 128 ≤ (l[pos]).toNat; omega)).1
theorem ZFx {q : RQ} {c : Int} (h : 128 ≤ c) : ZpT q c = none := by
 have hw : zsl q.left c = none := by unfold zsl; rw [if_neg (by unfold lowP; omega)]
 unfold ZpT
 split
 ·exact hw
 ·rw [if_neg (by omega), if_neg (by omega), if_neg (by omega), if_neg (by omega), hw]
 ·rw [if_neg (by omega), hw]
 ·rw [if_neg (by omega), hw]
theorem KHt {q q' : RQ} {c : Int} (h : ZpT q c = some q') : q'.left ≤ q.left := by
 have hw : ∀ r, zsl q.left c = some r → r.left ≤ q.left := fun r e => by
  unfold zsl at e
  split at e
  ·cases e; exact Nat.le_refl _
  ·cases e
 unfold ZpT at h
 split at h
 ·exact hw _ h
 ·split at h
  ·cases h; exact Nat.sub_le _ _
  ·split at h
   ·cases h; exact Nat.le_refl _
   ·split at h
    ·cases h; exact Nat.le_refl _
    ·split at h
     ·cases h; exact Nat.le_refl _
     ·exact hw _ h
 ·split at h
  ·cases h; exact Nat.le_refl _
  ·exact hw _ h
 ·split at h
  ·cases h; exact Nat.le_refl _
  ·exact hw _ h
theorem qD5 {q q' : RQ} (h : stR q = stR q') : q = q' := by
 obtain ⟨n, k⟩ := q
 obtain ⟨n', k'⟩ := q'
 cases k <;> cases k' <;> simp [stR, fnR] at h ⊢ <;> omega
open Classical in
noncomputable def qAt (h : List AB) (j : Nat) : Option RQ := if hq : ∃ q : RQ, h[j]? = some (stR q) then some hq.choose else none
theorem zyj {h : List AB} {j : Nat} {q : RQ} (e : h[j]? = some (stR q)) : qAt h j = some q := by
 have hx : ∃ q : RQ, h[j]? = some (stR q) := ⟨q, e⟩
 have h1 : some (stR q) = some (stR hx.choose) := e.symm.trans hx.choose_spec
 unfold qAt
 exact (dif_pos hx).trans (congrArg some (qD5 (Option.some.inj h1)).symm)
theorem qYc {β : Type} {h : List AB} {j : Nat} {f : RQ → Option β} {b : β} (e : (qAt h j).bind f = some b) : ∃ q, h[j]? = some (stR q) ∧ f q = some b := by
 unfold qAt at e
 split at e
 ·rename_i hx
  exact ⟨_, hx.choose_spec, e⟩
 ·cases e
def YXy (q : RQ) : Bool := decide (q.k = .i)
noncomputable def qjf : List AV → List AB → Option (AV × List AB)
 | [.s s, .p j 0, .i .i64 e], h => (qAt h j).bind fun q => if q.left ≤ 1000 ∧ s.length ≤ 1000000 then some (fltA e (runB ZpT YXy s 0 q), h) else none
 | _, _ => none
theorem YNk (q : RQ) : (stR q).freeze = .blk false false [.f (.func (fnR q.k)) [.ag [.i .i64 q.left]] [], .b (decide (q.k = .i))] := _root_.id rfl
theorem Y0K {Q : Type} {step : Q → Int → Option Q} {ends : Q → Bool} {s : List UInt8} {pos : Nat} {q : Q} (h : pos < s.length) : runB step ends (s.drop pos) pos q = match (if (s[pos]).toNat < 128 then step q (s[pos]).toNat else none) with
  | none => some pos
  | some q' => runB step ends (s.drop (pos + 1)) (pos + 1) q' := by
 rw [List.drop_eq_getElem_cons h]
 rfl
theorem qk6 {Q : Type} {step : Q → Int → Option Q} (hbig : ∀ q c, 128 ≤ c → step q c = none) {s : List UInt8} {pos : Nat} (h : pos < s.length) (q : Q) :
  (if (s[pos]).toNat < 128 then step q (s[pos]).toNat else none) = step q ((Utf8.decode ⟨s.toArray⟩ pos).1 : Int) ∧ (∀ q', step q ((Utf8.decode ⟨s.toArray⟩ pos).1 : Int) = some q' → (Utf8.decode ⟨s.toArray⟩ pos).2 = 1) := by
 by_cases ha : (s[pos]).toNat < 128
 ·rw [if_pos ha, zbT h ha]
  exact ⟨rfl, fun _ _ => rfl⟩
 ·rw [if_neg ha]
  have := hbig q _ (show (128 : Int) ≤ ((Utf8.decode ⟨s.toArray⟩ pos).1 : Int) by have := YGo h ha; omega)
  exact ⟨this.symm, fun q' e => by rw [this] at e; cases e⟩
theorem KZu (k : RK) (a : List AV) (H : List AB) : (if 44 = fnR k then Jhc .w a H else if 51 = fnR k then Jhc .i a H else if 54 = fnR k then Jhc .s a H else if 55 = fnR k then Jhc .d a H else none) = Jhc k a H := by
 cases k <;> rfl
theorem ZGx {q : RQ} (hl : q.left ≤ 1000) (c : Int) (H : List AB) : Jhc q.k [.ag [.i .i64 q.left], .i .i32 c] H = ansR H (ZpT q c) := by
 show (if (0 : Int) ≤ (q.left : Int) ∧ (q.left : Int) ≤ 1000 then ansR H (ZpT ⟨((q.left : Int)).toNat, q.k⟩ c) else none) = _
 rw [if_pos (by omega), Int.toNat_natCast]
theorem QwO {h : List AB} (hz : h.map AB.freeze = h) {s : List UInt8} {j : Nat} {e : Int} {q0 : RQ} (hj : h[j]? = some (stR q0).freeze) (hl : q0.left ≤ 1000) (hs : s.length ≤ 1000000) :
  FnAt Tryd.prog 23 [.s s, .p j 0, .i .i64 e] h (fltA e (runB ZpT YXy s 0 q0)) h := by
 refine FnAt.run (by kernel_rfl) (T := ⟨[⟨44, Jhc .w, fun _ => []⟩, ⟨51, Jhc .i, fun _ => []⟩, ⟨54, Jhc .s, fun _ => []⟩, ⟨55, Jhc .d, fun _ => []⟩], []⟩) ⟨⟨QvU, qtf, QBk, Qrf, trivial⟩, trivial⟩ Tryd.func23 sw23 fun ho hh => ?_
 unfold w23
 have hjl := (List.getElem?_eq_some_iff.1 hj).1
 have hp : ∀ L : List AB, Za1 (h ++ L) j = some [.f (.func (fnR q0.k)) [.ag [.i .i64 q0.left]] [], .b (decide (q0.k = .i))] := fun L => by
  unfold Za1
  rw [List.getElem?_append_left hjl, hj, YNk]
 have lj0 : ∀ L : List AB, ldV (h ++ L) none (.p j 0) = some (.f (.func (fnR q0.k)) [.ag [.i .i64 q0.left]] []) := fun L => by
  simp only [ldV, hp, Option.bind_some]
  rfl
 have lj1 : ∀ L : List AB, ldV (h ++ L) none (.p j 1) = some (.b (decide (q0.k = .i))) := fun L => by
  simp only [ldV, hp, Option.bind_some]
  rfl
 have en0 : Jx5 .np .np = some true := rfl
 have en1 : ∀ a b, Jx5 (.p a b) .np = some false := fun _ _ => rfl
 have oj : ∀ c, (AV.p j 0).ok (fun i => decide (i < h.length + c)) = true := fun c => by simp [AV.ok]; omega
 simp only [JaE, Qv4, Zsy, qtN, qup, if_true, if_false, ↓reduceIte, Nat.reduceAdd, Nat.reduceSub, Nat.reduceLeDiff, Nat.reduceEqDiff, Nat.reduceMul, Nat.reduceLT, Int.reduceLT, Int.reduceLE, Int.reduceEq, CO.tmps, Opd.tmps, optT, Nat.reducePow, Nat.reduceDiv, Nat.reduceMod, Z7X]
 refine JRp (S := Nat × RQ) (fun σ => s.length - σ.1) (fun σ => [.s s, (if σ.1 = 0 then .p j 0 else .p (h.length + 2) 0), .i .i64 e] ++ tp 3 ++ [.p (h.length + 0) 0] ++ tp 3 ++ [.p (h.length + 1) 0] ++ tp 25) (fun σ => h ++ [.blk true true [.i .i64 0, .i .i64 0], itr s σ.1, (if σ.1 = 0 then .dead else stR σ.2)])
  (fun σ => σ.1 ≤ s.length ∧ σ.2.left ≤ 1000 ∧ (σ.1 = 0 → σ.2 = q0) ∧ runB ZpT YXy (s.drop σ.1) σ.1 σ.2 = runB ZpT YXy s 0 q0) (0, q0) ⟨Nat.zero_le _, hl, fun _ => rfl, rfl⟩ ?_ fun σ hσ => ?_
 ·show Bt _ _ _ _ _ (h ++ ([.blk true true [.i .i64 0, .i .i64 0], itr s 0] ++ List.replicate 1 .dead))
  rw [← List.append_assoc]
  refine Bt.trans (Bt.wk ?_) (Bt.pad _ _ 1)
  simp only [Zsy, qup, if_true, if_false, reduceIte, Nat.reduceAdd, Nat.reduceSub, Nat.reduceLeDiff, Nat.reduceEqDiff, Nat.reduceMul, Nat.reduceLT, Int.reduceLT, Int.reduceLE, Int.reduceEq]
 obtain ⟨pos, q⟩ := σ
 obtain ⟨h1, h2, h3, h4⟩ := hσ
 dsimp only at h1 h2 h3 h4 ⊢
 have hn : ∀ B : AB, nxV (h ++ [.blk true true [.i .i64 0, .i .i64 0], itr s pos, B]) (.p (h.length + 1) 0) = if pos < s.length then some (.tu [.b true, .i .i64 (pos : Int), .i .i32 ((Utf8.decode ⟨s.toArray⟩ pos).1 : Int)], h ++ [.blk true true [.i .i64 0, .i .i64 0], itr s (pos + (Utf8.decode ⟨s.toArray⟩ pos).2), B]) else some (.tu [.b false], h ++ [.blk true true [.i .i64 0, .i .i64 0], itr s pos, B]) := fun B => Zl5 _ 1 s pos rfl
 by_cases g : pos < s.length
 ·have hd := Y0K (step := ZpT) (ends := YXy) (q := q) g
  rw [h4] at hd
  by_cases p0 : pos = 0
  ·subst p0
   rw [h3 rfl] at hd
   simp only [if_true]
   obtain ⟨e1, e2⟩ := qk6 (step := ZpT) (fun _ _ => ZFx) g q0
   rw [e1] at hd
   have es := fun H => ZGx (q := q0) hl ((Utf8.decode ⟨s.toArray⟩ 0).1 : Int) H
   cases hst : ZpT q0 ((Utf8.decode ⟨s.toArray⟩ 0).1 : Int) with
   | none =>
    rw [hst] at hd
    dsimp only at hd
    simp only [JaE, Qv4, Zsy, qtN, qup, if_true, if_false, ↓reduceIte, Nat.reduceAdd, Nat.reduceSub, Nat.reduceLeDiff, Nat.reduceEqDiff, Nat.reduceMul, Nat.reduceLT, Int.reduceLT, Int.reduceLE, Int.reduceEq, CO.tmps, Opd.tmps, optT, Nat.reducePow, Nat.reduceDiv, Nat.reduceMod, Xq2, hn, g, lj0, KZu, es, hst, ansR, en0, en1, decide_true, decide_false, ne_eq, not_false_eq_true, not_true_eq_false, false_implies, forall_const, and_true, true_and]
    rw [hd]
    exact Bt.drop _ hh rfl rfl
   | some q' =>
    have e3 := e2 q' hst
    rw [hst] at hd
    dsimp only at hd
    simp only [JaE, Qv4, Zsy, qtN, qup, if_true, if_false, ↓reduceIte, Nat.reduceAdd, Nat.reduceSub, Nat.reduceLeDiff, Nat.reduceEqDiff, Nat.reduceMul, Nat.reduceLT, Int.reduceLT, Int.reduceLE, Int.reduceEq, CO.tmps, Opd.tmps, optT, Nat.reducePow, Nat.reduceDiv, Nat.reduceMod, Xq2, hn, g, lj0, KZu, es, hst, ansR, e3, en0, en1, decide_true, decide_false, ne_eq, not_false_eq_true, not_true_eq_false, false_implies, forall_const, and_true, true_and]
    refine ⟨(0 + 1, q'), ⟨g, Nat.le_trans (KHt hst) hl, (fun z => absurd z (Nat.succ_ne_zero _)), hd.symm⟩, by dsimp only; omega, ?_⟩
    dsimp only
    rw [if_neg (by decide), if_neg (by decide)]
    exact Bt.sel [0, 1, 3] hh (by decide) (by simp only [YmD, FrSel, BlkSel, AV.ren, renL, AV.ok, okL, Option.some.injEq, exists_eq_left', List.length_cons, List.length_nil, Nat.reduceAdd, Nat.reduceLT, reduceCtorEq, implies_true, exists_eq', oj, itr, stR, JYw, and_self]) (by simp only [YmD, FrSel, BlkSel, AV.ren, renL, AV.ok, okL, Option.some.injEq, exists_eq_left', List.length_cons, List.length_nil, Nat.reduceAdd, Nat.reduceLT, reduceCtorEq, implies_true, exists_eq'])
  ·simp only [p0, if_false]
   obtain ⟨e1, e2⟩ := qk6 (step := ZpT) (fun _ _ => ZFx) g q
   rw [e1] at hd
   have es := fun H => ZGx (q := q) h2 ((Utf8.decode ⟨s.toArray⟩ pos).1 : Int) H
   cases hst : ZpT q ((Utf8.decode ⟨s.toArray⟩ pos).1 : Int) with
   | none =>
    rw [hst] at hd
    dsimp only at hd
    simp only [JaE, Qv4, Zsy, qtN, qup, if_true, if_false, ↓reduceIte, Nat.reduceAdd, Nat.reduceSub, Nat.reduceLeDiff, Nat.reduceEqDiff, Nat.reduceMul, Nat.reduceLT, Int.reduceLT, Int.reduceLE, Int.reduceEq, CO.tmps, Opd.tmps, optT, Nat.reducePow, Nat.reduceDiv, Nat.reduceMod, Xq2, hn, g, stR, KZu, es, hst, ansR, en0, en1, decide_true, decide_false, ne_eq, not_false_eq_true, not_true_eq_false, false_implies, forall_const, and_true, true_and]
    rw [hd]
    exact Bt.drop _ hh rfl rfl
   | some q' =>
    have e3 := e2 q' hst
    rw [hst] at hd
    dsimp only at hd
    simp only [JaE, Qv4, Zsy, qtN, qup, if_true, if_false, ↓reduceIte, Nat.reduceAdd, Nat.reduceSub, Nat.reduceLeDiff, Nat.reduceEqDiff, Nat.reduceMul, Nat.reduceLT, Int.reduceLT, Int.reduceLE, Int.reduceEq, CO.tmps, Opd.tmps, optT, Nat.reducePow, Nat.reduceDiv, Nat.reduceMod, Xq2, hn, g, stR, KZu, es, hst, ansR, e3, en0, en1, decide_true, decide_false, ne_eq, not_false_eq_true, not_true_eq_false, false_implies, forall_const, and_true, true_and]
    refine ⟨(pos + 1, q'), ⟨g, Nat.le_trans (KHt hst) h2, (fun z => absurd z (Nat.succ_ne_zero _)), hd.symm⟩, by dsimp only; omega, ?_⟩
    dsimp only
    rw [if_neg (Nat.succ_ne_zero pos), if_neg (Nat.succ_ne_zero pos)]
    exact Bt.sel [0, 1, 3] hh (by decide) (by simp only [YmD, FrSel, BlkSel, AV.ren, renL, AV.ok, okL, Option.some.injEq, exists_eq_left', List.length_cons, List.length_nil, Nat.reduceAdd, Nat.reduceLT, reduceCtorEq, implies_true, exists_eq', oj, itr, stR, JYw, and_self]) (by simp only [YmD, FrSel, BlkSel, AV.ren, renL, AV.ok, okL, Option.some.injEq, exists_eq_left', List.length_cons, List.length_nil, Nat.reduceAdd, Nat.reduceLT, reduceCtorEq, implies_true, exists_eq'])
 ·have hpos : pos = s.length := by omega
  have hd : runB ZpT YXy s 0 q0 = if YXy q then none else some s.length := by
   rw [← h4, hpos, List.drop_length]
   rfl
  by_cases p0 : pos = 0
  ·have hq0 := h3 p0
   subst hq0
   subst p0
   simp only [if_true]
   have hq : runB ZpT YXy s 0 q = if YXy q then none else some s.length := hd
   cases he : YXy q with
   | true =>
    have he' : decide (q.k = RK.i) = true := he
    rw [he] at hq
    simp only [JaE, Qv4, Zsy, qtN, qup, if_true, if_false, ↓reduceIte, Nat.reduceAdd, Nat.reduceSub, Nat.reduceLeDiff, Nat.reduceEqDiff, Nat.reduceMul, Nat.reduceLT, Int.reduceLT, Int.reduceLE, Int.reduceEq, CO.tmps, Opd.tmps, optT, Nat.reducePow, Nat.reduceDiv, Nat.reduceMod, Xq2, hn, g, lj1, he', Jt3, Bool.not_true, Bool.not_false, ZZA, KWu, decide_true, decide_false, ne_eq, not_false_eq_true, not_true_eq_false, false_implies, forall_const, and_true, true_and]
    rw [hq]
    exact Bt.drop _ hh rfl rfl
   | false =>
    have he' : decide (q.k = RK.i) = false := he
    rw [he] at hq
    simp only [JaE, Qv4, Zsy, qtN, qup, if_true, if_false, ↓reduceIte, Nat.reduceAdd, Nat.reduceSub, Nat.reduceLeDiff, Nat.reduceEqDiff, Nat.reduceMul, Nat.reduceLT, Int.reduceLT, Int.reduceLE, Int.reduceEq, CO.tmps, Opd.tmps, optT, Nat.reducePow, Nat.reduceDiv, Nat.reduceMod, Xq2, hn, g, lj1, he', Jt3, Bool.not_true, Bool.not_false, ZZA, KWu, decide_true, decide_false, ne_eq, not_false_eq_true, not_true_eq_false, false_implies, forall_const, and_true, true_and]
    rw [hq]
    exact Bt.drop _ hh rfl rfl
  ·simp only [p0, if_false]
   have hq : runB ZpT YXy s 0 q0 = if YXy q then none else some s.length := hd
   cases he : YXy q with
   | true =>
    have he' : decide (q.k = RK.i) = true := he
    rw [he] at hq
    simp only [JaE, Qv4, Zsy, qtN, qup, if_true, if_false, ↓reduceIte, Nat.reduceAdd, Nat.reduceSub, Nat.reduceLeDiff, Nat.reduceEqDiff, Nat.reduceMul, Nat.reduceLT, Int.reduceLT, Int.reduceLE, Int.reduceEq, CO.tmps, Opd.tmps, optT, Nat.reducePow, Nat.reduceDiv, Nat.reduceMod, Xq2, hn, g, stR, he', Jt3, Bool.not_true, Bool.not_false, ZZA, KWu, decide_true, decide_false, ne_eq, not_false_eq_true, not_true_eq_false, false_implies, forall_const, and_true, true_and]
    rw [hq]
    exact Bt.drop _ hh rfl rfl
   | false =>
    have he' : decide (q.k = RK.i) = false := he
    rw [he] at hq
    simp only [JaE, Qv4, Zsy, qtN, qup, if_true, if_false, ↓reduceIte, Nat.reduceAdd, Nat.reduceSub, Nat.reduceLeDiff, Nat.reduceEqDiff, Nat.reduceMul, Nat.reduceLT, Int.reduceLT, Int.reduceLE, Int.reduceEq, CO.tmps, Opd.tmps, optT, Nat.reducePow, Nat.reduceDiv, Nat.reduceMod, Xq2, hn, g, stR, he', Jt3, Bool.not_true, Bool.not_false, ZZA, KWu, decide_true, decide_false, ne_eq, not_false_eq_true, not_true_eq_false, false_implies, forall_const, and_true, true_and]
    rw [hq]
    exact Bt.drop _ hh rfl rfl
theorem YkA : Spec Tryd.prog 23 qjf := by
 intro args h v h' e
 unfold qjf at e
 split at e
 ·rename_i s j e0
  obtain ⟨q, hq, e⟩ := qYc e
  split at e
  ·rename_i hc
   cases e
   refine FnAt.c (FnAt.frz0 fun hz => QwO hz ?_ hc.1 hc.2)
   rw [List.getElem?_map, hq]
   rfl
  ·cases e
 ·cases e
end Go.Proofs.YthhghdebjiiliaaDoor
end
section
namespace Go.Proofs.YthhghdebjiiliaaDoor
set_option maxRecDepth 100000
set_option maxHeartbeats 4000000
def Qyw : List AV → List AB → Option (AV × List AB)
 | [.s s, .i .i64 m], h => some (.tu [(if m < (s.length : Int) then .ag [.i .i64 4, .i .i64 m] else .ag [.i .i64 0, .i .i64 0]), .b (decide (m < (s.length : Int)))], h)
 | _, _ => none
theorem JFN : Spec Tryd.prog 29 Qyw := by
 intro args h v h' e
 unfold Qyw at e
 split at e
 ·rename_i s m
  cases e
  refine FnAt.c (FnAt.run (by kernel_rfl) (T := ⟨[], []⟩) ⟨trivial, trivial⟩ Tryd.func29 sw29 fun ho hh => ?_)
  unfold w29
  by_cases g : m < (s.length : Int)
  ·have g' := eq_true g
   simp only [JaE, Qv4, Zsy, qtN, qup, if_true, if_false, ↓reduceIte, Nat.reduceAdd, Nat.reduceSub, Nat.reduceLeDiff, Nat.reduceEqDiff, Nat.reduceMul, Nat.reduceLT, Int.reduceLT, Int.reduceLE, Int.reduceEq, CO.tmps, Opd.tmps, optT, Nat.reducePow, Nat.reduceDiv, Nat.reduceMod, g', ZZA, KWu, decide_true, decide_false, false_implies, forall_const, and_true, true_and, not_true_eq_false, not_false_eq_true]
   exact Bt.drop _ hh rfl rfl
  ·have g' := eq_false g
   simp only [JaE, Qv4, Zsy, qtN, qup, if_true, if_false, ↓reduceIte, Nat.reduceAdd, Nat.reduceSub, Nat.reduceLeDiff, Nat.reduceEqDiff, Nat.reduceMul, Nat.reduceLT, Int.reduceLT, Int.reduceLE, Int.reduceEq, CO.tmps, Opd.tmps, optT, Nat.reducePow, Nat.reduceDiv, Nat.reduceMod, g', ZZA, KWu, decide_true, decide_false, false_implies, forall_const, and_true, true_and, not_true_eq_false, not_false_eq_true]
   exact Bt.drop _ hh rfl rfl
 ·cases e
def J3B (s : List UInt8) : AV := if (128 : Int) < (s.length : Int) then .ag [.i .i64 4, .i .i64 128] else fltA 7 (runB ZpT YXy s 0 ⟨7, .w⟩)
theorem Xor (e : Int) (o : Option Nat) : ∃ a b, fltA e o = .ag [.i .i64 a, .i .i64 b] := by
 cases o <;> exact ⟨_, _, rfl⟩
noncomputable def qqY : List AV → List AB → Option (AV × List AB)
 | [.s s], h => if s.length ≤ 1000000 then some (J3B s, h) else none
 | _, _ => none
theorem JWp {h L : List AB} {k : Nat} {q : RQ} (e : L[k]? = some (stR q)) : qAt (h ++ L) (h.length + k) = some q := zyj (by rw [List.getElem?_append_right (by omega), Nat.add_sub_cancel_left]; exact e)
theorem Ytv : Spec Tryd.prog 13 qqY := by
 intro args h v h' e
 unfold qqY at e
 split at e
 ·rename_i s
  split at e
  ·rename_i hs
   cases e
   refine FnAt.c (FnAt.run (by kernel_rfl) (T := ⟨[⟨29, Qyw, fun _ => []⟩, ⟨30, Z6B, fun _ => []⟩, ⟨23, qjf, fun _ => []⟩], []⟩) ⟨⟨JFN, YMN, YkA, trivial⟩, trivial⟩ Tryd.func13 sw13 fun ho hh => ?_)
   unfold w13 J3B
   by_cases g : (128 : Int) < (s.length : Int)
   ·have g' := eq_true g
    simp only [JaE, Qv4, Zsy, qtN, qup, if_true, if_false, ↓reduceIte, Nat.reduceAdd, Nat.reduceSub, Nat.reduceLeDiff, Nat.reduceEqDiff, Nat.reduceMul, Nat.reduceLT, Int.reduceLT, Int.reduceLE, Int.reduceEq, CO.tmps, Opd.tmps, optT, Nat.reducePow, Nat.reduceDiv, Nat.reduceMod, Qyw, g', decide_true, decide_false, false_implies, forall_const, and_true, true_and, not_true_eq_false, not_false_eq_true, if_true]
    exact Bt.drop _ hh rfl rfl
   ·have g' := eq_false g
    have hp : ∀ H : List AB, Z6B [.ag [.i .i64 7]] H = some (.p H.length 0, H ++ [stR ⟨7, .w⟩]) := fun H => rfl
    have hq : ∀ B C : AB, qAt (h ++ [B, C, stR ⟨7, .w⟩]) (h.length + 2) = some ⟨7, .w⟩ := fun B C => JWp rfl
    have hs' := eq_true hs
    have h7 : (7 ≤ 1000) = True := eq_true (by decide)
    obtain ⟨a, b, hab⟩ := Xor 7 (runB ZpT YXy s 0 ⟨7, .w⟩)
    rw [if_neg g]
    simp only [JaE, Qv4, Zsy, qtN, qup, if_true, if_false, ↓reduceIte, Nat.reduceAdd, Nat.reduceSub, Nat.reduceLeDiff, Nat.reduceEqDiff, Nat.reduceMul, Nat.reduceLT, Int.reduceLT, Int.reduceLE, Int.reduceEq, CO.tmps, Opd.tmps, optT, Nat.reducePow, Nat.reduceDiv, Nat.reduceMod, Qyw, g', hp, qjf, hq, h7, hs', hab, decide_true, decide_false, false_implies, forall_const, and_true, true_and, not_true_eq_false, not_false_eq_true, if_false]
    exact Bt.drop _ hh rfl rfl
  ·cases e
 ·cases e
end Go.Proofs.YthhghdebjiiliaaDoor
end
section
namespace Go.Proofs.YthhghdebjiiliaaDoor
def goR : RQ → List UInt8 → Option RQ
 | q, [] => some q
 | q, b :: l => match (if b.toNat < 128 then ZpT q b.toNat else none) with
  | none => none
  | some q' => goR q' l
theorem Jnl (q : RQ) (b : UInt8) (l : List UInt8) : goR q (b :: l) = (if b.toNat < 128 then ZpT q b.toNat else none).bind (goR · l) := by
 conv => lhs; unfold goR
 cases (if b.toNat < 128 then ZpT q b.toNat else none) <;> rfl
theorem Qhs : ∀ (q : RQ) (a b : List UInt8), goR q (a ++ b) = (goR q a).bind (goR · b)
 | q, [], b => rfl
 | q, x :: a, b => by
  rw [List.cons_append, Jnl, Jnl]
  cases (if x.toNat < 128 then ZpT q x.toNat else none) with
  | none => rfl
  | some q' => exact Qhs q' a b
theorem Qyf : ∀ (s : List UInt8) (pos : Nat) (q : RQ), runB ZpT YXy s pos q = none ↔ ∃ q', goR q s = some q' ∧ q'.k = .i
 | [], pos, q => by
  unfold runB goR YXy
  by_cases h : q.k = .i
  ·rw [if_pos (decide_eq_true h)]
   exact ⟨fun _ => ⟨q, rfl, h⟩, fun _ => rfl⟩
  ·rw [if_neg (by rw [decide_eq_false h]; decide)]
   exact ⟨fun e => (by cases e), fun ⟨q', e, h'⟩ => absurd (Option.some.inj e ▸ h') h⟩
 | b :: l, pos, q => by
  unfold runB goR
  cases (if b.toNat < 128 then ZpT q b.toNat else none) with
  | none => exact ⟨fun e => (by cases e), fun ⟨q', e, _⟩ => (by cases e)⟩
  | some q' => exact Qyf l (pos + 1) q'
def slN : List UInt8 → Nat
 | [] => 0
 | b :: l => (if b = 47 then 1 else 0) + slN l
def zHE (s : List UInt8) : Bool := decide (s.length ≤ 128) && (runB ZpT YXy s 0 ⟨7, .w⟩).isNone
theorem XhY (s : List UInt8) : zHE s = true ↔ s.length ≤ 128 ∧ ∃ q', goR ⟨7, .w⟩ s = some q' ∧ q'.k = .i := by
 unfold zHE
 rw [Bool.and_eq_true, decide_eq_true_eq, Option.isNone_iff_eq_none, Qyf]
theorem Z8Q : ∀ (s : List UInt8) (pos : Nat) (q : RQ) (p : Nat), runB ZpT YXy s pos q = some p → ∃ a r q1, s = a ++ r ∧ p = pos + a.length ∧ goR q a = some q1 ∧ ((r = [] ∧ q1.k ≠ .i) ∨ ∃ b r', r = b :: r' ∧ (if b.toNat < 128 then ZpT q1 b.toNat else none) = none)
 | [], pos, q, p, h => by
  unfold runB YXy at h
  split at h
  ·cases h
  ·rename_i hq
   cases h
   exact ⟨[], [], q, rfl, rfl, rfl, .inl ⟨rfl, fun e => hq (decide_eq_true e)⟩⟩
 | b :: l, pos, q, p, h => by
  unfold runB at h
  cases hb : (if b.toNat < 128 then ZpT q b.toNat else none) with
  | none =>
   rw [hb] at h
   cases h
   exact ⟨[], b :: l, q, rfl, rfl, rfl, .inr ⟨b, l, rfl, hb⟩⟩
  | some q' =>
   rw [hb] at h
   obtain ⟨a, r, q1, rfl, h2, h3, h4⟩ := Z8Q l (pos + 1) q' p h
   exact ⟨b :: a, r, q1, rfl, by rw [h2, List.length_cons]; omega, by rw [Jnl, hb, Option.bind_some]; exact h3, h4⟩
theorem ZKT : ∀ (a : List UInt8) (pos : Nat) (q q1 : RQ) (b : UInt8) (r : List UInt8), goR q a = some q1 → (if b.toNat < 128 then ZpT q1 b.toNat else none) = none → runB ZpT YXy (a ++ b :: r) pos q = some (pos + a.length)
 | [], pos, q, q1, b, r, h, hb => by
  unfold goR at h
  cases h
  show runB ZpT YXy (b :: r) pos q = _
  unfold runB
  rw [hb]
  rfl
 | x :: a, pos, q, q1, b, r, h, hb => by
  rw [Jnl] at h
  obtain ⟨q', h1, h2⟩ := Option.bind_eq_some_iff.1 h
  rw [List.cons_append]
  unfold runB
  rw [h1]
  dsimp only
  rw [ZKT a (pos + 1) q' q1 b r h2 hb, List.length_cons]
  congr 1
  omega
theorem q8y (q : RQ) : ZpT q ((48 : UInt8).toNat : Int) = some ⟨q.left, .i⟩ := by
 obtain ⟨n, k⟩ := q
 have hw : zsl n 48 = some ⟨n, .i⟩ := if_pos (by unfold lowP; omega)
 show ZpT ⟨n, k⟩ 48 = _
 cases k
 ·exact hw
 ·simp only [ZpT]; rw [if_neg (by omega), if_neg (by decide), if_neg (by decide), if_neg (by decide), hw]
 ·simp only [ZpT]; rw [if_neg (by decide), hw]
 ·simp only [ZpT]; rw [if_neg (by decide), hw]
theorem qJp {a : List UInt8} {q1 : RQ} (h : goR ⟨7, .w⟩ a = some q1) (hl : a.length ≤ 127) : zHE (a ++ [48]) = true := by
 rw [XhY]
 refine ⟨by rw [List.length_append]; simp; omega, ⟨q1.left, .i⟩, ?_, rfl⟩
 rw [Qhs, h, Option.bind_some, Jnl, if_pos (by decide), q8y, Option.bind_some]
 rfl
theorem qBO {s : List UInt8} {p : Nat} (hl : s.length ≤ 60) (h : runB ZpT YXy s 0 ⟨7, .w⟩ = some p) : p ≤ s.length ∧ zHE (s.take p ++ [48]) = true ∧ (p < s.length → ∀ t, runB ZpT YXy (s ++ t) 0 ⟨7, .w⟩ = some p) := by
 obtain ⟨a, r, q1, rfl, h2, h3, h4⟩ := Z8Q s 0 _ p h
 rw [Nat.zero_add] at h2
 subst h2
 rw [List.length_append] at hl ⊢
 refine ⟨by omega, ?_, fun hp t => ?_⟩
 ·rw [List.take_left']
  ·exact qJp h3 (by omega)
  ·rfl
 ·rcases h4 with ⟨rfl, _⟩ | ⟨b, r', rfl, hb⟩
  ·simp at hp
  ·rw [List.append_assoc, List.cons_append, ZKT a 0 _ q1 b _ h3 hb, Nat.zero_add]
theorem Jtf (s : List UInt8) : ∃ a b, J3B s = .ag [.i .i64 a, .i .i64 b] ∧ JmA [CK.i, CK.i] [.i .i64 a, .i .i64 b] [.i .i64 0, .i .i64 0] = some (zHE s) := by
 unfold J3B zHE
 by_cases h : (128 : Int) < (s.length : Int)
 ·rw [if_pos h, decide_eq_false (by omega)]
  exact ⟨4, 128, rfl, rfl⟩
 ·rw [if_neg h, decide_eq_true (by omega)]
  cases runB ZpT YXy s 0 ⟨7, .w⟩ with
  | none => exact ⟨0, 0, rfl, rfl⟩
  | some p => exact ⟨7, p, rfl, by simp [JmA, YZb]⟩
end Go.Proofs.YthhghdebjiiliaaDoor
end
section
namespace Go.Proofs.YthhghdebjiiliaaDoor
set_option maxRecDepth 100000
set_option maxHeartbeats 4000000
theorem emT (p : Prop) : (p ∧ p = True) ∨ (¬ p ∧ p = False) := by
 by_cases h : p
 ·exact .inl ⟨h, eq_true h⟩
 ·exact .inr ⟨h, eq_false h⟩
end Go.Proofs.YthhghdebjiiliaaDoor
end
section
namespace Go.Proofs.YthhghdebjiiliaaDoor
open Go.RowKit Go.Lib
def isPr (c : Int) : Bool := (Lib.propertiesTab.getD c.toNat 0).toNat &&& 128 != 0
theorem Xco (q : Nat) : ((q : Int) != 0) = (q != 0) := by
 by_cases hq : q = 0
 ·subst hq; rfl
 ·have h1 : ((q : Int) != 0) = true := by simp; omega
  have h2 : (q != 0) = true := by simp; omega
  rw [h1, h2]
set_option maxHeartbeats 2000000 in
set_option maxRecDepth 1000000 in
theorem qlA (c : Nat) (w : World) (hc : c < 256) (hcell : w.cell? ⟨0, c, none⟩ = some (.int .u8 (Lib.propertiesTab.getD c 0))) :
  Calls Tryd.prog 35 #[.int .i32 c] w fun e w' => e = .returned (.bool (isPr c)) ∧ w' = w := by
 obtain ⟨-, -, -, p4, p5⟩ := Lib.props_all ⟨c, hc⟩
 simp only at p4 p5
 unfold isPr
 rw [Int.toNat_natCast]
 generalize Lib.propertiesTab.getD c 0 = pv at *
 have hand : bits .and .u8 pv 128 = ((pv.toNat &&& 128 : Nat) : Int) := u8_and pv 128 p4 p5 (by decide) (by decide)
 generalize pv.toNat &&& 128 = q at *
 have hcz : (c : Int) ≤ 255 := by omega
 have hcz2 : (c : Int) < 256 := by omega
 go_enter Tryd.func35, Tryd.ntmps35
 go_wp2
 all_goals (go_ret; refine ⟨congrArg Ending.returned ?_, rfl⟩; show Value.bool _ = Value.bool _; refine congrArg Value.bool ?_; exact Xco q)
theorem QGp {N : Nat} {w : World} (g : GG N w) {c : Nat} (hc : c < 256) : w.cell? ⟨0, c, none⟩ = some (.int .u8 (Lib.propertiesTab.getD c 0)) := by
 obtain ⟨_, _, cs, e, fz, h1, h2⟩ := g
 unfold World.cell?
 simp only [h1, Option.isSome_none, Bool.false_eq_true, if_false]
 exact h2 c hc
theorem Jzl {h : List AB} (c : Nat) (hc : c < 256) : FnC Tryd.prog 35 [.i .i32 c] h (.b (isPr c)) h := by
 refine ⟨⟨_, _, Tryd.func35, by decide, rfl⟩, fun ρ w vals hr hv => ?_⟩
 obtain ⟨N, g⟩ := hr.gl.some
 obtain ⟨hs, hvv⟩ := hv
 obtain ⟨l⟩ := vals
 match l, hs, hvv with
 | [x], _, hvv =>
  have hx := hvv 0 _ x rfl rfl
  cases hx
  refine (qlA c w hc (QGp g hc)).mono ?_
  rintro e' w' ⟨rfl, rfl⟩
  exact ⟨_, ρ, rfl, .b _, hr, (Eff.refl ρ h w').p (Ext.refl _) (by rw [hr.len]; exact Nat.le_refl _)⟩
def QWi (args : List AV) (_ : GT) (_ : Nat) : Option (AV × HE) :=
 match args with
 | [.i .i32 c] => match c with
  | .ofNat n => match Nat.blt n 256 with
   | true => some (.b (isPr (.ofNat n)), .z)
   | false => none
  | .negSucc _ => none
 | _ => none
theorem Zqv : NvOk Tryd.prog 35 QWi := fun args g h v e hg q => by
 unfold QWi at q
 split at q
 ·split at q
  ·rename_i n
   split at q
   ·rename_i hn
    cases q
    exact ⟨Jzl n (by rw [Nat.blt_eq] at hn; exact hn), trivial⟩
   ·cases q
  ·cases q
 ·cases q
end Go.Proofs.YthhghdebjiiliaaDoor
end
section
namespace Go.Proofs.YthhghdebjiiliaaDoor
def tl0 : List (Option TC) := [none, none, none, none, some (.cf w4), none, none, none, some (.cf w8), some (.cf w9), none, some (.cf w11), none, some (.cf w13), some (.cf w14), some (.cf w15)]
theorem ta0 : AllN Tryd.prog 0 tl0 := (AllN.skip (AllN.skip (AllN.skip (AllN.skip (AllN.cons Tryd.func4 sw4 (AllN.skip (AllN.skip (AllN.skip (AllN.cons Tryd.func8 sw8 (AllN.cons Tryd.func9 sw9 (AllN.skip (AllN.cons Tryd.func11 sw11 (AllN.skip (AllN.cons Tryd.func13 sw13 (AllN.cons Tryd.func14 sw14 (AllN.cons Tryd.func15 sw15 trivial))))))))))))))))
def tl1 : List (Option TC) := [some (.cf w16), some (.cf w17), some (.cf w18), some (.cf w19), none, none, none, some (.cf w23), some (.cf w24), some (.cf w25), some (.cf w26), none, none, some (.cf w29), some (.cf w30), some (.cf w31)]
theorem ta1 : AllN Tryd.prog 16 tl1 := (AllN.cons Tryd.func16 sw16 (AllN.cons Tryd.func17 sw17 (AllN.cons Tryd.func18 sw18 (AllN.cons Tryd.func19 sw19 (AllN.skip (AllN.skip (AllN.skip (AllN.cons Tryd.func23 sw23 (AllN.cons Tryd.func24 sw24 (AllN.cons Tryd.func25 sw25 (AllN.cons Tryd.func26 sw26 (AllN.skip (AllN.skip (AllN.cons Tryd.func29 sw29 (AllN.cons Tryd.func30 sw30 (AllN.cons Tryd.func31 sw31 trivial))))))))))))))))
def tl2 : List (Option TC) := [some (.cf w32), some (.cf w33), some (.cf w34), some (.nv QWi), some (.cf w36), some (.cf w37), some (.cf w38), some (.cf w39), some (.cf w40), some (.cf w41), some (.cf w42), none, some (.cf w44), some (.cf w45), some (.cf w46), some (.cf w47)]
theorem ta2 : AllN Tryd.prog 32 tl2 := (AllN.cons Tryd.func32 sw32 (AllN.cons Tryd.func33 sw33 (AllN.cons Tryd.func34 sw34 (AllN.nv Zqv (AllN.cons Tryd.func36 sw36 (AllN.cons Tryd.func37 sw37 (AllN.cons Tryd.func38 sw38 (AllN.cons Tryd.func39 sw39 (AllN.cons Tryd.func40 sw40 (AllN.cons Tryd.func41 sw41 (AllN.cons Tryd.func42 sw42 (AllN.skip (AllN.cons Tryd.func44 sw44 (AllN.cons Tryd.func45 sw45 (AllN.cons Tryd.func46 sw46 (AllN.cons Tryd.func47 sw47 trivial))))))))))))))))
def tl3 : List (Option TC) := [none, some (.cf w49), some (.cf w50), some (.cf w51), none, none, some (.cf w54), some (.cf w55), none, none, none, none, none, none, none, none]
theorem ta3 : AllN Tryd.prog 48 tl3 := (AllN.skip (AllN.cons Tryd.func49 sw49 (AllN.cons Tryd.func50 sw50 (AllN.cons Tryd.func51 sw51 (AllN.skip (AllN.skip (AllN.cons Tryd.func54 sw54 (AllN.cons Tryd.func55 sw55 (AllN.skip (AllN.skip (AllN.skip (AllN.skip (AllN.skip (AllN.skip (AllN.skip (AllN.skip trivial))))))))))))))))
def tls : List (List (Option TC)) := [tl0, tl1, tl2, tl3]
noncomputable def TT : TB := tabn tls
theorem qxz : zo7 Tryd.prog TT := Kwc tls (AllNs.cons ta0 (AllNs.cons ta1 (AllNs.cons ta2 (AllNs.cons ta3 trivial))))
end Go.Proofs.YthhghdebjiiliaaDoor
end
section
namespace Go.Proofs.YthhghdebjiiliaaDoor
theorem ct4 : runT TT 60 w4 = true := by kernel_rfl
theorem fc4 (h : List AB) : FnC Tryd.prog 4 [] h (.b true) h := FnC.closed (by kernel_rfl) qxz 60 4 (by kernel_rfl) ct4 h
end Go.Proofs.YthhghdebjiiliaaDoor
end
section
namespace Go.Proofs.YthhghdebjiiliaaDoor
set_option maxRecDepth 100000
set_option maxHeartbeats 4000000
def qoG : List AV → List AB → Option (AV × List AB)
 | [], h => some (.b true, h)
 | _, _ => none
theorem zoW : Spec Tryd.prog 4 qoG := by
 intro args h v h' e
 unfold qoG at e
 split at e
 ·cases e
  exact fc4 _
 ·cases e
def XDB : List AV → List AB → Option (AV × List AB)
 | [], h => some (.ag [.i .i64 0, .i .i64 0], h)
 | _, _ => none
theorem X9H : Spec Tryd.prog 14 XDB := by
 intro args h v h' e
 unfold XDB at e
 split at e
 ·cases e
  refine FnAt.c (FnAt.run (by kernel_rfl) (T := ⟨[], []⟩) ⟨trivial, trivial⟩ Tryd.func14 sw14 fun ho hh => ?_)
  unfold w14
  simp only [JaE, Qv4, Zsy, qtN, qup, if_true, if_false, ↓reduceIte, Nat.reduceAdd, Nat.reduceSub, Nat.reduceLeDiff, Nat.reduceEqDiff, Nat.reduceMul, Nat.reduceLT, Int.reduceLT, Int.reduceLE, Int.reduceEq, CO.tmps, Opd.tmps, optT, Nat.reducePow, Nat.reduceDiv, Nat.reduceMod]
  exact Bt.drop _ hh rfl rfl
 ·cases e
def zRP : List AV → List AB → Option (AV × List AB)
 | [.i .i64 a, .i .i64 b], h => if (-9223372036854775808 ≤ a ∧ a ≤ 9223372036854775807) ∧ 0 < b ∧ b ≤ 1000000 then some (.i .i64 (a % b), h) else none
 | _, _ => none
def JTM : List AV → List AB → Option (AV × List AB)
 | [.s s], h => if s.length ≤ 1000000 then some (.i .i64 (slN s : Int), h) else none
 | _, _ => none
def qMT : List AV → List AB → Option (AV × List AB)
 | [.s s, .i .i64 n], h => if 0 ≤ n ∧ n.toNat < s.length then some (.b (decide ((s.getD n.toNat 0).toNat < 128)), h) else none
 | _, _ => none
theorem XsJ : Spec Tryd.prog 22 qMT := by
 intro args h v h' e
 unfold qMT at e
 split at e
 ·rename_i s n
  split at e
  ·rename_i hs
   cases e
   refine FnAt.c (FnAt.run (by kernel_rfl) (T := ⟨[], []⟩) ⟨trivial, trivial⟩ Tryd.func22 sw22 fun ho hh => ?_)
   unfold w22
   have x1 := YME (l := s) (n := n.toNat) .i64 hs.2
   rw [show ((n.toNat : Nat) : Int) = n from by omega] at x1
   rcases emT ((((s.getD n.toNat 0).toNat : Nat) : Int) < 128) with ⟨d1, c1⟩ | ⟨d1, c1⟩
   ·have d2 : (s.getD n.toNat 0).toNat < 128 := by omega
    simp only [JaE, Qv4, Zsy, qtN, qup, if_true, if_false, ↓reduceIte, Nat.reduceAdd, Nat.reduceSub, Nat.reduceLeDiff, Nat.reduceEqDiff, Nat.reduceMul, Nat.reduceLT, Int.reduceLT, Int.reduceLE, Int.reduceEq, CO.tmps, Opd.tmps, optT, Nat.reducePow, Nat.reduceDiv, Nat.reduceMod, x1, c1, YCt, Option.map_some, decide_true, decide_false, ne_eq, not_false_eq_true, not_true_eq_false, false_implies, forall_const, and_true, true_and]
    exact Bt.dropB _ hh (decide_eq_true d2).symm
   ·have d2 : ¬ (s.getD n.toNat 0).toNat < 128 := by omega
    simp only [JaE, Qv4, Zsy, qtN, qup, if_true, if_false, ↓reduceIte, Nat.reduceAdd, Nat.reduceSub, Nat.reduceLeDiff, Nat.reduceEqDiff, Nat.reduceMul, Nat.reduceLT, Int.reduceLT, Int.reduceLE, Int.reduceEq, CO.tmps, Opd.tmps, optT, Nat.reducePow, Nat.reduceDiv, Nat.reduceMod, x1, c1, YCt, Option.map_some, decide_true, decide_false, ne_eq, not_false_eq_true, not_true_eq_false, false_implies, forall_const, and_true, true_and]
    exact Bt.dropB _ hh (decide_eq_false d2).symm
  ·cases e
 ·cases e
end Go.Proofs.YthhghdebjiiliaaDoor
end
section
namespace Go.Proofs.YthhghdebjiiliaaDoor
set_option maxRecDepth 100000
set_option maxHeartbeats 4000000
theorem z4K {x y : List UInt8} (h : x.length + y.length ≤ 10000000) : binV .add (.s x) (.s y) = some (.s (x ++ y)) := by
 show (if ((x.length + y.length : Nat) : Int) > IntKind.i64.max then none else some (AV.s (x ++ y))) = _
 rw [if_neg (by simp only [IntKind.max, IntKind.signed, IntKind.bits]; omega)]
theorem YTc : (false == true) = false := _root_.id rfl
theorem KIz : (true == true) = true := _root_.id rfl
theorem qi9 : (true == false) = false := _root_.id rfl
theorem J6t : (false == false) = true := _root_.id rfl
end Go.Proofs.YthhghdebjiiliaaDoor
end
section
namespace Go.Proofs.YthhghdebjiiliaaDoor
set_option maxRecDepth 100000
set_option maxHeartbeats 4000000
theorem ZHX {h : List AB} (hz : h.map AB.freeze = h) (s t : List UInt8) : FnAt Tryd.prog 7 [.s s, .s t] h (.b true) h := by
 refine FnAt.run (by kernel_rfl) (T := ⟨[⟨4, qoG, fun _ => []⟩, ⟨13, qqY, fun _ => []⟩, ⟨14, XDB, fun _ => []⟩, ⟨22, qMT, fun _ => []⟩], []⟩) ⟨⟨zoW, Ytv, X9H, XsJ, trivial⟩, trivial⟩ Tryd.func7 sw7 fun ho hh => ?_
 unfold w7
 by_cases g1 : (60 : Int) < (s.length : Int)
 ·have g1' := eq_true g1
  simp only [JaE, Qv4, Zsy, qtN, qup, if_true, if_false, ↓reduceIte, Nat.reduceAdd, Nat.reduceSub, Nat.reduceLeDiff, Nat.reduceEqDiff, Nat.reduceMul, Nat.reduceLT, Int.reduceLT, Int.reduceLE, Int.reduceEq, CO.tmps, Opd.tmps, optT, Nat.reducePow, Nat.reduceDiv, Nat.reduceMod, g1', qoG, ZZA, KWu, decide_true, decide_false, ne_eq, not_false_eq_true, not_true_eq_false, false_implies, forall_const, and_true, true_and]
  exact Bt.dropB _ hh rfl
 have g1' := eq_false g1
 by_cases g2 : (60 : Int) < (t.length : Int)
 ·have g2' := eq_true g2
  simp only [JaE, Qv4, Zsy, qtN, qup, if_true, if_false, ↓reduceIte, Nat.reduceAdd, Nat.reduceSub, Nat.reduceLeDiff, Nat.reduceEqDiff, Nat.reduceMul, Nat.reduceLT, Int.reduceLT, Int.reduceLE, Int.reduceEq, CO.tmps, Opd.tmps, optT, Nat.reducePow, Nat.reduceDiv, Nat.reduceMod, g1', g2', qoG, ZZA, KWu, decide_true, decide_false, ne_eq, not_false_eq_true, not_true_eq_false, false_implies, forall_const, and_true, true_and]
  exact Bt.dropB _ hh rfl
 have g2' := eq_false g2
 have l1 : (s.length ≤ 1000000) = True := eq_true (by omega)
 cases hp : runB ZpT YXy s 0 ⟨7, .w⟩ with
 | none =>
  have rs : J3B s = .ag [.i .i64 0, .i .i64 0] := by unfold J3B; rw [if_neg (by omega), hp]; rfl
  have qs : JmA [CK.i, CK.i] [.i .i64 0, .i .i64 0] [.i .i64 0, .i .i64 0] = some true := rfl
  obtain ⟨q', e1, e2⟩ := (Qyf s 0 _).1 hp
  obtain ⟨b1, b2, rb, qb⟩ := Jtf (s ++ [48])
  rw [qJp e1 (by omega)] at qb
  have l2 : ((s ++ [48]).length ≤ 1000000) = True := eq_true (by simp; omega)
  have y1 : binV .add (.s s) (.s [48]) = some (.s (s ++ [48])) := z4K (by simp; omega)
  have ne : binV .neq (.s t) (.s []) = some (.b (!(t == []))) := rfl
  cases ht : (t == []) with
  | true =>
   rw [ht] at ne
   simp only [JaE, Qv4, Zsy, qtN, qup, if_true, if_false, ↓reduceIte, Nat.reduceAdd, Nat.reduceSub, Nat.reduceLeDiff, Nat.reduceEqDiff, Nat.reduceMul, Nat.reduceLT, Int.reduceLT, Int.reduceLE, Int.reduceEq, CO.tmps, Opd.tmps, optT, Nat.reducePow, Nat.reduceDiv, Nat.reduceMod, g1', g2', qoG, qqY, XDB, l1, l2, y1, rs, qs, rb, qb, ne, ZZA, KWu, qtp hh, Kxd hz, Xey hz, XWU hz, Bool.not_true, Bool.not_false, bne, YTc, KIz, qi9, J6t, decide_true, decide_false, ne_eq, not_false_eq_true, not_true_eq_false, false_implies, forall_const, and_true, true_and]
   exact Bt.dropB _ hh rfl
  | false =>
   rw [ht] at ne
   simp only [JaE, Qv4, Zsy, qtN, qup, if_true, if_false, ↓reduceIte, Nat.reduceAdd, Nat.reduceSub, Nat.reduceLeDiff, Nat.reduceEqDiff, Nat.reduceMul, Nat.reduceLT, Int.reduceLT, Int.reduceLE, Int.reduceEq, CO.tmps, Opd.tmps, optT, Nat.reducePow, Nat.reduceDiv, Nat.reduceMod, g1', g2', qoG, qqY, XDB, l1, l2, y1, rs, qs, rb, qb, ne, ZZA, KWu, qtp hh, Kxd hz, Xey hz, XWU hz, Bool.not_true, Bool.not_false, bne, YTc, KIz, qi9, J6t, decide_true, decide_false, ne_eq, not_false_eq_true, not_true_eq_false, false_implies, forall_const, and_true, true_and]
   exact Bt.dropB _ hh rfl
 | some p =>
  obtain ⟨p1, p2, p3⟩ := qBO (by omega) hp
  have rs : J3B s = .ag [.i .i64 7, .i .i64 (p : Int)] := by unfold J3B; rw [if_neg (by omega), hp]; rfl
  have qs : JmA [CK.i, CK.i] [.i .i64 7, .i .i64 (p : Int)] [.i .i64 0, .i .i64 0] = some false := by simp [JmA, YZb]
  have qq : JmA [CK.i, CK.i] [.i .i64 7, .i .i64 (p : Int)] [.i .i64 7, .i .i64 (p : Int)] = some true := by simp [JmA, YZb]
  obtain ⟨b1, b2, rb, qb⟩ := Jtf (s.take p ++ [48])
  rw [p2] at qb
  have lt : (s.take p).length = p := by rw [List.length_take]; omega
  have l2 : ((s.take p ++ [48]).length ≤ 1000000) = True := eq_true (by rw [List.length_append, lt]; simp; omega)
  have y1 : binV .add (.s (s.take p)) (.s [48]) = some (.s (s.take p ++ [48])) := z4K (by rw [lt]; simp; omega)
  have v1 := z3j (l := s) (n := p) .i64 p1
  have c1 : ((p : Int) < 0) = False := eq_false (by omega)
  have c2 : ((s.length : Int) < (p : Int)) = False := eq_false (by omega)
  rcases emT ((p : Int) = (s.length : Int)) with ⟨d3, c3⟩ | ⟨d3, c3⟩
  ·simp only [JaE, Qv4, Zsy, qtN, qup, if_true, if_false, ↓reduceIte, Nat.reduceAdd, Nat.reduceSub, Nat.reduceLeDiff, Nat.reduceEqDiff, Nat.reduceMul, Nat.reduceLT, Int.reduceLT, Int.reduceLE, Int.reduceEq, CO.tmps, Opd.tmps, optT, Nat.reducePow, Nat.reduceDiv, Nat.reduceMod, g1', g2', qoG, qqY, XDB, l1, l2, y1, v1, rs, qs, rb, qb, c1, c2, c3, YIx, ZZA, KWu, qtp hh, Kxd hz, Xey hz, XWU hz, Bool.not_true, Bool.not_false, bne, YTc, KIz, qi9, J6t, Option.map_some, decide_true, decide_false, ne_eq, not_false_eq_true, not_true_eq_false, false_implies, forall_const, and_true, true_and]
   exact Bt.dropB _ hh rfl
  ·have hlt : p < s.length := by omega
   have y2 : binV .add (.s s) (.s t) = some (.s (s ++ t)) := z4K (by omega)
   have l3 : ((s ++ t).length ≤ 1000000) = True := eq_true (by rw [List.length_append]; omega)
   have l4 : (((s ++ t).length : Nat) : Int) = (s.length : Int) + (t.length : Int) := by rw [List.length_append]; omega
   have c4 : (((s ++ t).length : Int) ≤ 128) = True := eq_true (by rw [l4]; omega)
   have rt : J3B (s ++ t) = .ag [.i .i64 7, .i .i64 (p : Int)] := by unfold J3B; rw [if_neg (by rw [l4]; omega), p3 hlt t]; rfl
   have tw : ∀ H, qMT [.s s, .i .i64 (p : Int)] H = some (.b (decide ((s.getD p 0).toNat < 128)), H) := fun H => by
    show (if _ then _ else _) = _
    rw [if_pos ⟨by omega, by simpa using hlt⟩, Int.toNat_natCast]
   cases hb : decide ((s.getD p 0).toNat < 128) with
   | true =>
    rw [hb] at tw
    simp only [JaE, Qv4, Zsy, qtN, qup, if_true, if_false, ↓reduceIte, Nat.reduceAdd, Nat.reduceSub, Nat.reduceLeDiff, Nat.reduceEqDiff, Nat.reduceMul, Nat.reduceLT, Int.reduceLT, Int.reduceLE, Int.reduceEq, CO.tmps, Opd.tmps, optT, Nat.reducePow, Nat.reduceDiv, Nat.reduceMod, g1', g2', qoG, qqY, XDB, tw, l1, l2, l3, y1, y2, v1, rs, qs, qq, rb, qb, rt, c1, c2, c3, c4, YIx, ZZA, KWu, qtp hh, Kxd hz, Xey hz, XWU hz, Bool.not_true, Bool.not_false, bne, YTc, KIz, qi9, J6t, Option.map_some, decide_true, decide_false, ne_eq, not_false_eq_true, not_true_eq_false, false_implies, forall_const, and_true, true_and]
    exact Bt.dropB _ hh rfl
   | false =>
    rw [hb] at tw
    simp only [JaE, Qv4, Zsy, qtN, qup, if_true, if_false, ↓reduceIte, Nat.reduceAdd, Nat.reduceSub, Nat.reduceLeDiff, Nat.reduceEqDiff, Nat.reduceMul, Nat.reduceLT, Int.reduceLT, Int.reduceLE, Int.reduceEq, CO.tmps, Opd.tmps, optT, Nat.reducePow, Nat.reduceDiv, Nat.reduceMod, g1', g2', qoG, qqY, XDB, tw, l1, l2, l3, y1, y2, v1, rs, qs, qq, rb, qb, rt, c1, c2, c3, c4, YIx, ZZA, KWu, qtp hh, Kxd hz, Xey hz, XWU hz, Bool.not_true, Bool.not_false, bne, YTc, KIz, qi9, J6t, Option.map_some, decide_true, decide_false, ne_eq, not_false_eq_true, not_true_eq_false, false_implies, forall_const, and_true, true_and]
    exact Bt.dropB _ hh rfl
end Go.Proofs.YthhghdebjiiliaaDoor
end
