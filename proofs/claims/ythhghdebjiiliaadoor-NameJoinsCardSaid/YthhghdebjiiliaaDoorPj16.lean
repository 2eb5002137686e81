/- Part 16 of what the laws' proofs rest on. No condition. -/
import Derived.Laws.RangeAny
import Derived.Test.YthhghdebjiiliaaDoorPj15
set_option linter.all false
section
namespace Go.Proofs.YthhghdebjiiliaaDoor
set_option maxRecDepth 100000
set_option maxHeartbeats 4000000
def runB {Q : Type} (step : Q → Int → Option Q) (ends : Q → Bool) : List UInt8 → Nat → Q → Option Nat
 | [], pos, q => if ends q then none else some pos
 | b :: l, pos, q => match (if b.toNat < 128 then step q b.toNat else none) with
  | none => some pos
  | some q' => runB step ends l (pos + 1) q'
theorem ZZA (x : List UInt8) : lenV (.s x) = some (x.length : Int) := _root_.id rfl
theorem KWu (x : List UInt8) : (AV.s x).isStr = true := _root_.id rfl
def fltA (e : Int) : Option Nat → AV
 | none => .ag [.i .i64 0, .i .i64 0]
 | some at' => .ag [.i .i64 e, .i .i64 at']
theorem YGo {l : List UInt8} {pos : Nat} (h : pos < l.length) (ha : ¬ (l[pos]).toNat < 128) : 128 ≤ (Utf8.decode ⟨l.toArray⟩ pos).1 := by
 have hs : pos < (⟨l.toArray⟩ : ByteArray).size := by simpa [ByteArray.size] using h
 exact (decode_high ⟨l.toArray⟩ pos hs (by show 128 ≤ (l[pos]).toNat; omega)).1
theorem ZFx {q : RQ} {c : Int} (h : 128 ≤ c) : ZpT q c = none := by
 have hw : zsl q.left c = none := by unfold zsl; rw [if_neg (by unfold lowP; omega)]
 unfold ZpT
 split
 ·exact hw
 ·rw [if_neg (by omega), if_neg (by omega), if_neg (by omega), if_neg (by omega), hw]
 ·rw [if_neg (by omega), hw]
 ·rw [if_neg (by omega), hw]
theorem KHt {q q' : RQ} {c : Int} (h : ZpT q c = some q') : q'.left ≤ q.left := by
 have hw : ∀ r, zsl q.left c = some r → r.left ≤ q.left := fun r e => by
  unfold zsl at e
  split at e
  ·cases e; exact Nat.le_refl _
  ·cases e
 unfold ZpT at h
 split at h
 ·exact hw _ h
 ·split at h
  ·cases h; exact Nat.sub_le _ _
  ·split at h
   ·cases h; exact Nat.le_refl _
   ·split at h
    ·cases h; exact Nat.le_refl _
    ·split at h
     ·cases h; exact Nat.le_refl _
     ·exact hw _ h
 ·split at h
  ·cases h; exact Nat.le_refl _
  ·exact hw _ h
 ·split at h
  ·cases h; exact Nat.le_refl _
  ·exact hw _ h
theorem qD5 {q q' : RQ} (h : stR q = stR q') : q = q' := by
 obtain ⟨n, k⟩ := q
 obtain ⟨n', k'⟩ := q'
 cases k <;> cases k' <;> simp [stR, fnR] at h ⊢ <;> omega
open Classical in
noncomputable def qAt (h : List AB) (j : Nat) : Option RQ := if hq : ∃ q : RQ, h[j]? = some (stR q) then some hq.choose else none
theorem zyj {h : List AB} {j : Nat} {q : RQ} (e : h[j]? = some (stR q)) : qAt h j = some q := by
 have hx : ∃ q : RQ, h[j]? = some (stR q) := ⟨q, e⟩
 have h1 : some (stR q) = some (stR hx.choose) := e.symm.trans hx.choose_spec
 unfold qAt
 exact (dif_pos hx).trans (congrArg some (qD5 (Option.some.inj h1)).symm)
theorem qYc {β : Type} {h : List AB} {j : Nat} {f : RQ → Option β} {b : β} (e : (qAt h j).bind f = some b) : ∃ q, h[j]? = some (stR q) ∧ f q = some b := by
 unfold qAt at e
 split at e
 ·rename_i hx
  exact ⟨_, hx.choose_spec, e⟩
 ·cases e
def YXy (q : RQ) : Bool := decide (q.k = .i)
noncomputable def qjf : List AV → List AB → Option (AV × List AB)
 | [.s s, .p j 0, .i .i64 e], h => (qAt h j).bind fun q => if q.left ≤ 1000 ∧ s.length ≤ 1000000 then some (fltA e (runB ZpT YXy s 0 q), h) else none
 | _, _ => none
theorem YNk (q : RQ) : (stR q).freeze = .blk false false [.f (.func (fnR q.k)) [.ag [.i .i64 q.left]] [], .b (decide (q.k = .i))] := _root_.id rfl
theorem Y0K {Q : Type} {step : Q → Int → Option Q} {ends : Q → Bool} {s : List UInt8} {pos : Nat} {q : Q} (h : pos < s.length) : runB step ends (s.drop pos) pos q = match (if (s[pos]).toNat < 128 then step q (s[pos]).toNat else none) with
  | none => some pos
  | some q' => runB step ends (s.drop (pos + 1)) (pos + 1) q' := by
 rw [List.drop_eq_getElem_cons h]
 rfl
theorem qk6 {Q : Type} {step : Q → Int → Option Q} (hbig : ∀ q c, 128 ≤ c → step q c = none) {s : List UInt8} {pos : Nat} (h : pos < s.length) (q : Q) :
  (if (s[pos]).toNat < 128 then step q (s[pos]).toNat else none) = step q ((Utf8.decode ⟨s.toArray⟩ pos).1 : Int) ∧ (∀ q', step q ((Utf8.decode ⟨s.toArray⟩ pos).1 : Int) = some q' → (Utf8.decode ⟨s.toArray⟩ pos).2 = 1) := by
 by_cases ha : (s[pos]).toNat < 128
 ·rw [if_pos ha, zbT h ha]
  exact ⟨rfl, fun _ _ => rfl⟩
 ·rw [if_neg ha]
  have := hbig q _ (show (128 : Int) ≤ ((Utf8.decode ⟨s.toArray⟩ pos).1 : Int) by have := YGo h ha; omega)
  exact ⟨this.symm, fun q' e => by rw [this] at e; cases e⟩
theorem KZu (k : RK) (a : List AV) (H : List AB) : (if 44 = fnR k then Jhc .w a H else if 51 = fnR k then Jhc .i a H else if 54 = fnR k then Jhc .s a H else if 55 = fnR k then Jhc .d a H else none) = Jhc k a H := by
 cases k <;> rfl
theorem ZGx {q : RQ} (hl : q.left ≤ 1000) (c : Int) (H : List AB) : Jhc q.k [.ag [.i .i64 q.left], .i .i32 c] H = ansR H (ZpT q c) := by
 show (if (0 : Int) ≤ (q.left : Int) ∧ (q.left : Int) ≤ 1000 then ansR H (ZpT ⟨((q.left : Int)).toNat, q.k⟩ c) else none) = _
 rw [if_pos (by omega), Int.toNat_natCast]
theorem QwO {h : List AB} (hz : h.map AB.freeze = h) {s : List UInt8} {j : Nat} {e : Int} {q0 : RQ} (hj : h[j]? = some (stR q0).freeze) (hl : q0.left ≤ 1000) (hs : s.length ≤ 1000000) :
  FnAt Tryd.prog 23 [.s s, .p j 0, .i .i64 e] h (fltA e (runB ZpT YXy s 0 q0)) h := by
 refine FnAt.run (by kernel_rfl) (T := ⟨[⟨44, Jhc .w, fun _ => []⟩, ⟨51, Jhc .i, fun _ => []⟩, ⟨54, Jhc .s, fun _ => []⟩, ⟨55, Jhc .d, fun _ => []⟩], []⟩) ⟨⟨QvU, qtf, QBk, Qrf, trivial⟩, trivial⟩ Tryd.func23 sw23 fun ho hh => ?_
 unfold w23
 have hjl := (List.getElem?_eq_some_iff.1 hj).1
 have hp : ∀ L : List AB, Za1 (h ++ L) j = some [.f (.func (fnR q0.k)) [.ag [.i .i64 q0.left]] [], .b (decide (q0.k = .i))] := fun L => by
  unfold Za1
  rw [List.getElem?_append_left hjl, hj, YNk]
 have lj0 : ∀ L : List AB, ldV (h ++ L) none (.p j 0) = some (.f (.func (fnR q0.k)) [.ag [.i .i64 q0.left]] []) := fun L => by
  simp only [ldV, hp, Option.bind_some]
  rfl
 have lj1 : ∀ L : List AB, ldV (h ++ L) none (.p j 1) = some (.b (decide (q0.k = .i))) := fun L => by
  simp only [ldV, hp, Option.bind_some]
  rfl
 have en0 : Jx5 .np .np = some true := rfl
 have en1 : ∀ a b, Jx5 (.p a b) .np = some false := fun _ _ => rfl
 have oj : ∀ c, (AV.p j 0).ok (fun i => decide (i < h.length + c)) = true := fun c => by simp [AV.ok]; omega
 simp only [JaE, Qv4, Zsy, qtN, qup, if_true, if_false, ↓reduceIte, Nat.reduceAdd, Nat.reduceSub, Nat.reduceLeDiff, Nat.reduceEqDiff, Nat.reduceMul, Nat.reduceLT, Int.reduceLT, Int.reduceLE, Int.reduceEq, CO.tmps, Opd.tmps, optT, Nat.reducePow, Nat.reduceDiv, Nat.reduceMod, Z7X]
 refine JRp (S := Nat × RQ) (fun σ => s.length - σ.1) (fun σ => [.s s, (if σ.1 = 0 then .p j 0 else .p (h.length + 2) 0), .i .i64 e] ++ tp 3 ++ [.p (h.length + 0) 0] ++ tp 3 ++ [.p (h.length + 1) 0] ++ tp 25) (fun σ => h ++ [.blk true true [.i .i64 0, .i .i64 0], itr s σ.1, (if σ.1 = 0 then .dead else stR σ.2)])
  (fun σ => σ.1 ≤ s.length ∧ σ.2.left ≤ 1000 ∧ (σ.1 = 0 → σ.2 = q0) ∧ runB ZpT YXy (s.drop σ.1) σ.1 σ.2 = runB ZpT YXy s 0 q0) (0, q0) ⟨Nat.zero_le _, hl, fun _ => rfl, rfl⟩ ?_ fun σ hσ => ?_
 ·show Bt _ _ _ _ _ (h ++ ([.blk true true [.i .i64 0, .i .i64 0], itr s 0] ++ List.replicate 1 .dead))
  rw [← List.append_assoc]
  refine Bt.trans (Bt.wk ?_) (Bt.pad _ _ 1)
  simp only [Zsy, qup, if_true, if_false, reduceIte, Nat.reduceAdd, Nat.reduceSub, Nat.reduceLeDiff, Nat.reduceEqDiff, Nat.reduceMul, Nat.reduceLT, Int.reduceLT, Int.reduceLE, Int.reduceEq]
 obtain ⟨pos, q⟩ := σ
 obtain ⟨h1, h2, h3, h4⟩ := hσ
 dsimp only at h1 h2 h3 h4 ⊢
 have hn : ∀ B : AB, nxV (h ++ [.blk true true [.i .i64 0, .i .i64 0], itr s pos, B]) (.p (h.length + 1) 0) = if pos < s.length then some (.tu [.b true, .i .i64 (pos : Int), .i .i32 ((Utf8.decode ⟨s.toArray⟩ pos).1 : Int)], h ++ [.blk true true [.i .i64 0, .i .i64 0], itr s (pos + (Utf8.decode ⟨s.toArray⟩ pos).2), B]) else some (.tu [.b false], h ++ [.blk true true [.i .i64 0, .i .i64 0], itr s pos, B]) := fun B => Zl5 _ 1 s pos rfl
 by_cases g : pos < s.length
 ·have hd := Y0K (step := ZpT) (ends := YXy) (q := q) g
  rw [h4] at hd
  by_cases p0 : pos = 0
  ·subst p0
   rw [h3 rfl] at hd
   simp only [if_true]
   obtain ⟨e1, e2⟩ := qk6 (step := ZpT) (fun _ _ => ZFx) g q0
   rw [e1] at hd
   have es := fun H => ZGx (q := q0) hl ((Utf8.decode ⟨s.toArray⟩ 0).1 : Int) H
   cases hst : ZpT q0 ((Utf8.decode ⟨s.toArray⟩ 0).1 : Int) with
   | none =>
    rw [hst] at hd
    dsimp only at hd
    simp only [JaE, Qv4, Zsy, qtN, qup, if_true, if_false, ↓reduceIte, Nat.reduceAdd, Nat.reduceSub, Nat.reduceLeDiff, Nat.reduceEqDiff, Nat.reduceMul, Nat.reduceLT, Int.reduceLT, Int.reduceLE, Int.reduceEq, CO.tmps, Opd.tmps, optT, Nat.reducePow, Nat.reduceDiv, Nat.reduceMod, Xq2, hn, g, lj0, KZu, es, hst, ansR, en0, en1, decide_true, decide_false, ne_eq, not_false_eq_true, not_true_eq_false, false_implies, forall_const, and_true, true_and]
    rw [hd]
    exact Bt.drop _ hh rfl rfl
   | some q' =>
    have e3 := e2 q' hst
    rw [hst] at hd
    dsimp only at hd
    simp only [JaE, Qv4, Zsy, qtN, qup, if_true, if_false, ↓reduceIte, Nat.reduceAdd, Nat.reduceSub, Nat.reduceLeDiff, Nat.reduceEqDiff, Nat.reduceMul, Nat.reduceLT, Int.reduceLT, Int.reduceLE, Int.reduceEq, CO.tmps, Opd.tmps, optT, Nat.reducePow, Nat.reduceDiv, Nat.reduceMod, Xq2, hn, g, lj0, KZu, es, hst, ansR, e3, en0, en1, decide_true, decide_false, ne_eq, not_false_eq_true, not_true_eq_false, false_implies, forall_const, and_true, true_and]
    refine ⟨(0 + 1, q'), ⟨g, Nat.le_trans (KHt hst) hl, (fun z => absurd z (Nat.succ_ne_zero _)), hd.symm⟩, by dsimp only; omega, ?_⟩
    dsimp only
    rw [if_neg (by decide), if_neg (by decide)]
    exact Bt.sel [0, 1, 3] hh (by decide) (by simp only [YmD, FrSel, BlkSel, AV.ren, renL, AV.ok, okL, Option.some.injEq, exists_eq_left', List.length_cons, List.length_nil, Nat.reduceAdd, Nat.reduceLT, reduceCtorEq, implies_true, exists_eq', oj, itr, stR, JYw, and_self]) (by simp only [YmD, FrSel, BlkSel, AV.ren, renL, AV.ok, okL, Option.some.injEq, exists_eq_left', List.length_cons, List.length_nil, Nat.reduceAdd, Nat.reduceLT, reduceCtorEq, implies_true, exists_eq'])
  ·simp only [p0, if_false]
   obtain ⟨e1, e2⟩ := qk6 (step := ZpT) (fun _ _ => ZFx) g q
   rw [e1] at hd
   have es := fun H => ZGx (q := q) h2 ((Utf8.decode ⟨s.toArray⟩ pos).1 : Int) H
   cases hst : ZpT q ((Utf8.decode ⟨s.toArray⟩ pos).1 : Int) with
   | none =>
    rw [hst] at hd
    dsimp only at hd
    simp only [JaE, Qv4, Zsy, qtN, qup, if_true, if_false, ↓reduceIte, Nat.reduceAdd, Nat.reduceSub, Nat.reduceLeDiff, Nat.reduceEqDiff, Nat.reduceMul, Nat.reduceLT, Int.reduceLT, Int.reduceLE, Int.reduceEq, CO.tmps, Opd.tmps, optT, Nat.reducePow, Nat.reduceDiv, Nat.reduceMod, Xq2, hn, g, stR, KZu, es, hst, ansR, en0, en1, decide_true, decide_false, ne_eq, not_false_eq_true, not_true_eq_false, false_implies, forall_const, and_true, true_and]
    rw [hd]
    exact Bt.drop _ hh rfl rfl
   | some q' =>
    have e3 := e2 q' hst
    rw [hst] at hd
    dsimp only at hd
    simp only [JaE, Qv4, Zsy, qtN, qup, if_true, if_false, ↓reduceIte, Nat.reduceAdd, Nat.reduceSub, Nat.reduceLeDiff, Nat.reduceEqDiff, Nat.reduceMul, Nat.reduceLT, Int.reduceLT, Int.reduceLE, Int.reduceEq, CO.tmps, Opd.tmps, optT, Nat.reducePow, Nat.reduceDiv, Nat.reduceMod, Xq2, hn, g, stR, KZu, es, hst, ansR, e3, en0, en1, decide_true, decide_false, ne_eq, not_false_eq_true, not_true_eq_false, false_implies, forall_const, and_true, true_and]
    refine ⟨(pos + 1, q'), ⟨g, Nat.le_trans (KHt hst) h2, (fun z => absurd z (Nat.succ_ne_zero _)), hd.symm⟩, by dsimp only; omega, ?_⟩
    dsimp only
    rw [if_neg (Nat.succ_ne_zero pos), if_neg (Nat.succ_ne_zero pos)]
    exact Bt.sel [0, 1, 3] hh (by decide) (by simp only [YmD, FrSel, BlkSel, AV.ren, renL, AV.ok, okL, Option.some.injEq, exists_eq_left', List.length_cons, List.length_nil, Nat.reduceAdd, Nat.reduceLT, reduceCtorEq, implies_true, exists_eq', oj, itr, stR, JYw, and_self]) (by simp only [YmD, FrSel, BlkSel, AV.ren, renL, AV.ok, okL, Option.some.injEq, exists_eq_left', List.length_cons, List.length_nil, Nat.reduceAdd, Nat.reduceLT, reduceCtorEq, implies_true, exists_eq'])
 ·have hpos : pos = s.length := by omega
  have hd : runB ZpT YXy s 0 q0 = if YXy q then none else some s.length := by
   rw [← h4, hpos, List.drop_length]
   rfl
  by_cases p0 : pos = 0
  ·have hq0 := h3 p0
   subst hq0
   subst p0
   simp only [if_true]
   have hq : runB ZpT YXy s 0 q = if YXy q then none else some s.length := hd
   cases he : YXy q with
   | true =>
    have he' : decide (q.k = RK.i) = true := he
    rw [he] at hq
    simp only [JaE, Qv4, Zsy, qtN, qup, if_true, if_false, ↓reduceIte, Nat.reduceAdd, Nat.reduceSub, Nat.reduceLeDiff, Nat.reduceEqDiff, Nat.reduceMul, Nat.reduceLT, Int.reduceLT, Int.reduceLE, Int.reduceEq, CO.tmps, Opd.tmps, optT, Nat.reducePow, Nat.reduceDiv, Nat.reduceMod, Xq2, hn, g, lj1, he', Jt3, Bool.not_true, Bool.not_false, ZZA, KWu, decide_true, decide_false, ne_eq, not_false_eq_true, not_true_eq_false, false_implies, forall_const, and_true, true_and]
    rw [hq]
    exact Bt.drop _ hh rfl rfl
   | false =>
    have he' : decide (q.k = RK.i) = false := he
    rw [he] at hq
    simp only [JaE, Qv4, Zsy, qtN, qup, if_true, if_false, ↓reduceIte, Nat.reduceAdd, Nat.reduceSub, Nat.reduceLeDiff, Nat.reduceEqDiff, Nat.reduceMul, Nat.reduceLT, Int.reduceLT, Int.reduceLE, Int.reduceEq, CO.tmps, Opd.tmps, optT, Nat.reducePow, Nat.reduceDiv, Nat.reduceMod, Xq2, hn, g, lj1, he', Jt3, Bool.not_true, Bool.not_false, ZZA, KWu, decide_true, decide_false, ne_eq, not_false_eq_true, not_true_eq_false, false_implies, forall_const, and_true, true_and]
    rw [hq]
    exact Bt.drop _ hh rfl rfl
  ·simp only [p0, if_false]
   have hq : runB ZpT YXy s 0 q0 = if YXy q then none else some s.length := hd
   cases he : YXy q with
   | true =>
    have he' : decide (q.k = RK.i) = true := he
    rw [he] at hq
    simp only [JaE, Qv4, Zsy, qtN, qup, if_true, if_false, ↓reduceIte, Nat.reduceAdd, Nat.reduceSub, Nat.reduceLeDiff, Nat.reduceEqDiff, Nat.reduceMul, Nat.reduceLT, Int.reduceLT, Int.reduceLE, Int.reduceEq, CO.tmps, Opd.tmps, optT, Nat.reducePow, Nat.reduceDiv, Nat.reduceMod, Xq2, hn, g, stR, he', Jt3, Bool.not_true, Bool.not_false, ZZA, KWu, decide_true, decide_false, ne_eq, not_false_eq_true, not_true_eq_false, false_implies, forall_const, and_true, true_and]
    rw [hq]
    exact Bt.drop _ hh rfl rfl
   | false =>
    have he' : decide (q.k = RK.i) = false := he
    rw [he] at hq
    simp only [JaE, Qv4, Zsy, qtN, qup, if_true, if_false, ↓reduceIte, Nat.reduceAdd, Nat.reduceSub, Nat.reduceLeDiff, Nat.reduceEqDiff, Nat.reduceMul, Nat.reduceLT, Int.reduceLT, Int.reduceLE, Int.reduceEq, CO.tmps, Opd.tmps, optT, Nat.reducePow, Nat.reduceDiv, Nat.reduceMod, Xq2, hn, g, stR, he', Jt3, Bool.not_true, Bool.not_false, ZZA, KWu, decide_true, decide_false, ne_eq, not_false_eq_true, not_true_eq_false, false_implies, forall_const, and_true, true_and]
    rw [hq]
    exact Bt.drop _ hh rfl rfl
theorem YkA : Spec Tryd.prog 23 qjf := by
 intro args h v h' e
 unfold qjf at e
 split at e
 ·rename_i s j e0
  obtain ⟨q, hq, e⟩ := qYc e
  split at e
  ·rename_i hc
   cases e
   refine FnAt.c (FnAt.frz0 fun hz => QwO hz ?_ hc.1 hc.2)
   rw [List.getElem?_map, hq]
   rfl
  ·cases e
 ·cases e
end Go.Proofs.YthhghdebjiiliaaDoor
end
section
namespace Go.Proofs.YthhghdebjiiliaaDoor
set_option maxRecDepth 100000
set_option maxHeartbeats 4000000
def Qyw : List AV → List AB → Option (AV × List AB)
 | [.s s, .i .i64 m], h => some (.tu [(if m < (s.length : Int) then .ag [.i .i64 4, .i .i64 m] else .ag [.i .i64 0, .i .i64 0]), .b (decide (m < (s.length : Int)))], h)
 | _, _ => none
theorem JFN : Spec Tryd.prog 29 Qyw := by
 intro args h v h' e
 unfold Qyw at e
 split at e
 ·rename_i s m
  cases e
  refine FnAt.c (FnAt.run (by kernel_rfl) (T := ⟨[], []⟩) ⟨trivial, trivial⟩ Tryd.func29 sw29 fun ho hh => ?_)
  unfold w29
  by_cases g : m < (s.length : Int)
  ·have g' := eq_true g
   simp only [JaE, Qv4, Zsy, qtN, qup, if_true, if_false, ↓reduceIte, Nat.reduceAdd, Nat.reduceSub, Nat.reduceLeDiff, Nat.reduceEqDiff, Nat.reduceMul, Nat.reduceLT, Int.reduceLT, Int.reduceLE, Int.reduceEq, CO.tmps, Opd.tmps, optT, Nat.reducePow, Nat.reduceDiv, Nat.reduceMod, g', ZZA, KWu, decide_true, decide_false, false_implies, forall_const, and_true, true_and, not_true_eq_false, not_false_eq_true]
   exact Bt.drop _ hh rfl rfl
  ·have g' := eq_false g
   simp only [JaE, Qv4, Zsy, qtN, qup, if_true, if_false, ↓reduceIte, Nat.reduceAdd, Nat.reduceSub, Nat.reduceLeDiff, Nat.reduceEqDiff, Nat.reduceMul, Nat.reduceLT, Int.reduceLT, Int.reduceLE, Int.reduceEq, CO.tmps, Opd.tmps, optT, Nat.reducePow, Nat.reduceDiv, Nat.reduceMod, g', ZZA, KWu, decide_true, decide_false, false_implies, forall_const, and_true, true_and, not_true_eq_false, not_false_eq_true]
   exact Bt.drop _ hh rfl rfl
 ·cases e
def J3B (s : List UInt8) : AV := if (128 : Int) < (s.length : Int) then .ag [.i .i64 4, .i .i64 128] else fltA 7 (runB ZpT YXy s 0 ⟨7, .w⟩)
theorem Xor (e : Int) (o : Option Nat) : ∃ a b, fltA e o = .ag [.i .i64 a, .i .i64 b] := by
 cases o <;> exact ⟨_, _, rfl⟩
noncomputable def qqY : List AV → List AB → Option (AV × List AB)
 | [.s s], h => if s.length ≤ 1000000 then some (J3B s, h) else none
 | _, _ => none
theorem JWp {h L : List AB} {k : Nat} {q : RQ} (e : L[k]? = some (stR q)) : qAt (h ++ L) (h.length + k) = some q := zyj (by rw [List.getElem?_append_right (by omega), Nat.add_sub_cancel_left]; exact e)
theorem Ytv : Spec Tryd.prog 13 qqY := by
 intro args h v h' e
 unfold qqY at e
 split at e
 ·rename_i s
  split at e
  ·rename_i hs
   cases e
   refine FnAt.c (FnAt.run (by kernel_rfl) (T := ⟨[⟨29, Qyw, fun _ => []⟩, ⟨30, Z6B, fun _ => []⟩, ⟨23, qjf, fun _ => []⟩], []⟩) ⟨⟨JFN, YMN, YkA, trivial⟩, trivial⟩ Tryd.func13 sw13 fun ho hh => ?_)
   unfold w13 J3B
   by_cases g : (128 : Int) < (s.length : Int)
   ·have g' := eq_true g
    simp only [JaE, Qv4, Zsy, qtN, qup, if_true, if_false, ↓reduceIte, Nat.reduceAdd, Nat.reduceSub, Nat.reduceLeDiff, Nat.reduceEqDiff, Nat.reduceMul, Nat.reduceLT, Int.reduceLT, Int.reduceLE, Int.reduceEq, CO.tmps, Opd.tmps, optT, Nat.reducePow, Nat.reduceDiv, Nat.reduceMod, Qyw, g', decide_true, decide_false, false_implies, forall_const, and_true, true_and, not_true_eq_false, not_false_eq_true, if_true]
    exact Bt.drop _ hh rfl rfl
   ·have g' := eq_false g
    have hp : ∀ H : List AB, Z6B [.ag [.i .i64 7]] H = some (.p H.length 0, H ++ [stR ⟨7, .w⟩]) := fun H => rfl
    have hq : ∀ B C : AB, qAt (h ++ [B, C, stR ⟨7, .w⟩]) (h.length + 2) = some ⟨7, .w⟩ := fun B C => JWp rfl
    have hs' := eq_true hs
    have h7 : (7 ≤ 1000) = True := eq_true (by decide)
    obtain ⟨a, b, hab⟩ := Xor 7 (runB ZpT YXy s 0 ⟨7, .w⟩)
    rw [if_neg g]
    simp only [JaE, Qv4, Zsy, qtN, qup, if_true, if_false, ↓reduceIte, Nat.reduceAdd, Nat.reduceSub, Nat.reduceLeDiff, Nat.reduceEqDiff, Nat.reduceMul, Nat.reduceLT, Int.reduceLT, Int.reduceLE, Int.reduceEq, CO.tmps, Opd.tmps, optT, Nat.reducePow, Nat.reduceDiv, Nat.reduceMod, Qyw, g', hp, qjf, hq, h7, hs', hab, decide_true, decide_false, false_implies, forall_const, and_true, true_and, not_true_eq_false, not_false_eq_true, if_false]
    exact Bt.drop _ hh rfl rfl
  ·cases e
 ·cases e
end Go.Proofs.YthhghdebjiiliaaDoor
end
section
namespace Go.Proofs.YthhghdebjiiliaaDoor
def goR : RQ → List UInt8 → Option RQ
 | q, [] => some q
 | q, b :: l => match (if b.toNat < 128 then ZpT q b.toNat else none) with
  | none => none
  | some q' => goR q' l
theorem Jnl (q : RQ) (b : UInt8) (l : List UInt8) : goR q (b :: l) = (if b.toNat < 128 then ZpT q b.toNat else none).bind (goR · l) := by
 conv => lhs; unfold goR
 cases (if b.toNat < 128 then ZpT q b.toNat else none) <;> rfl
theorem Qhs : ∀ (q : RQ) (a b : List UInt8), goR q (a ++ b) = (goR q a).bind (goR · b)
 | q, [], b => rfl
 | q, x :: a, b => by
  rw [List.cons_append, Jnl, Jnl]
  cases (if x.toNat < 128 then ZpT q x.toNat else none) with
  | none => rfl
  | some q' => exact Qhs q' a b
theorem Qyf : ∀ (s : List UInt8) (pos : Nat) (q : RQ), runB ZpT YXy s pos q = none ↔ ∃ q', goR q s = some q' ∧ q'.k = .i
 | [], pos, q => by
  unfold runB goR YXy
  by_cases h : q.k = .i
  ·rw [if_pos (decide_eq_true h)]
   exact ⟨fun _ => ⟨q, rfl, h⟩, fun _ => rfl⟩
  ·rw [if_neg (by rw [decide_eq_false h]; decide)]
   exact ⟨fun e => (by cases e), fun ⟨q', e, h'⟩ => absurd (Option.some.inj e ▸ h') h⟩
 | b :: l, pos, q => by
  unfold runB goR
  cases (if b.toNat < 128 then ZpT q b.toNat else none) with
  | none => exact ⟨fun e => (by cases e), fun ⟨q', e, _⟩ => (by cases e)⟩
  | some q' => exact Qyf l (pos + 1) q'
def slN : List UInt8 → Nat
 | [] => 0
 | b :: l => (if b = 47 then 1 else 0) + slN l
theorem zuB : ∀ a b : List UInt8, slN (a ++ b) = slN a + slN b
 | [], b => by simp [slN]
 | x :: a, b => by
  have := zuB a b
  simp only [List.cons_append, slN, this]
  omega
theorem zh9 : ∀ a : List UInt8, slN a ≤ a.length
 | [] => Nat.le_refl _
 | x :: a => by
  have := zh9 a
  simp only [slN, List.length_cons]
  split <;> omega
theorem qME (n : Nat) (c : Int) (q : RQ) (h : zsl n c = some q) : lowP c ∧ q = ⟨n, .i⟩ := by
 unfold zsl at h
 split at h
 ·rename_i hc
  cases h
  exact ⟨hc, rfl⟩
 ·cases h
theorem q6o {n : Nat} {k : RK} {q : RQ} (h : ZpT ⟨n, k⟩ 47 = some q) : k = .i ∧ 0 < n ∧ q = ⟨n - 1, .w⟩ := by
 have hw : ∀ m, zsl m 47 = none := fun m => if_neg (by unfold lowP; omega)
 cases k
 ·rw [show ZpT ⟨n, .w⟩ 47 = zsl n 47 from rfl, hw] at h; cases h
 ·simp only [ZpT] at h
  by_cases h0 : 0 < n
  ·rw [if_pos ⟨trivial, h0⟩] at h
   cases h
   exact ⟨rfl, h0, rfl⟩
  ·rw [if_neg (fun z => h0 z.2), if_neg (by decide), if_neg (by decide), if_neg (by decide), hw] at h
   cases h
 ·simp only [ZpT] at h
  rw [if_neg (by decide), hw] at h; cases h
 ·simp only [ZpT] at h
  rw [if_neg (by decide), hw] at h; cases h
theorem J4N {n : Nat} {k : RK} {c : Int} {q : RQ} (hc : c ≠ 47) (h : ZpT ⟨n, k⟩ c = some q) : q.left = n ∧ ∀ m, ZpT ⟨m, k⟩ c = some ⟨m, q.k⟩ := by
 have hw : zsl n c = some q → q.left = n ∧ ∀ m, zsl m c = some ⟨m, q.k⟩ := fun e => by
  obtain ⟨h1, rfl⟩ := qME _ _ _ e
  exact ⟨rfl, fun m => if_pos h1⟩
 cases k
 ·exact hw h
 ·simp only [ZpT] at h ⊢
  rw [if_neg (fun z => hc z.1)] at h
  split at h
  ·rename_i h2
   cases h
   exact ⟨rfl, fun m => by rw [if_neg (fun z => hc z.1), if_pos h2]⟩
  ·rename_i h2
   split at h
   ·rename_i h3
    cases h
    exact ⟨rfl, fun m => by rw [if_neg (fun z => hc z.1), if_neg h2, if_pos h3]⟩
   ·rename_i h3
    split at h
    ·rename_i h4
     cases h
     exact ⟨rfl, fun m => by rw [if_neg (fun z => hc z.1), if_neg h2, if_neg h3, if_pos h4]⟩
    ·rename_i h4
     obtain ⟨e1, e2⟩ := hw h
     exact ⟨e1, fun m => by rw [if_neg (fun z => hc z.1), if_neg h2, if_neg h3, if_neg h4, e2]⟩
 ·simp only [ZpT] at h ⊢
  split at h
  ·rename_i h2
   cases h
   exact ⟨rfl, fun m => by rw [if_pos h2]⟩
  ·rename_i h2
   obtain ⟨e1, e2⟩ := hw h
   exact ⟨e1, fun m => by rw [if_neg h2, e2]⟩
 ·simp only [ZpT] at h ⊢
  split at h
  ·rename_i h2
   cases h
   exact ⟨rfl, fun m => by rw [if_pos h2]⟩
  ·rename_i h2
   obtain ⟨e1, e2⟩ := hw h
   exact ⟨e1, fun m => by rw [if_neg h2, e2]⟩
theorem q5c : ∀ (s : List UInt8) (n : Nat) (k : RK) (q : RQ), goR ⟨n, k⟩ s = some q → q.left + slN s = n ∧ ∀ m, slN s ≤ m → goR ⟨m, k⟩ s = some ⟨m - slN s, q.k⟩
 | [], n, k, q, h => by
  unfold goR at h
  cases h
  exact ⟨rfl, fun m _ => rfl⟩
 | b :: l, n, k, q, h => by
  rw [Jnl] at h
  by_cases hb : b.toNat < 128
  ·rw [if_pos hb] at h
   obtain ⟨q1, h1, h2⟩ := Option.bind_eq_some_iff.1 h
   by_cases hs : b = 47
   ·subst hs
    obtain ⟨rfl, h0, rfl⟩ := q6o (show ZpT ⟨n, k⟩ 47 = some q1 from h1)
    obtain ⟨e1, e2⟩ := q5c l _ _ _ h2
    simp only [slN, if_true]
    refine ⟨by omega, fun m hm => ?_⟩
    rw [Jnl, if_pos hb]
    have : ZpT ⟨m, .i⟩ ((47 : UInt8).toNat : Int) = some ⟨m - 1, .w⟩ := by
     show ZpT ⟨m, .i⟩ 47 = _
     simp only [ZpT]
     rw [if_pos ⟨trivial, by omega⟩]
    rw [this, Option.bind_some, e2 (m - 1) (by omega), show m - 1 - slN l = m - (1 + slN l) from by omega]
   ·obtain ⟨n1, k1⟩ := q1
    obtain ⟨e0, e3⟩ := J4N (fun e => hs (by
     apply UInt8.toNat_inj.1
     have : b.toNat = 47 := by omega
     exact this)) h1
    dsimp only at e0
    subst e0
    obtain ⟨e1, e2⟩ := q5c l _ _ _ h2
    simp only [slN, if_neg hs, Nat.zero_add]
    refine ⟨e1, fun m hm => ?_⟩
    rw [Jnl, if_pos hb, e3 m, Option.bind_some]
    exact e2 m hm
  ·rw [if_neg hb] at h
   cases h
def zHE (s : List UInt8) : Bool := decide (s.length ≤ 128) && (runB ZpT YXy s 0 ⟨7, .w⟩).isNone
theorem XhY (s : List UInt8) : zHE s = true ↔ s.length ≤ 128 ∧ ∃ q', goR ⟨7, .w⟩ s = some q' ∧ q'.k = .i := by
 unfold zHE
 rw [Bool.and_eq_true, decide_eq_true_eq, Option.isNone_iff_eq_none, Qyf]
theorem qea (s : List UInt8) : zHE s = true ↔ s.length ≤ 128 ∧ slN s ≤ 7 ∧ goR ⟨7, .w⟩ s = some ⟨7 - slN s, .i⟩ := by
 rw [XhY]
 constructor
 ·rintro ⟨h1, q', h2, h3⟩
  obtain ⟨e1, e2⟩ := q5c s _ _ _ h2
  have := e2 7 (by omega)
  rw [h3] at this
  exact ⟨h1, by omega, this⟩
 ·rintro ⟨h1, _, h3⟩
  exact ⟨h1, _, h3, rfl⟩
theorem JoO {a b : List UInt8} (ha : zHE a = true) (hb : zHE b = true) : zHE (a ++ 47 :: b) = decide ((a ++ 47 :: b).length ≤ 128 ∧ slN (a ++ 47 :: b) < 8) := by
 obtain ⟨a1, a2, a3⟩ := (qea a).1 ha
 obtain ⟨b1, b2, b3⟩ := (qea b).1 hb
 have hs : slN (a ++ 47 :: b) = slN a + (1 + slN b) := by rw [zuB]; rfl
 by_cases h : (a ++ 47 :: b).length ≤ 128 ∧ slN (a ++ 47 :: b) < 8
 ·rw [decide_eq_true h, XhY]
  refine ⟨h.1, ⟨7 - slN a - 1 - slN b, .i⟩, ?_, rfl⟩
  obtain ⟨_, e2⟩ := q5c b _ _ _ b3
  have e3 := e2 (7 - slN a - 1) (by omega)
  have st : ZpT ⟨7 - slN a, .i⟩ ((47 : UInt8).toNat : Int) = some ⟨7 - slN a - 1, .w⟩ := by
   show ZpT ⟨7 - slN a, .i⟩ 47 = _
   simp only [ZpT]
   rw [if_pos ⟨trivial, by omega⟩]
  rw [Qhs, a3, Option.bind_some, Jnl, if_pos (by decide), st, Option.bind_some]
  exact e3
 ·rw [decide_eq_false h, Bool.eq_false_iff]
  intro z
  obtain ⟨z1, z2, _⟩ := (qea _).1 z
  exact h ⟨z1, by omega⟩
theorem Q9C {a b : List UInt8} (h : zHE (a ++ 47 :: b) = true) : zHE a = true ∧ zHE b = true ∧ (a ++ 47 :: b).length ≤ 128 ∧ slN (a ++ 47 :: b) < 8 := by
 obtain ⟨h1, q', h2, h3⟩ := (XhY _).1 h
 have h5 := (qea _).1 h
 have hlen : (a ++ 47 :: b).length = a.length + (b.length + 1) := by simp
 rw [Qhs] at h2
 obtain ⟨⟨n, k⟩, e1, e2⟩ := Option.bind_eq_some_iff.1 h2
 rw [Jnl, if_pos (by decide)] at e2
 obtain ⟨q2, e3, e4⟩ := Option.bind_eq_some_iff.1 e2
 obtain ⟨rfl, h0, rfl⟩ := q6o (show ZpT ⟨n, k⟩ 47 = some q2 from e3)
 obtain ⟨f1, f2⟩ := q5c b _ _ _ e4
 obtain ⟨f3, _⟩ := q5c a _ _ _ e1
 dsimp only at f3
 have f4 := f2 7 (by omega)
 refine ⟨(XhY a).2 ⟨by omega, _, e1, rfl⟩, (XhY b).2 ⟨by omega, _, f4, ?_⟩, h1, by omega⟩
 exact h3
theorem Jtf (s : List UInt8) : ∃ a b, J3B s = .ag [.i .i64 a, .i .i64 b] ∧ JmA [CK.i, CK.i] [.i .i64 a, .i .i64 b] [.i .i64 0, .i .i64 0] = some (zHE s) := by
 unfold J3B zHE
 by_cases h : (128 : Int) < (s.length : Int)
 ·rw [if_pos h, decide_eq_false (by omega)]
  exact ⟨4, 128, rfl, rfl⟩
 ·rw [if_neg h, decide_eq_true (by omega)]
  cases runB ZpT YXy s 0 ⟨7, .w⟩ with
  | none => exact ⟨0, 0, rfl, rfl⟩
  | some p => exact ⟨7, p, rfl, by simp [JmA, YZb]⟩
end Go.Proofs.YthhghdebjiiliaaDoor
end
section
namespace Go.Proofs.YthhghdebjiiliaaDoor
set_option maxRecDepth 100000
set_option maxHeartbeats 4000000
theorem emT (p : Prop) : (p ∧ p = True) ∨ (¬ p ∧ p = False) := by
 by_cases h : p
 ·exact .inl ⟨h, eq_true h⟩
 ·exact .inr ⟨h, eq_false h⟩
end Go.Proofs.YthhghdebjiiliaaDoor
end
section
namespace Go.Proofs.YthhghdebjiiliaaDoor
open Go.RowKit Go.Lib
def isPr (c : Int) : Bool := (Lib.propertiesTab.getD c.toNat 0).toNat &&& 128 != 0
theorem Xco (q : Nat) : ((q : Int) != 0) = (q != 0) := by
 by_cases hq : q = 0
 ·subst hq; rfl
 ·have h1 : ((q : Int) != 0) = true := by simp; omega
  have h2 : (q != 0) = true := by simp; omega
  rw [h1, h2]
set_option maxHeartbeats 2000000 in
set_option maxRecDepth 1000000 in
theorem qlA (c : Nat) (w : World) (hc : c < 256) (hcell : w.cell? ⟨0, c, none⟩ = some (.int .u8 (Lib.propertiesTab.getD c 0))) :
  Calls Tryd.prog 35 #[.int .i32 c] w fun e w' => e = .returned (.bool (isPr c)) ∧ w' = w := by
 obtain ⟨-, -, -, p4, p5⟩ := Lib.props_all ⟨c, hc⟩
 simp only at p4 p5
 unfold isPr
 rw [Int.toNat_natCast]
 generalize Lib.propertiesTab.getD c 0 = pv at *
 have hand : bits .and .u8 pv 128 = ((pv.toNat &&& 128 : Nat) : Int) := u8_and pv 128 p4 p5 (by decide) (by decide)
 generalize pv.toNat &&& 128 = q at *
 have hcz : (c : Int) ≤ 255 := by omega
 have hcz2 : (c : Int) < 256 := by omega
 go_enter Tryd.func35, Tryd.ntmps35
 go_wp2
 all_goals (go_ret; refine ⟨congrArg Ending.returned ?_, rfl⟩; show Value.bool _ = Value.bool _; refine congrArg Value.bool ?_; exact Xco q)
theorem QGp {N : Nat} {w : World} (g : GG N w) {c : Nat} (hc : c < 256) : w.cell? ⟨0, c, none⟩ = some (.int .u8 (Lib.propertiesTab.getD c 0)) := by
 obtain ⟨_, _, cs, e, fz, h1, h2⟩ := g
 unfold World.cell?
 simp only [h1, Option.isSome_none, Bool.false_eq_true, if_false]
 exact h2 c hc
theorem Jzl {h : List AB} (c : Nat) (hc : c < 256) : FnC Tryd.prog 35 [.i .i32 c] h (.b (isPr c)) h := by
 refine ⟨⟨_, _, Tryd.func35, by decide, rfl⟩, fun ρ w vals hr hv => ?_⟩
 obtain ⟨N, g⟩ := hr.gl.some
 obtain ⟨hs, hvv⟩ := hv
 obtain ⟨l⟩ := vals
 match l, hs, hvv with
 | [x], _, hvv =>
  have hx := hvv 0 _ x rfl rfl
  cases hx
  refine (qlA c w hc (QGp g hc)).mono ?_
  rintro e' w' ⟨rfl, rfl⟩
  exact ⟨_, ρ, rfl, .b _, hr, (Eff.refl ρ h w').p (Ext.refl _) (by rw [hr.len]; exact Nat.le_refl _)⟩
def QWi (args : List AV) (_ : GT) (_ : Nat) : Option (AV × HE) :=
 match args with
 | [.i .i32 c] => match c with
  | .ofNat n => match Nat.blt n 256 with
   | true => some (.b (isPr (.ofNat n)), .z)
   | false => none
  | .negSucc _ => none
 | _ => none
theorem Zqv : NvOk Tryd.prog 35 QWi := fun args g h v e hg q => by
 unfold QWi at q
 split at q
 ·split at q
  ·rename_i n
   split at q
   ·rename_i hn
    cases q
    exact ⟨Jzl n (by rw [Nat.blt_eq] at hn; exact hn), trivial⟩
   ·cases q
  ·cases q
 ·cases q
end Go.Proofs.YthhghdebjiiliaaDoor
end
section
namespace Go.Proofs.YthhghdebjiiliaaDoor
def tl0 : List (Option TC) := [none, none, none, none, some (.cf w4), none, none, none, some (.cf w8), some (.cf w9), none, some (.cf w11), none, some (.cf w13), some (.cf w14), some (.cf w15)]
theorem ta0 : AllN Tryd.prog 0 tl0 := (AllN.skip (AllN.skip (AllN.skip (AllN.skip (AllN.cons Tryd.func4 sw4 (AllN.skip (AllN.skip (AllN.skip (AllN.cons Tryd.func8 sw8 (AllN.cons Tryd.func9 sw9 (AllN.skip (AllN.cons Tryd.func11 sw11 (AllN.skip (AllN.cons Tryd.func13 sw13 (AllN.cons Tryd.func14 sw14 (AllN.cons Tryd.func15 sw15 trivial))))))))))))))))
def tl1 : List (Option TC) := [some (.cf w16), some (.cf w17), some (.cf w18), some (.cf w19), none, none, none, some (.cf w23), some (.cf w24), some (.cf w25), some (.cf w26), none, none, some (.cf w29), some (.cf w30), some (.cf w31)]
theorem ta1 : AllN Tryd.prog 16 tl1 := (AllN.cons Tryd.func16 sw16 (AllN.cons Tryd.func17 sw17 (AllN.cons Tryd.func18 sw18 (AllN.cons Tryd.func19 sw19 (AllN.skip (AllN.skip (AllN.skip (AllN.cons Tryd.func23 sw23 (AllN.cons Tryd.func24 sw24 (AllN.cons Tryd.func25 sw25 (AllN.cons Tryd.func26 sw26 (AllN.skip (AllN.skip (AllN.cons Tryd.func29 sw29 (AllN.cons Tryd.func30 sw30 (AllN.cons Tryd.func31 sw31 trivial))))))))))))))))
def tl2 : List (Option TC) := [some (.cf w32), some (.cf w33), some (.cf w34), some (.nv QWi), some (.cf w36), some (.cf w37), some (.cf w38), some (.cf w39), some (.cf w40), some (.cf w41), some (.cf w42), none, some (.cf w44), some (.cf w45), some (.cf w46), some (.cf w47)]
theorem ta2 : AllN Tryd.prog 32 tl2 := (AllN.cons Tryd.func32 sw32 (AllN.cons Tryd.func33 sw33 (AllN.cons Tryd.func34 sw34 (AllN.nv Zqv (AllN.cons Tryd.func36 sw36 (AllN.cons Tryd.func37 sw37 (AllN.cons Tryd.func38 sw38 (AllN.cons Tryd.func39 sw39 (AllN.cons Tryd.func40 sw40 (AllN.cons Tryd.func41 sw41 (AllN.cons Tryd.func42 sw42 (AllN.skip (AllN.cons Tryd.func44 sw44 (AllN.cons Tryd.func45 sw45 (AllN.cons Tryd.func46 sw46 (AllN.cons Tryd.func47 sw47 trivial))))))))))))))))
def tl3 : List (Option TC) := [none, some (.cf w49), some (.cf w50), some (.cf w51), none, none, some (.cf w54), some (.cf w55), none, none, none, none, none, none, none, none]
theorem ta3 : AllN Tryd.prog 48 tl3 := (AllN.skip (AllN.cons Tryd.func49 sw49 (AllN.cons Tryd.func50 sw50 (AllN.cons Tryd.func51 sw51 (AllN.skip (AllN.skip (AllN.cons Tryd.func54 sw54 (AllN.cons Tryd.func55 sw55 (AllN.skip (AllN.skip (AllN.skip (AllN.skip (AllN.skip (AllN.skip (AllN.skip (AllN.skip trivial))))))))))))))))
def tls : List (List (Option TC)) := [tl0, tl1, tl2, tl3]
noncomputable def TT : TB := tabn tls
theorem qxz : zo7 Tryd.prog TT := Kwc tls (AllNs.cons ta0 (AllNs.cons ta1 (AllNs.cons ta2 (AllNs.cons ta3 trivial))))
end Go.Proofs.YthhghdebjiiliaaDoor
end
section
namespace Go.Proofs.YthhghdebjiiliaaDoor
theorem ct4 : runT TT 60 w4 = true := by kernel_rfl
theorem fc4 (h : List AB) : FnC Tryd.prog 4 [] h (.b true) h := FnC.closed (by kernel_rfl) qxz 60 4 (by kernel_rfl) ct4 h
end Go.Proofs.YthhghdebjiiliaaDoor
end
section
namespace Go.Proofs.YthhghdebjiiliaaDoor
set_option maxRecDepth 100000
set_option maxHeartbeats 4000000
def qoG : List AV → List AB → Option (AV × List AB)
 | [], h => some (.b true, h)
 | _, _ => none
theorem zoW : Spec Tryd.prog 4 qoG := by
 intro args h v h' e
 unfold qoG at e
 split at e
 ·cases e
  exact fc4 _
 ·cases e
def XDB : List AV → List AB → Option (AV × List AB)
 | [], h => some (.ag [.i .i64 0, .i .i64 0], h)
 | _, _ => none
theorem X9H : Spec Tryd.prog 14 XDB := by
 intro args h v h' e
 unfold XDB at e
 split at e
 ·cases e
  refine FnAt.c (FnAt.run (by kernel_rfl) (T := ⟨[], []⟩) ⟨trivial, trivial⟩ Tryd.func14 sw14 fun ho hh => ?_)
  unfold w14
  simp only [JaE, Qv4, Zsy, qtN, qup, if_true, if_false, ↓reduceIte, Nat.reduceAdd, Nat.reduceSub, Nat.reduceLeDiff, Nat.reduceEqDiff, Nat.reduceMul, Nat.reduceLT, Int.reduceLT, Int.reduceLE, Int.reduceEq, CO.tmps, Opd.tmps, optT, Nat.reducePow, Nat.reduceDiv, Nat.reduceMod]
  exact Bt.drop _ hh rfl rfl
 ·cases e
def zRP : List AV → List AB → Option (AV × List AB)
 | [.i .i64 a, .i .i64 b], h => if (-9223372036854775808 ≤ a ∧ a ≤ 9223372036854775807) ∧ 0 < b ∧ b ≤ 1000000 then some (.i .i64 (a % b), h) else none
 | _, _ => none
theorem zwg : Spec Tryd.prog 20 zRP := by
 intro args h v h' e
 unfold zRP at e
 split at e
 ·rename_i a b
  split at e
  ·rename_i hc
   obtain ⟨ha, hb, hb2⟩ := hc
   cases e
   refine FnAt.c (FnAt.run (by kernel_rfl) (T := ⟨[], []⟩) ⟨trivial, trivial⟩ Tryd.func20 sw20 fun ho hh => ?_)
   unfold w20
   have h0' : (b ≤ 0) = False := eq_false (by omega)
   have e1 : binV .rem (.i .i64 a) (.i .i64 b) = some (.i .i64 (a.tmod b)) := by
    show (if b = 0 then none else some (AV.i .i64 (a.tmod b))) = _
    rw [if_neg (by omega)]
   have t1 : -b < a.tmod b ∧ a.tmod b < b := ⟨Int.lt_tmod_of_pos a (by omega), Int.tmod_lt_of_pos a (by omega)⟩
   have em : a % b = a.tmod b % b := by
    have h1 := Int.mul_tdiv_add_tmod a b
    conv => lhs; rw [← h1]
    exact Int.mul_add_emod_self_left b _ _
   by_cases hn : a.tmod b < 0
   ·have e2 : IntKind.i64.wrap (a.tmod b + b) = a.tmod b + b := KqK (by unfold In64; omega)
    have e3 : a % b = a.tmod b + b := by rw [em, ← Int.add_emod_right, Int.emod_eq_of_lt (by omega) (by omega)]
    have hn' := eq_true hn
    simp only [JaE, Qv4, Zsy, qtN, qup, if_true, if_false, ↓reduceIte, Nat.reduceAdd, Nat.reduceSub, Nat.reduceLeDiff, Nat.reduceEqDiff, Nat.reduceMul, Nat.reduceLT, Int.reduceLT, Int.reduceLE, Int.reduceEq, CO.tmps, Opd.tmps, optT, Nat.reducePow, Nat.reduceDiv, Nat.reduceMod, h0', e1, e2, hn', e3, decide_true, decide_false, ne_eq, not_false_eq_true, not_true_eq_false, false_implies, forall_const, and_true, true_and]
    exact Bt.drop _ hh rfl rfl
   ·have e3 : a % b = a.tmod b := by rw [em, Int.emod_eq_of_lt (by omega) (by omega)]
    have hn' := eq_false hn
    simp only [JaE, Qv4, Zsy, qtN, qup, if_true, if_false, ↓reduceIte, Nat.reduceAdd, Nat.reduceSub, Nat.reduceLeDiff, Nat.reduceEqDiff, Nat.reduceMul, Nat.reduceLT, Int.reduceLT, Int.reduceLE, Int.reduceEq, CO.tmps, Opd.tmps, optT, Nat.reducePow, Nat.reduceDiv, Nat.reduceMod, h0', e1, hn', e3, decide_true, decide_false, ne_eq, not_false_eq_true, not_true_eq_false, false_implies, forall_const, and_true, true_and]
    exact Bt.drop _ hh rfl rfl
  ·cases e
 ·cases e
theorem Q1E (c : UInt8) : ((c.toNat : Int) = 47) = (c = 47) := by
 refine propext ⟨fun h => UInt8.toNat_inj.1 ?_, fun h => by subst h; rfl⟩
 show c.toNat = 47
 omega
theorem XVg {s : List UInt8} {i : Nat} (h : i < s.length) {c : UInt8} (hc : s.getD i 0 = c) : slN (s.take (i + 1)) = slN (s.take i) + (if c = 47 then 1 else 0) := by
 rw [List.take_succ_eq_append_getElem h, zuB]
 have : s[i] = c := by rw [← hc, List.getD_eq_getElem?_getD, List.getElem?_eq_getElem h]; rfl
 rw [this]
 simp [slN]
def JTM : List AV → List AB → Option (AV × List AB)
 | [.s s], h => if s.length ≤ 1000000 then some (.i .i64 (slN s : Int), h) else none
 | _, _ => none
theorem QQR : Spec Tryd.prog 21 JTM := by
 intro args h v h' e
 unfold JTM at e
 split at e
 ·rename_i s
  split at e
  ·rename_i hs
   cases e
   refine FnAt.c (FnAt.run (by kernel_rfl) (T := ⟨[], []⟩) ⟨trivial, trivial⟩ Tryd.func21 sw21 fun ho hh => ?_)
   unfold w21
   simp only [JaE, Qv4, Zsy, qtN, qup, if_true, if_false, ↓reduceIte, Nat.reduceAdd, Nat.reduceSub, Nat.reduceLeDiff, Nat.reduceEqDiff, Nat.reduceMul, Nat.reduceLT, Int.reduceLT, Int.reduceLE, Int.reduceEq, CO.tmps, Opd.tmps, optT, Nat.reducePow, Nat.reduceDiv, Nat.reduceMod]
   refine KIi (S := Nat) (fun i => s.length - i) (fun i => [.s s] ++ tp 2 ++ [.i .i64 (slN (s.take i) : Int), .i .i64 (i : Int)] ++ tp 13) (fun i => i ≤ s.length) 0 (Nat.zero_le _) ?_ fun i hi => ?_
   ·simp only [tp_0, tp_s, List.cons_append, List.nil_append, QEB, Yrg, zw4, and_true, true_and]
    exact ⟨Wk.refl _, Wk.refl _, Wk.refl _⟩
   have hsl := zh9 (s.take i)
   have hlt : (s.take i).length ≤ s.length := by rw [List.length_take]; omega
   by_cases g5 : i < s.length
   ·have g5' : ((i : Int) < (s.length : Int)) = True := eq_true (by omega)
    have w1 : IntKind.i64.wrap ((i : Int) + 1) = ((i + 1 : Nat) : Int) := KqK (by unfold In64; omega)
    have w2 : IntKind.i64.wrap ((slN (s.take i) : Int) + 1) = ((slN (s.take i) + 1 : Nat) : Int) := KqK (by unfold In64; omega)
    have x1 := YME (l := s) (n := i) .i64 g5
    obtain ⟨c, hc⟩ : ∃ c, s.getD i 0 = c := ⟨_, rfl⟩
    have ht := XVg g5 hc
    rw [hc] at x1
    by_cases h47 : c = 47
    ·rw [if_pos h47] at ht
     have g6 := eq_true h47
     simp only [Zsy, qtN, qup, if_true, if_false, ↓reduceIte, Nat.reduceAdd, Nat.reduceSub, Nat.reduceLeDiff, Nat.reduceEqDiff, Nat.reduceMul, Nat.reduceLT, Int.reduceLT, Int.reduceLE, Int.reduceEq, CO.tmps, Opd.tmps, optT, Nat.reducePow, Nat.reduceDiv, Nat.reduceMod, ZZA, KWu, g5', w1, w2, x1, YCt, Q1E, g6, Option.map_some, decide_true, decide_false, ne_eq, not_false_eq_true, not_true_eq_false, false_implies, forall_const, and_true, true_and]
     refine ⟨i + 1, g5, by omega, ?_⟩
     simp only [tp_0, tp_s, List.cons_append, List.nil_append, QEB, Yrg, zw4, ht, Nat.add_zero, Yii, and_true, true_and]
    ·rw [if_neg h47] at ht
     have g6 := eq_false h47
     simp only [Zsy, qtN, qup, if_true, if_false, ↓reduceIte, Nat.reduceAdd, Nat.reduceSub, Nat.reduceLeDiff, Nat.reduceEqDiff, Nat.reduceMul, Nat.reduceLT, Int.reduceLT, Int.reduceLE, Int.reduceEq, CO.tmps, Opd.tmps, optT, Nat.reducePow, Nat.reduceDiv, Nat.reduceMod, ZZA, KWu, g5', w1, w2, x1, YCt, Q1E, g6, Option.map_some, decide_true, decide_false, ne_eq, not_false_eq_true, not_true_eq_false, false_implies, forall_const, and_true, true_and]
     refine ⟨i + 1, g5, by omega, ?_⟩
     simp only [tp_0, tp_s, List.cons_append, List.nil_append, QEB, Yrg, zw4, ht, Nat.add_zero, Yii, and_true, true_and]
   ·have g5' : ((i : Int) < (s.length : Int)) = False := eq_false (by omega)
    have ht : s.take i = s := List.take_of_length_le (by omega)
    simp only [Zsy, qtN, qup, if_true, if_false, ↓reduceIte, Nat.reduceAdd, Nat.reduceSub, Nat.reduceLeDiff, Nat.reduceEqDiff, Nat.reduceMul, Nat.reduceLT, Int.reduceLT, Int.reduceLE, Int.reduceEq, CO.tmps, Opd.tmps, optT, Nat.reducePow, Nat.reduceDiv, Nat.reduceMod, ZZA, KWu, g5', ht, decide_true, decide_false, ne_eq, not_false_eq_true, not_true_eq_false, false_implies, forall_const, and_true, true_and]
    exact Bt.drop _ hh rfl rfl
  ·cases e
 ·cases e
end Go.Proofs.YthhghdebjiiliaaDoor
end
section
namespace Go.Proofs.YthhghdebjiiliaaDoor
set_option maxRecDepth 100000
set_option maxHeartbeats 4000000
theorem YvT {s : List UInt8} {i : Nat} (h : i < s.length) {c : UInt8} (hc : s.getD i 0 = c) : s.drop i = c :: s.drop (i + 1) ∧ slN (s.drop i) = (if c = 47 then 1 else 0) + slN (s.drop (i + 1)) := by
 have : s.drop i = c :: s.drop (i + 1) := by
  rw [List.drop_eq_getElem_cons h, ← hc, List.getD_eq_getElem?_getD, List.getElem?_eq_getElem h]
  rfl
 exact ⟨this, by rw [this]; rfl⟩
theorem z4K {x y : List UInt8} (h : x.length + y.length ≤ 10000000) : binV .add (.s x) (.s y) = some (.s (x ++ y)) := by
 show (if ((x.length + y.length : Nat) : Int) > IntKind.i64.max then none else some (AV.s (x ++ y))) = _
 rw [if_neg (by simp only [IntKind.max, IntKind.signed, IntKind.bits]; omega)]
theorem YTc : (false == true) = false := _root_.id rfl
theorem KIz : (true == true) = true := _root_.id rfl
theorem qi9 : (true == false) = false := _root_.id rfl
theorem J6t : (false == false) = true := _root_.id rfl
theorem zL3 {h : List AB} (hz : h.map AB.freeze = h) (a b : List UInt8) (w0 : Int) (hw : -9223372036854775808 ≤ w0 ∧ w0 ≤ 9223372036854775807) : FnAt Tryd.prog 6 [.s a, .s b, .i .i64 w0] h (.b true) h := by
  refine FnAt.run (by kernel_rfl) (T := ⟨[⟨4, qoG, fun _ => []⟩, ⟨13, qqY, fun _ => []⟩, ⟨14, XDB, fun _ => []⟩, ⟨21, JTM, fun _ => []⟩, ⟨20, zRP, fun _ => []⟩], []⟩) ⟨⟨zoW, Ytv, X9H, QQR, zwg, trivial⟩, trivial⟩ Tryd.func6 sw6 fun ho hh => ?_
  unfold w6
  by_cases g1 : (130 : Int) < (a.length : Int)
  · have g1' := eq_true g1
    simp only [JaE, Qv4, Zsy, qtN, qup, if_true, if_false, ↓reduceIte, Nat.reduceAdd, Nat.reduceSub, Nat.reduceLeDiff, Nat.reduceEqDiff, Nat.reduceMul, Nat.reduceLT, Int.reduceLT, Int.reduceLE, Int.reduceEq, CO.tmps, Opd.tmps, optT, Nat.reducePow, Nat.reduceDiv, Nat.reduceMod, g1', qoG, ZZA, KWu, decide_true, decide_false, ne_eq, not_false_eq_true, not_true_eq_false, false_implies, forall_const, and_true, true_and]
    exact Bt.dropB _ hh rfl
  have g1' := eq_false g1
  by_cases g2 : (130 : Int) < (b.length : Int)
  · have g2' := eq_true g2
    simp only [JaE, Qv4, Zsy, qtN, qup, if_true, if_false, ↓reduceIte, Nat.reduceAdd, Nat.reduceSub, Nat.reduceLeDiff, Nat.reduceEqDiff, Nat.reduceMul, Nat.reduceLT, Int.reduceLT, Int.reduceLE, Int.reduceEq, CO.tmps, Opd.tmps, optT, Nat.reducePow, Nat.reduceDiv, Nat.reduceMod, g1', g2', qoG, ZZA, KWu, decide_true, decide_false, ne_eq, not_false_eq_true, not_true_eq_false, false_implies, forall_const, and_true, true_and]
    exact Bt.dropB _ hh rfl
  have g2' := eq_false g2
  obtain ⟨s, hs⟩ : ∃ s, s = a ++ 47 :: b := ⟨_, rfl⟩
  have hsl : s.length = a.length + (b.length + 1) := by rw [hs]; simp
  have es : a ++ [47] ++ b = s := by rw [hs, List.append_assoc]; rfl
  have l1 : (a.length ≤ 1000000) = True := eq_true (by omega)
  have l2 : (b.length ≤ 1000000) = True := eq_true (by omega)
  have l3 : (s.length ≤ 1000000) = True := eq_true (by omega)
  obtain ⟨a1, a2, ra, qa⟩ := Jtf a
  obtain ⟨b1, b2, rb, qb⟩ := Jtf b
  obtain ⟨s1, s2, rs, qs⟩ := Jtf s
  have hn := zh9 s
  have y1 : binV .add (.s a) (.s [47]) = some (.s (a ++ [47])) := z4K (by simp; omega)
  have y2 : binV .add (.s (a ++ [47])) (.s b) = some (.s s) := by rw [z4K (by simp; omega), es]
  cases hC : zHE s with
  | false =>
    rw [hC] at qs
    rcases emT ((s.length : Int) ≤ 128) with ⟨d3, c3⟩ | ⟨d3, c3⟩ <;> rcases emT ((slN s : Int) < 8) with ⟨d4, c4⟩ | ⟨d4, c4⟩ <;> cases hA : zHE a <;> cases hB : zHE b <;> rw [hA] at qa <;> rw [hB] at qb
    all_goals first
      | (exfalso
         have := JoO hA hB
         rw [← hs, hC, decide_eq_true (by omega)] at this
         cases this)
      | (simp only [JaE, Qv4, Zsy, qtN, qup, if_true, if_false, ↓reduceIte, Nat.reduceAdd, Nat.reduceSub, Nat.reduceLeDiff, Nat.reduceEqDiff, Nat.reduceMul, Nat.reduceLT, Int.reduceLT, Int.reduceLE, Int.reduceEq, CO.tmps, Opd.tmps, optT, Nat.reducePow, Nat.reduceDiv, Nat.reduceMod, g1', g2', qoG, qqY, XDB, JTM, l1, l2, l3, y1, y2, ra, rb, rs, qa, qb, qs, c3, c4, ZZA, KWu, Bool.not_true, Bool.not_false, bne, YTc, KIz, qi9, J6t, decide_true, decide_false, ne_eq, not_false_eq_true, not_true_eq_false, false_implies, forall_const, and_true, true_and]
         exact Bt.dropB _ hh rfl)
  | true =>
    rw [hs] at hC
    obtain ⟨hA, hB, hL, hS⟩ := Q9C hC
    rw [← hs] at hC hL hS
    rw [hA] at qa
    rw [hB] at qb
    rw [hC] at qs
    have c3 : ((s.length : Int) ≤ 128) = True := eq_true (by omega)
    have c4 : ((slN s : Int) < 8) = True := eq_true (by omega)
    have sp : 0 < slN s := by rw [hs, zuB]; simp only [slN, if_true]; omega
    have c5 : ((-9223372036854775808 ≤ w0 ∧ w0 ≤ 9223372036854775807) ∧ 0 < (slN s : Int) ∧ (slN s : Int) ≤ 1000000) = True := eq_true ⟨hw, by omega, by omega⟩
    obtain ⟨m, hm, hm2⟩ : ∃ m : Nat, w0 % (slN s : Int) = (m : Int) ∧ m < slN s := by
      have e1 := Int.emod_nonneg w0 (b := (slN s : Int)) (by omega)
      have e2 := Int.emod_lt_of_pos w0 (b := (slN s : Int)) (by omega)
      exact ⟨(w0 % (slN s : Int)).toNat, by omega, by omega⟩
    simp only [JaE, Qv4, Zsy, qtN, qup, if_true, if_false, ↓reduceIte, Nat.reduceAdd, Nat.reduceSub, Nat.reduceLeDiff, Nat.reduceEqDiff, Nat.reduceMul, Nat.reduceLT, Int.reduceLT, Int.reduceLE, Int.reduceEq, CO.tmps, Opd.tmps, optT, Nat.reducePow, Nat.reduceDiv, Nat.reduceMod, g1', g2', qoG, qqY, XDB, JTM, zRP, l1, l2, l3, y1, y2, ra, rb, rs, qa, qb, qs, c3, c4, c5, hm, ZZA, KWu, Bool.not_true, Bool.not_false, bne, YTc, KIz, qi9, J6t, decide_true, decide_false, ne_eq, not_false_eq_true, not_true_eq_false, false_implies, forall_const, and_true, true_and]
    refine KIi (S := Nat × Nat) (fun σ => s.length - σ.1) (fun σ => tp 2 ++ [.i .i64 (σ.2 : Int)] ++ tp 4 ++ [.b true, .s s] ++ tp 1 ++ [.i .i64 (σ.1 : Int)] ++ tp 81) (fun σ => σ.1 ≤ s.length ∧ σ.2 < slN (s.drop σ.1)) (0, m) ⟨Nat.zero_le _, hm2⟩ ?_ fun σ hσ => ?_
    · simp only [tp_0, tp_s, List.cons_append, List.nil_append, QEB, Yrg, zw4, Yii, and_true, true_and]
      exact Wk.refl _
    obtain ⟨i, n⟩ := σ
    obtain ⟨hi, hin⟩ := hσ
    dsimp only at hi hin ⊢
    have hd := zh9 (s.drop i)
    rw [List.length_drop] at hd
    have g5 : i < s.length := by
      rcases Nat.lt_or_ge i s.length with q | q
      · exact q
      · rw [List.drop_eq_nil_of_le q] at hin
        simp [slN] at hin
    have g5' : ((i : Int) < (s.length : Int)) = True := eq_true (by omega)
    have w1 : IntKind.i64.wrap ((i : Int) + 1) = ((i + 1 : Nat) : Int) := KqK (by unfold In64; omega)
    have x1 := YME (l := s) (n := i) .i64 g5
    obtain ⟨c, hc⟩ : ∃ c, s.getD i 0 = c := ⟨_, rfl⟩
    obtain ⟨ht1, ht2⟩ := YvT g5 hc
    rw [hc] at x1
    by_cases h47 : c = 47
    · have g6 := eq_true h47
      rw [if_pos h47] at ht2
      by_cases n0 : n = 0
      · subst n0
        have hcut : s = s.take i ++ 47 :: s.drop (i + 1) := by
          conv => lhs; rw [← List.take_append_drop i s, ht1, h47]
        obtain ⟨hX, hY, _, _⟩ := Q9C (a := s.take i) (b := s.drop (i + 1)) (by rw [← hcut]; exact hC)
        obtain ⟨p1, p2, rp, qp⟩ := Jtf (s.take i)
        obtain ⟨t1, t2, rt, qt⟩ := Jtf (s.drop (i + 1))
        rw [hX] at qp
        rw [hY] at qt
        have l4 : ((s.take i).length ≤ 1000000) = True := eq_true (by rw [List.length_take]; omega)
        have l5 : ((s.drop (i + 1)).length ≤ 1000000) = True := eq_true (by rw [List.length_drop]; omega)
        have v1 := z3j (l := s) (n := i) .i64 (by omega)
        have v2 := Ju6 (l := s) (n := i + 1) .i64 (by omega)
        have z0 : (((0 : Nat) : Int) = 0) = True := eq_true rfl
        simp only [Zsy, qtN, qup, if_true, if_false, ↓reduceIte, Nat.reduceAdd, Nat.reduceSub, Nat.reduceLeDiff, Nat.reduceEqDiff, Nat.reduceMul, Nat.reduceLT, Int.reduceLT, Int.reduceLE, Int.reduceEq, CO.tmps, Opd.tmps, optT, Nat.reducePow, Nat.reduceDiv, Nat.reduceMod, ZZA, KWu, g5', w1, x1, YCt, YIx, v1, v2, qqY, XDB, rp, rt, qp, qt, l4, l5, Q1E, g6, z0, Option.map_some, decide_true, decide_false, ne_eq, not_false_eq_true, not_true_eq_false, false_implies, forall_const, and_true, true_and]
        exact Bt.dropB _ hh rfl
      · have z0 : (((n : Nat) : Int) = 0) = False := eq_false (by omega)
        have w2 : IntKind.i64.wrap ((n : Int) - 1) = ((n - 1 : Nat) : Int) := by rw [KqK (by unfold In64; omega)]; omega
        simp only [Zsy, qtN, qup, if_true, if_false, ↓reduceIte, Nat.reduceAdd, Nat.reduceSub, Nat.reduceLeDiff, Nat.reduceEqDiff, Nat.reduceMul, Nat.reduceLT, Int.reduceLT, Int.reduceLE, Int.reduceEq, CO.tmps, Opd.tmps, optT, Nat.reducePow, Nat.reduceDiv, Nat.reduceMod, ZZA, KWu, g5', w1, w2, x1, YCt, YIx, Q1E, g6, z0, Option.map_some, decide_true, decide_false, ne_eq, not_false_eq_true, not_true_eq_false, false_implies, forall_const, and_true, true_and]
        refine ⟨(i + 1, n - 1), ⟨g5, by dsimp only; omega⟩, by dsimp only; omega, ?_⟩
        simp only [tp_0, tp_s, List.cons_append, List.nil_append, QEB, Yrg, zw4, Yii, and_true, true_and]
    · have g6 := eq_false h47
      rw [if_neg h47, Nat.zero_add] at ht2
      simp only [Zsy, qtN, qup, if_true, if_false, ↓reduceIte, Nat.reduceAdd, Nat.reduceSub, Nat.reduceLeDiff, Nat.reduceEqDiff, Nat.reduceMul, Nat.reduceLT, Int.reduceLT, Int.reduceLE, Int.reduceEq, CO.tmps, Opd.tmps, optT, Nat.reducePow, Nat.reduceDiv, Nat.reduceMod, ZZA, KWu, g5', w1, x1, YCt, YIx, Q1E, g6, Option.map_some, decide_true, decide_false, ne_eq, not_false_eq_true, not_true_eq_false, false_implies, forall_const, and_true, true_and]
      refine ⟨(i + 1, n), ⟨g5, by dsimp only; omega⟩, by dsimp only; omega, ?_⟩
      simp only [tp_0, tp_s, List.cons_append, List.nil_append, QEB, Yrg, zw4, Yii, and_true, true_and]
end Go.Proofs.YthhghdebjiiliaaDoor
end
