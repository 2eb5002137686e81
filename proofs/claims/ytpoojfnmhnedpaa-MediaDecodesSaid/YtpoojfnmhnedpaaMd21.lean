/- Part 21 of what the laws' proofs rest on. No condition. -/
import Derived.Test.YtpoojfnmhnedpaaMd20
set_option linter.all false
section
namespace Go.Proofs.Ytpoojfnmhnedpaa
set_option maxRecDepth 100000
set_option maxHeartbeats 4000000
theorem KFU {bs : List UInt8} {x : RSt} {sz : Int} (h : (Knm bs x sz).1.2.1 = 0) : (Knm bs x sz).1.2 = (0, 0) := by
 unfold Knm at h ⊢
 dsimp only at h ⊢
 split at h
 ·rename_i g1
  rw [if_pos g1]
  split at h
  ·rename_i g2
   rw [if_pos g2]
   split at h
   ·exact absurd h (show ¬ (4 : Int) = 0 by decide)
   ·rename_i g3
    rw [if_neg g3]
  ·rename_i g2
   rw [if_neg g2]
   split at h
   ·rename_i g3
    rw [if_pos g3]
    split at h
    ·exact absurd h (show ¬ (4 : Int) = 0 by decide)
    ·rename_i g4
     rw [if_neg g4]
   ·exact absurd h (show ¬ (20 : Int) = 0 by decide)
 ·exact absurd h (show ¬ (20 : Int) = 0 by decide)
theorem qQ1 {bs : List UInt8} (h : (decF bs (Knm bs ⟨0, 0, 0⟩ bs.length)).1 = 0) : decF bs (Knm bs ⟨0, 0, 0⟩ bs.length) = (0, 0) := by
 rcases JO2 (Qjy bs) (JYw bs _) with q | q
 ·exact absurd h q.1
 ·exact q.1
noncomputable def Q7S : List AV → List AB → Option (AV × List AB)
 | [a], h => (getS Xdl h a).bind fun bs => if bs.length ≤ 1000000 ∧ a.capOk = true ∧ (idOf a).all (fun k => decide (k < h.length)) = true then
   some (.tu [.ag (.i .i64 (mdec bs).1.kind :: .s (mdec bs).1.title :: (deR.f (dsc (mdec bs).1.config) ++ [rsl deR h.length ((mdec bs).1.layers.map dsc), rsl deR (h.length + 1) ((mdec bs).1.subs.map dsc)])), .ag [.i .i64 (mdec bs).2.1, .i .i64 (mdec bs).2.2]], h ++ [resB deR true ((mdec bs).1.layers.map dsc), resB deR true ((mdec bs).1.subs.map dsc)]) else none
 | _, _ => none
theorem z93 {h : List AB} {bs : List UInt8} {a : AV} (ha : Rd Xdl h a bs) (hi : ∀ k ∈ idOf a, k < h.length) (hc : a.capOk = true) :
  (∀ B0 B1 (x : RSt) R, x.pos ≤ bs.length → rdQ (h ++ (B0 :: B1 :: .blk false true [a, .i .i64 (x.pos : Nat), .i .i64 x.err, .i .i64 x.ea] :: R)) (h.length + 2) = some (a, bs, x)) ∧
  (∀ B0 B1 B2 (x : RSt) R, qB (h ++ (B0 :: B1 :: B2 :: R)) (h.length + 2) a x = h ++ (B0 :: B1 :: .blk false true [a, .i .i64 (x.pos : Nat), .i .i64 x.err, .i .i64 x.ea] :: R)) := by
 refine ⟨fun B0 B1 x R hx => ?_, fun B0 B1 B2 x R => ?_⟩
 ·exact ZGF (L := B0 :: B1 :: .blk false true [a, .i .i64 (x.pos : Nat), .i .i64 x.err, .i .i64 x.ea] :: R) (a := 2) rfl ha hi hc hx
 ·unfold qB
  rw [List.set_append_right _ _ (by omega), Nat.add_sub_cancel_left]
  rfl
theorem qQL : Spec Try.prog 21 Q7S := by
 intro args h v h' e
 unfold Q7S at e
 split at e
 ·rename_i a
  obtain ⟨bs, ha, e⟩ := Zly e
  split at e
  ·rename_i hl
   cases e
   obtain ⟨hl, hcap, hid⟩ := hl
   replace hid : ∀ k ∈ idOf a, k < h.length := fun k hk => of_decide_eq_true (List.all_eq_true.1 hid k hk)
   refine FnAt.c (FnAt.frz fun hz => ?_)
   rw [show h.length = (h.map AB.freeze).length from (List.length_map _).symm] at hid ⊢
   replace ha := ha.frz
   generalize h.map AB.freeze = h at *
   refine FnAt.run (by kernel_rfl) (T := ⟨[⟨52, qCl, fun _ => []⟩, ⟨53, Z4p, fun _ => []⟩, ⟨54, JOk, fun _ => []⟩, ⟨55, zhz, fun _ => []⟩], []⟩) ⟨⟨qZT, KBi, zxk, qdV, trivial⟩, trivial⟩ Try.func21 sw21 fun ho hh => ?_
   simp only [JjX, Bool.and_eq_true] at ho
   have fa := ha.fx ho.1 (sz := 1) rfl
   have hs := ha.isSl
   unfold w21
   by_cases g1 : 4096 < bs.length
   ·have g1' : ((4096 : Int) < (bs.length : Int)) = True := eq_true (by omega)
    have hr : mdec bs = (manZ, 4, 4096) := by unfold mdec; rw [if_pos g1]
    rw [hr]
    simp only [JaG, Qv6, Zsz, qtO, quq, simprocAttr, CO.tmps, Opd.tmps, optT, Nat.reducePow, Nat.reduceDiv, Nat.reduceMod, fa, g1', Qmy, qtq hh, Kxf hz, Xez hz, XWV hz]
    exact QAf hh (a := 0) (b := 1) (by simp) (by simp) (by decide) (ls := []) (ss := []) (.inl rfl) (.inl rfl) (Wk.nil _ _) (Wk.nil _ _) (.i .i64 0 :: .s [] :: deR.f (dsc deZ)) [.i .i64 4, .i .i64 4096] (qZW _ _ _) (XMv _ _)
   have g1' : ((4096 : Int) < (bs.length : Int)) = False := eq_false (by omega)
   obtain ⟨x, hx⟩ : ∃ x, x = Knm bs ⟨0, 0, 0⟩ bs.length := ⟨_, rfl⟩
   have hp : x.2.pos ≤ bs.length := by rw [hx]; exact Zm2 (Nat.zero_le _)
   obtain ⟨o1, o3⟩ := z93 ha hid hcap
   have o1' : ∀ B0 B1 R, rdQ (h ++ (B0 :: B1 :: .blk false true [a, .i .i64 0, .i .i64 0, .i .i64 0] :: R)) (h.length + 2) = some (a, bs, ⟨0, 0, 0⟩) := fun B0 B1 R => o1 B0 B1 ⟨0, 0, 0⟩ R (Nat.zero_le _)
   have q0 : ((0 : Int) ≤ (bs.length : Int)) = True := eq_true (by omega)
   have q1 : ((bs.length : Int) ≤ 1000000) = True := eq_true (by omega)
   have q2 : (bs.length ≤ 1000000) = True := eq_true hl
   have q3 := eq_true hp
   have hr : mdec bs = if decF bs x = (0, 0) then (x.1.1, 0, 0) else (manZ, decF bs x) := by unfold mdec; rw [if_neg g1, ← hx]
   have hd0 : (decF bs x).1 = 0 → decF bs x = (0, 0) := by rw [hx]; exact qQ1
   have hx0 : x.1.2.1 = 0 → x.1.2 = (0, 0) := by rw [hx]; exact KFU
   obtain ⟨b1, b2, b3, b4, b5⟩ := Yeu (dsc x.1.1.config)
   have b6 := zPU (dsc x.1.1.config)
   obtain ⟨v1, v2, v3, v4, v5, v6⟩ := ov35 b1
   have hao : ∀ c lo hi anc past, a.ok (qOk (h.length + c) lo hi anc past) = true := fun c lo hi anc past => AV.ok_mono (fun k hk => Y9A (by simp only [decide_eq_true_eq] at hk; omega)) a ho.1
   rw [hr]
   by_cases gf : (qSQ bs x.2).1 = 0
   ·have gF : Z3n bs x.2 = false := by unfold Z3n; rw [decide_eq_false (fun q => q gf)]; rfl
    have gf' := eq_true gf
    by_cases g3 : x.1.2.1 = 0
    ·have g3' := eq_true g3
     have hd : decF bs x = qSQ bs x.2 := by unfold decF; rw [if_neg (by rw [gF]; decide), if_pos (hx0 g3)]
     rw [hd] at hd0 ⊢
     have hz0 := hd0 gf
     have z2 : (qSQ bs x.2).2 = 0 := by rw [hz0]
     rw [if_pos hz0]
     simp only [JaG, Qv6, Zsz, qtO, quq, simprocAttr, CO.tmps, Opd.tmps, optT, Nat.reducePow, Nat.reduceDiv, Nat.reduceMod, QjP, Yzo, fa, hs, g1', q0, q1, q2, q3, b1, b3, b4, b6, v1, v4, v5, v6, ZeW, YSK, Xx4, List.all_append, hao, ← hx, o1', o1, o3, qCl, Z4p, JOk, zhz, Qmy, qtq hh, Kxf hz, Xez hz, XWV hz, ne_eq, not_true_eq_false, not_false_eq_true, decide_true, decide_false, gf, gf', g3', z2]
     exact QAf hh (a := 3) (b := 4) (by simp) (by simp) (by decide) (ls := x.1.1.layers.map dsc) (ss := x.1.1.subs.map dsc) (.inr rfl) (.inr rfl) (Wk.refl _) (Wk.refl _) (.i .i64 x.1.1.kind :: .s x.1.1.title :: deR.f (dsc x.1.1.config)) [.i .i64 0, .i .i64 0] (qZW _ _ _) (XMv _ _)
    ·have g3' := eq_false g3
     have hd : decF bs x = x.1.2 := by unfold decF; rw [if_neg (by rw [gF]; decide), if_neg fun q => g3 (by rw [q])]
     rw [hd]
     have hz0 : ¬ x.1.2 = (0, 0) := fun q => g3 (by rw [q])
     rw [if_neg hz0]
     simp only [JaG, Qv6, Zsz, qtO, quq, simprocAttr, CO.tmps, Opd.tmps, optT, Nat.reducePow, Nat.reduceDiv, Nat.reduceMod, QjP, Yzo, fa, hs, g1', q0, q1, q2, q3, b1, b3, b4, b6, v1, v4, v5, v6, ZeW, YSK, Xx4, List.all_append, hao, ← hx, o1', o1, o3, qCl, Z4p, JOk, zhz, Qmy, qtq hh, Kxf hz, Xez hz, XWV hz, ne_eq, not_true_eq_false, not_false_eq_true, decide_true, decide_false, gf, gf', g3']
     exact QAf hh (a := 0) (b := 1) (by simp) (by simp) (by decide) (ls := []) (ss := []) (.inl rfl) (.inl rfl) (Wk.nil _ _) (Wk.nil _ _) (.i .i64 0 :: .s [] :: deR.f (dsc deZ)) [.i .i64 x.1.2.1, .i .i64 x.1.2.2] (qZW _ _ _) (XMv _ _)
   have gf' := eq_false gf
   by_cases gr : qPL bs x.2 = 0
   ·have gF : Z3n bs x.2 = true := by unfold Z3n; rw [decide_eq_true gf, decide_eq_true gr]; rfl
    have gr' := eq_true gr
    have hd : decF bs x = qSQ bs x.2 := by unfold decF; rw [if_pos gF]
    rw [hd]
    have hz0 : ¬ qSQ bs x.2 = (0, 0) := fun q => gf (by rw [q])
    rw [if_neg hz0]
    simp only [JaG, Qv6, Zsz, qtO, quq, simprocAttr, CO.tmps, Opd.tmps, optT, Nat.reducePow, Nat.reduceDiv, Nat.reduceMod, QjP, Yzo, fa, hs, g1', q0, q1, q2, q3, b1, b3, b4, b6, v1, v4, v5, v6, ZeW, YSK, Xx4, List.all_append, hao, ← hx, o1', o1, o3, qCl, Z4p, JOk, zhz, Qmy, qtq hh, Kxf hz, Xez hz, XWV hz, ne_eq, not_true_eq_false, not_false_eq_true, decide_true, decide_false, gf', gr']
    exact QAf hh (a := 0) (b := 1) (by simp) (by simp) (by decide) (ls := []) (ss := []) (.inl rfl) (.inl rfl) (Wk.nil _ _) (Wk.nil _ _) (.i .i64 0 :: .s [] :: deR.f (dsc deZ)) [.i .i64 (qSQ bs x.2).1, .i .i64 (qSQ bs x.2).2] (qZW _ _ _) (XMv _ _)
   have gr' := eq_false gr
   have gF : Z3n bs x.2 = false := by unfold Z3n; rw [decide_eq_false gr, Bool.and_false]
   by_cases g3 : x.1.2.1 = 0
   ·have g3' := eq_true g3
    have hd : decF bs x = qSQ bs x.2 := by unfold decF; rw [if_neg (by rw [gF]; decide), if_pos (hx0 g3)]
    rw [hd]
    have hz0 : ¬ qSQ bs x.2 = (0, 0) := fun q => gf (by rw [q])
    rw [if_neg hz0]
    simp only [JaG, Qv6, Zsz, qtO, quq, simprocAttr, CO.tmps, Opd.tmps, optT, Nat.reducePow, Nat.reduceDiv, Nat.reduceMod, QjP, Yzo, fa, hs, g1', q0, q1, q2, q3, b1, b3, b4, b6, v1, v4, v5, v6, ZeW, YSK, Xx4, List.all_append, hao, ← hx, o1', o1, o3, qCl, Z4p, JOk, zhz, Qmy, qtq hh, Kxf hz, Xez hz, XWV hz, ne_eq, not_true_eq_false, not_false_eq_true, decide_true, decide_false, gf', gr', g3']
    exact QAf hh (a := 0) (b := 1) (by simp) (by simp) (by decide) (ls := []) (ss := []) (.inl rfl) (.inl rfl) (Wk.nil _ _) (Wk.nil _ _) (.i .i64 0 :: .s [] :: deR.f (dsc deZ)) [.i .i64 (qSQ bs x.2).1, .i .i64 (qSQ bs x.2).2] (qZW _ _ _) (XMv _ _)
   ·have g3' := eq_false g3
    have hd : decF bs x = x.1.2 := by unfold decF; rw [if_neg (by rw [gF]; decide), if_neg fun q => g3 (by rw [q])]
    rw [hd]
    have hz0 : ¬ x.1.2 = (0, 0) := fun q => g3 (by rw [q])
    rw [if_neg hz0]
    simp only [JaG, Qv6, Zsz, qtO, quq, simprocAttr, CO.tmps, Opd.tmps, optT, Nat.reducePow, Nat.reduceDiv, Nat.reduceMod, QjP, Yzo, fa, hs, g1', q0, q1, q2, q3, b1, b3, b4, b6, v1, v4, v5, v6, ZeW, YSK, Xx4, List.all_append, hao, ← hx, o1', o1, o3, qCl, Z4p, JOk, zhz, Qmy, qtq hh, Kxf hz, Xez hz, XWV hz, ne_eq, not_true_eq_false, not_false_eq_true, decide_true, decide_false, gf', gr', g3']
    exact QAf hh (a := 0) (b := 1) (by simp) (by simp) (by decide) (ls := []) (ss := []) (.inl rfl) (.inl rfl) (Wk.nil _ _) (Wk.nil _ _) (.i .i64 0 :: .s [] :: deR.f (dsc deZ)) [.i .i64 x.1.2.1, .i .i64 x.1.2.2] (qZW _ _ _) (XMv _ _)
  ·cases e
 ·cases e
end Go.Proofs.Ytpoojfnmhnedpaa
end
section
namespace Go.Proofs.Ytpoojfnmhnedpaa
set_option maxRecDepth 100000
set_option maxHeartbeats 4000000
theorem qKs (a b c d : Int) : JmC [.i, .i] [.i .i64 a, .i .i64 b] [.i .i64 c, .i .i64 d] = some (decide ((a, b) = (c, d))) := by
 simp only [JmC, YZc, if_true, Option.bind_some, Option.map_some, Option.some.injEq, Bool.and_true, Prod.mk.injEq]
 rw [Bool.eq_iff_iff]
 simp
end Go.Proofs.Ytpoojfnmhnedpaa
end
section
namespace Go.Proofs.Ytpoojfnmhnedpaa
set_option maxRecDepth 100000
set_option maxHeartbeats 4000000
theorem JFx (b : List UInt8) : ((mdec b).1.layers.map dsc).length ≤ 1000000 ∧ ((mdec b).1.subs.map dsc).length ≤ 1000000 := by
 by_cases g : (mdec b).2.1 = 0
 ·obtain ⟨hin, -, -, -⟩ := ZXF g
  have := hin.lay
  have := hin.sub
  simp only [List.length_map]
  omega
 ·rw [JfM g]
  exact ⟨Nat.zero_le _, Nat.zero_le _⟩
theorem Zj9 {h L : List AB} {k : Int} {t : List UInt8} {c : Dsc} {ls ss : List Dsc} {a b : Nat} (ha : L[a]? = some (resB deR true ls)) (hb : L[b]? = some (resB deR true ss)) (hne : a ≠ b) (h1 : ls.length ≤ 1000000) (h2 : ss.length ≤ 1000000) : Yyp [.ag (.i .i64 k :: .s t :: (deR.f c ++ [rsl deR (h.length + a) ls, rsl deR (h.length + b) ss]))] (h ++ L) = some (.tu [], h ++ (L.set a .dead).set b .dead) := by
 have ga : (h ++ L)[h.length + a]? = some (resB deR true ls) := by rw [YOy]; exact ha
 have gb : (h ++ L)[h.length + b]? = some (resB deR true ss) := by rw [YOy]; exact hb
 have im : inM (h ++ L) (.ag (.i .i64 k :: .s t :: (deR.f c ++ [rsl deR (h.length + a) ls, rsl deR (h.length + b) ss]))) = some (k, t, c, rsl deR (h.length + a) ls, rsl deR (h.length + b) ss, ls, ss) := Kkh (Y2R ga (by unfold maxLen; omega)).get (Y2R gb (by unfold maxLen; omega)).get
 unfold Yyp
 simp only [im, Option.bind_some, z2s]
 rw [if_pos ⟨rfl, ga, rfl, gb, by omega, h1, h2⟩, Y2K, Y2K]
theorem QcR {h : List AB} (hz : h.map AB.freeze = h) {s : AV} {b : List UInt8} (hs : Rd Xdl h s b) (hcap : s.capOk = true) (hid : ∀ k ∈ idOf s, k < h.length) : FnAt Try.prog 4 [s] h (.b true) h := by
 refine FnAt.run (by kernel_rfl) (T := ⟨[⟨9, YUu, fun _ => []⟩, ⟨19, Qox, fun _ => []⟩, ⟨20, Qim, fun _ => []⟩, ⟨21, Q7S, fun _ => []⟩, ⟨18, Khp, fun _ => []⟩, ⟨22, Yyp, fun _ => []⟩, ⟨23, XFY, fun _ => []⟩], []⟩) ⟨⟨QrV, KYQ, Xqq, qQL, KXT, zqJ, Z1e, trivial⟩, trivial⟩ Try.func4 sw4 fun ho hh => ?_
 simp only [JjX, Bool.and_eq_true] at ho
 have f1 := hs.fx ho.1 (sz := 1) rfl
 unfold w4
 by_cases g1 : 5000 < b.length
 ·have g1' : ((5000 : Int) < (b.length : Int)) = True := eq_true (by omega)
  simp only [JaG, Qv6, Zsz, qtO, quq, simprocAttr, CO.tmps, Opd.tmps, optT, Nat.reducePow, Nat.reduceDiv, Nat.reduceMod, f1, g1', YUu]
  exact Bt.drop _ hh rfl rfl
 have g1' : ((5000 : Int) < (b.length : Int)) = False := eq_false (by omega)
 have g2' : (b.length ≤ 1000000) = True := eq_true (by omega)
 have xl : (Xdl.cells (b ++ zMY)).length = b.length + 4 := by rw [Xdl.cells_len, Xcx, List.length_append, Nat.mul_one]; rfl
 have gl : ∀ L, ownC L 0 = some (Xdl.cells (b ++ zMY)) → getS Xdl (h ++ L) (.sl (h.length + 0) 0 b.length (b.length + 4) (some 1)) = some b := fun L q => by
  have hr : Za2 (h ++ L) (h.length + 0) = some (Xdl.cells (b ++ zMY)) := by rw [YHH]; exact q
  exact (Rd.mk_sl (r := Xdl) (l := b) hr rfl (by rw [xl, Xcx]; omega) (by rw [List.drop_zero, Xcx, Nat.mul_one, Yq4, Yq4, List.map_append, List.take_left' (by rw [List.length_map])]) (by unfold maxLen; omega)).get
 have ia : ∀ c, (idOf s).all (fun k => decide (k < h.length + c)) = true := fun c => List.all_eq_true.2 fun k hk => decide_eq_true (by have := hid k hk; omega)
 have hlen := Zjj b
 have hlen6 := JFx b
 obtain ⟨D, hD⟩ : ∃ D, D = mdec b := ⟨_, rfl⟩
 rw [← hD] at hlen hlen6
 have iml : ∀ (H : List AB) (l s : AV), getS deR H l = some (D.1.layers.map dsc) → getS deR H s = some (D.1.subs.map dsc) → inM H (.ag (.i .i64 D.1.kind :: .s D.1.title :: (deR.f (dsc D.1.config) ++ [l, s]))) = some (D.1.kind, D.1.title, dsc D.1.config, l, s, D.1.layers.map dsc, D.1.subs.map dsc) := fun H l s q1 q2 => Kkh q1 q2
 have key : ∀ x y z w : AV, (MT.key (D.1.kind, D.1.title, dsc D.1.config, x, y, D.1.layers.map dsc, D.1.subs.map dsc) = MT.key (D.1.kind, D.1.title, dsc D.1.config, z, w, D.1.layers.map dsc, D.1.subs.map dsc)) = True := fun x y z w => eq_true rfl
 obtain ⟨m1, m2, m3, m4⟩ := z3G (dsc D.1.config)
 have ll1 := eq_true hlen.1
 have ll2 := eq_true hlen.2
 have ll3 := eq_true hlen6.1
 have ll4 := eq_true hlen6.2
 have ov := fun L q1 q2 => Zj9 (h := h) (L := L) (k := D.1.kind) (t := D.1.title) (c := dsc D.1.config) (ls := D.1.layers.map dsc) (ss := D.1.subs.map dsc) (a := 1) (b := 2) q1 q2 (by decide) hlen6.1 hlen6.2
 simp only [JaG, Qv6, Zsz, qtO, quq, simprocAttr, CO.tmps, Opd.tmps, optT, Nat.reducePow, Nat.reduceDiv, Nat.reduceMod, f1, g1', g2', gl, ia, hcap, iml, key, m1, m2, m3, m4, ll1, ll2, ll3, ll4, ov, ← hD, qKs, eq_self, ne_eq, not_true_eq_false, not_false_eq_true, decide_true, decide_false, YUu, Qox, Qim, Q7S, Khp, XFY]
 exact Bt.drop _ hh rfl rfl
end Go.Proofs.Ytpoojfnmhnedpaa
end
