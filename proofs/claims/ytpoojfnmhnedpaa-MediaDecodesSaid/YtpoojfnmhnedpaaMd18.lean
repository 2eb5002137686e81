/- Part 18 of what the laws' proofs rest on. No condition. -/
import Derived.Test.YtpoojfnmhnedpaaMd17
set_option linter.all false
section
namespace Go.Proofs.Ytpoojfnmhnedpaa
set_option maxRecDepth 100000
set_option maxHeartbeats 4000000
theorem JBE {T : Env} {fr : List AV} {h : List AB} (x : Opd) : opR T (.capo x) fr h = (match x.ev fr with
  | .ns => some (.i .i64 0, h)
  | .sl _ _ _ c none => some (.i .i64 c, h)
  | _ => none) := by
 simp only [opR, CO.isCall, CO.run]
 cases x.ev fr <;> first | rfl | (rename_i k; cases k <;> rfl)
theorem KXo {T : Env} {fr : List AV} {h : List AB} (fl : Bool) (z : List AV) (by_ : Nat) (s n : Opd) : opR T (.apz fl z by_ s n) fr h = (match s.ev fr, n.ev fr with
  | .ns, .i _ m => if m = 0 then some (.ns, h) else if 0 < m ∧ m.toNat * by_ ≤ 140737488355328 ∧ m.toNat ≤ maxLen then newB h fl ((List.replicate m.toNat z).flatten) (fun k => .sl k 0 m.toNat m.toNat (some z.length)) else none
  | _, _ => none) := by
 simp only [opR, CO.isCall, CO.run]
 cases s.ev fr <;> first | rfl | (cases n.ev fr <;> rfl)
def zsD (n : Nat) : List AV := deR.cells (List.replicate n (dsc deZ))
theorem K1v (n : Nat) : (zsD n).length = n * 35 := by unfold zsD; rw [deR.cells_len, List.length_replicate]; rfl
theorem Xt3 (n : Nat) : (List.replicate n (deR.f (dsc deZ))).flatten = zsD n := by
 unfold zsD Row.cells
 rw [List.flatMap_replicate]
theorem Z3A (n : Nat) : (zsD n).all (wrOk true) = true := Q0X YJ2 _
theorem zZK (l : List Dsc) : (deR.cells l).all (wrOk true) = true := Q0X YJ2 l
noncomputable def qDf : List AV → List AB → Option (AV × List AB)
 | [.ns, .i .i64 n], h => if 0 ≤ n ∧ n ≤ 1000000 then (if n = 0 then some (.ns, h ++ [.dead]) else some (.sl h.length 0 0 n.toNat (some 35), h ++ [.blk true true (zsD n.toNat)])) else none
 | _, _ => none
theorem zu6 : Spec Try.prog 61 qDf := by
 intro args h v h' e
 unfold qDf at e
 split at e
 ·rename_i n
  split at e
  ·rename_i hn
   obtain ⟨N, rfl⟩ := Int.eq_ofNat_of_zero_le hn.1
   refine FnAt.c (FnAt.run (by kernel_rfl) (T := ⟨[], []⟩) ⟨trivial, trivial⟩ Try.func61 sw61 fun ho hh => ?_)
   have w0 : IntKind.i64.wrap (0 - 0) = 0 := rfl
   have w1 : IntKind.i64.wrap ((N : Int) - 0) = (N : Int) := by rw [Int.sub_zero]; exact KqM (by unfold In64; omega)
   have g0 : ((N : Int) < 0) = False := eq_false (by omega)
   unfold w61
   by_cases h0 : N = 0
   ·rw [if_pos (by omega)] at e
    cases e
    have g1 : ((0 : Int) < (N : Int)) = False := eq_false (by omega)
    simp only [JaG, Qv6, Zsz, qtO, quq, if_true, if_false, ↓reduceIte, Nat.reduceAdd, Nat.reduceSub, Nat.reduceLeDiff, Nat.reduceEqDiff, Nat.reduceMul, Nat.reduceLT, Int.reduceLT, Int.reduceLE, Int.reduceEq, CO.tmps, Opd.tmps, optT, Nat.reducePow, Nat.reduceDiv, Nat.reduceMod, JBE, KXo, w0, w1, g0, g1]
    rw [List.append_nil]
    exact Bt.pad _ _ 1
   ·rw [if_neg (by omega)] at e
    cases e
    have g1 : ((0 : Int) < (N : Int)) = True := eq_true (by omega)
    have g2 : ((N : Int) = 0) = False := eq_false (by omega)
    have g3 : (N * 64 ≤ 140737488355328 ∧ N ≤ maxLen) = True := eq_true ⟨by omega, by unfold maxLen; omega⟩
    have s1 : slL 35 .ns none (some (.i .i64 0)) none = some .ns := rfl
    have s2 : ∀ id k, slL 35 (.sl id 0 N N k) none (some (.i .i64 0)) none = some (.sl id 0 0 N k) := fun id k => by
     simp only [slL, bnd]
     rw [if_pos ⟨Int.le_refl _, by omega⟩]
     rfl
    simp only [JaG, Qv6, Zsz, qtO, quq, if_true, if_false, ↓reduceIte, Nat.reduceAdd, Nat.reduceSub, Nat.reduceLeDiff, Nat.reduceEqDiff, Nat.reduceMul, Nat.reduceLT, Int.reduceLT, Int.reduceLE, Int.reduceEq, CO.tmps, Opd.tmps, optT, Nat.reducePow, Nat.reduceDiv, Nat.reduceMod, JBE, KXo, w0, w1, g0, g1, g2, g3, s1, s2, ← KO7, Xt3, Z3A, deR.len, Qy1, Option.map_none, Option.map_some]
    exact Bt.eq rfl rfl
  ·cases e
 ·cases e
def catD (a b : List Dsc) (k : Nat) : Nat := if k = 0 then 0 else if k = 1 then a.length else a.length + b.length
open Classical in
noncomputable def zaa : List AV → List AB → Option (AV × List AB)
 | [.sl id 0 2 _ _], h => match Za2 h id with
  | some [l, s] => (getS deR h l).bind fun ls => (getS deR h s).bind fun ss => if ls.length + ss.length ≤ 100000 then some (apS deR h.length (ls ++ ss), h ++ [resB deR true (ls ++ ss)]) else none
  | _ => none
 | _, _ => none
def catX (a b : List Dsc) (k : Nat) : List AV :=
 if k = 0 then zsD (a.length + b.length) else if k = 1 then over (zsD (a.length + b.length)) 0 (deR.cells a) else over (over (zsD (a.length + b.length)) 0 (deR.cells a)) (a.length * 35) (deR.cells b)
theorem XQ7 (a b : List Dsc) (k : Nat) : (catX a b k).length = (a.length + b.length) * 35 := by
 have ha : (deR.cells a).length = a.length * 35 := deR.cells_len a
 have hb : (deR.cells b).length = b.length * 35 := deR.cells_len b
 unfold catX
 split
 ·exact K1v _
 ·split
  ·rw [Kmx _ _ _ (by rw [K1v, ha]; omega), K1v]
  ·rw [Kmx _ _ _ (by rw [Kmx _ _ _ (by rw [K1v, ha]; omega), K1v, hb]; omega), Kmx _ _ _ (by rw [K1v, ha]; omega), K1v]
theorem QLQ (a b : List Dsc) : catX a b 2 = deR.cells (a ++ b) := by
 have ha : (deR.cells a).length = a.length * 35 := deR.cells_len a
 have hb : (deR.cells b).length = b.length * 35 := deR.cells_len b
 have hz := K1v (a.length + b.length)
 have e1 : ∀ Z : List AV, Z.length = (deR.cells a).length + (deR.cells b).length → over (over Z 0 (deR.cells a)) (deR.cells a).length (deR.cells b) = deR.cells a ++ deR.cells b := fun Z hZ => by
  have e1 : (deR.cells a ++ Z.drop (deR.cells a).length).take (deR.cells a).length = deR.cells a := List.take_left' rfl
  have e2 : (deR.cells a ++ Z.drop (deR.cells a).length).drop ((deR.cells a).length + (deR.cells b).length) = [] := List.drop_eq_nil_of_le (by rw [List.length_append, List.length_drop]; omega)
  simp only [over, List.take_zero, List.nil_append, Nat.zero_add, e1, e2, List.append_nil]
 have := e1 (zsD (a.length + b.length)) (by omega)
 rw [ha] at this
 show over (over (zsD (a.length + b.length)) 0 (deR.cells a)) (a.length * 35) (deR.cells b) = _
 rw [this]
 simp only [Row.cells, List.flatMap_append]
theorem qjv {h : List AB} (n len m : Nat) (xs ys : List AV) (hm : len + m ≤ n) (hy : len * 35 + ys.length ≤ xs.length) (ha : ys.all (wrOk true) = true) (h0 : m = 0 → ys = []) : appW (h ++ [.blk true true xs]) true 35 64 (.sl (h.length + 0) 0 len n (some 35)) m ys = some (.sl (h.length + 0) 0 (len + m) n (some 35), h ++ [.blk true true (over xs (len * 35) ys)]) := by
 unfold appW
 dsimp only
 by_cases q : m = 0
 ·rw [if_pos q, h0 q, q]
  have : over xs (len * 35) [] = xs := by simp [over]
  rw [this]
  rfl
 ·rw [if_neg q, if_pos hm, Zjz, zJJ, Nat.zero_add, if_pos ⟨hy, ha⟩]
  rfl
theorem Kcf : Spec Try.prog 38 zaa := by
 intro args h v h' e
 unfold zaa at e
 split at e
 ·rename_i id cap kk
  split at e
  ·rename_i l s hid
   obtain ⟨ls, hl, e⟩ := Zly e
   obtain ⟨ss, hs, e⟩ := Zly e
   split at e
   ·rename_i hlen
    cases e
    refine FnAt.c (FnAt.run (by kernel_rfl) (T := ⟨[⟨61, qDf, fun _ => []⟩], []⟩) ⟨⟨zu6, trivial⟩, trivial⟩ Try.func38 sw38 fun ho hh => ?_)
    have f1 := Yx2 hid
    have okk : okL (fun i => decide (i < h.length)) [l, s] = true ∨ True := .inr trivial
    have l1 := zuq hl.isSl
    have l2 := YWX hl.isSl
    have l3 := hl.len
    have l4 := hl.src (sz := 35) rfl
    have t1 := zuq hs.isSl
    have t2 := YWX hs.isSl
    have t3 := hs.len
    have t4 := hs.src (sz := 35) rfl
    have w0 : IntKind.i64.wrap (0 + (ls.length : Int)) = (ls.length : Int) := by rw [Int.zero_add]; exact KqM (by unfold In64; omega)
    have w1 : IntKind.i64.wrap ((ls.length : Int) + (ss.length : Int)) = ((ls.length + ss.length : Nat) : Int) := by rw [Int.natCast_add]; exact KqM (by unfold In64; omega)
    have w2 : IntKind.i64.wrap (0 + 1) = 1 := rfl
    have w3 : IntKind.i64.wrap (1 + 1) = 2 := rfl
    have g0 : ((ls.length : Int) < 0) = False := eq_false (by omega)
    have g1 : (((ls.length + ss.length : Nat) : Int) < 0) = False := eq_false (by omega)
    have c0 : catD ls ss 0 = 0 := rfl
    have c1 : catD ls ss 1 = ls.length := rfl
    have c2 : catD ls ss 2 = ls.length + ss.length := rfl
    have ia : ∀ n : Nat, n < 2 → iadV 1 (.sl id 0 2 cap kk) (.i .i64 n) = some (.p id n) := fun n hn => by
     simp only [iadV]
     rw [if_pos ⟨by omega, by omega⟩]
     simp
    have lsl : lenV (.sl id 0 2 cap kk) = some 2 := rfl
    have i0 : iadV 1 (.sl id 0 2 cap kk) (.i .i64 0) = some (.p id 0) := ia 0 (by omega)
    have i1 : iadV 1 (.sl id 0 2 cap kk) (.i .i64 1) = some (.p id 1) := ia 1 (by omega)
    unfold w38
    simp only [JaG, Qv6, Zsz, qtO, quq, if_true, if_false, ↓reduceIte, Nat.reduceAdd, Nat.reduceSub, Nat.reduceLeDiff, Nat.reduceEqDiff, Nat.reduceMul, Nat.reduceLT, Int.reduceLT, Int.reduceLE, Int.reduceEq, CO.tmps, Opd.tmps, optT, Nat.reducePow, Nat.reduceDiv, Nat.reduceMod, f1, lsl]
    refine KIk (S := Nat) (fun k => 2 - k) (fun k => [.sl id 0 2 cap kk] ++ tp 2 ++ [.i .i64 (catD ls ss k)] ++ tp 5 ++ [.sl id 0 2 cap kk, .i .i64 2, .i .i64 k] ++ tp 24) (fun k => k ≤ 2) 0 (Nat.zero_le _) (by simp only [Zsz, quq, if_true, if_false, reduceIte, Nat.reduceAdd, Nat.reduceSub, Nat.reduceLeDiff, Nat.reduceEqDiff, Nat.reduceMul, Nat.reduceLT, Int.reduceLT, Int.reduceLE, Int.reduceEq, c0, Int.natCast_zero]) fun k hk => ?_
    rcases (by omega : k = 0 ∨ k = 1 ∨ k = 2) with rfl | rfl | rfl
    ·simp only [Zsz, qtO, quq, if_true, if_false, ↓reduceIte, Nat.reduceAdd, Nat.reduceSub, Nat.reduceLeDiff, Nat.reduceEqDiff, Nat.reduceMul, Nat.reduceLT, Int.reduceLT, Int.reduceLE, Int.reduceEq, CO.tmps, Opd.tmps, optT, Nat.reducePow, Nat.reduceDiv, Nat.reduceMod, f1, i0, c0, w0, w2, g0, l1, l2, l3]
     exact ⟨1, by omega, by omega, fun _ _ h => h, fun _ _ h => h⟩
    ·simp only [Zsz, qtO, quq, if_true, if_false, ↓reduceIte, Nat.reduceAdd, Nat.reduceSub, Nat.reduceLeDiff, Nat.reduceEqDiff, Nat.reduceMul, Nat.reduceLT, Int.reduceLT, Int.reduceLE, Int.reduceEq, CO.tmps, Opd.tmps, optT, Nat.reducePow, Nat.reduceDiv, Nat.reduceMod, f1, i1, c1, w1, w3, g1, t1, t2, t3]
     exact ⟨2, by omega, by omega, fun _ _ h => h, fun _ _ h => h⟩
    ·have gn : (((ls.length + ss.length : Nat) : Int) ≤ 1000000) = True := eq_true (by omega)
     by_cases h0 : ls.length + ss.length = 0
     ·have h0' : (((ls.length + ss.length : Nat) : Int) = 0) = True := eq_true (by omega)
      have a0 : ls.length = 0 := by omega
      have b0 : ss.length = 0 := by omega
      have m0 := eq_true a0
      have m1 := eq_true b0
      simp only [Zsz, qtO, quq, if_true, if_false, ↓reduceIte, Nat.reduceAdd, Nat.reduceSub, Nat.reduceLeDiff, Nat.reduceEqDiff, Nat.reduceMul, Nat.reduceLT, Int.reduceLT, Int.reduceLE, Int.reduceEq, CO.tmps, Opd.tmps, optT, Nat.reducePow, Nat.reduceDiv, Nat.reduceMod, f1, lsl, c2, gn, h0', qDf]
      refine KIk (S := Nat) (fun k => 2 - k) (fun k => tp 6 ++ [.ns] ++ tp 18 ++ [.sl id 0 2 cap kk, .i .i64 2, .i .i64 k] ++ tp 8) (fun k => k ≤ 2) 0 (Nat.zero_le _) (by simp only [Zsz, quq, if_true, if_false, reduceIte, Nat.reduceAdd, Nat.reduceSub, Nat.reduceLeDiff, Nat.reduceEqDiff, Nat.reduceMul, Nat.reduceLT, Int.reduceLT, Int.reduceLE, Int.reduceEq, Int.natCast_zero]) fun k hk => ?_
      rcases (by omega : k = 0 ∨ k = 1 ∨ k = 2) with rfl | rfl | rfl
      ·simp only [Zsz, qtO, quq, if_true, if_false, ↓reduceIte, Nat.reduceAdd, Nat.reduceSub, Nat.reduceLeDiff, Nat.reduceEqDiff, Nat.reduceMul, Nat.reduceLT, Int.reduceLT, Int.reduceLE, Int.reduceEq, CO.tmps, Opd.tmps, optT, Nat.reducePow, Nat.reduceDiv, Nat.reduceMod, f1, i0, w2, l1, l2, l4, m0, zZK]
       exact ⟨1, by omega, by omega, fun _ _ h => h⟩
      ·simp only [Zsz, qtO, quq, if_true, if_false, ↓reduceIte, Nat.reduceAdd, Nat.reduceSub, Nat.reduceLeDiff, Nat.reduceEqDiff, Nat.reduceMul, Nat.reduceLT, Int.reduceLT, Int.reduceLE, Int.reduceEq, CO.tmps, Opd.tmps, optT, Nat.reducePow, Nat.reduceDiv, Nat.reduceMod, f1, i1, w3, t1, t2, t4, m1, zZK]
       exact ⟨2, by omega, by omega, fun _ _ h => h⟩
      ·simp only [Zsz, qtO, quq, if_true, if_false, ↓reduceIte, Nat.reduceAdd, Nat.reduceSub, Nat.reduceLeDiff, Nat.reduceEqDiff, Nat.reduceMul, Nat.reduceLT, Int.reduceLT, Int.reduceLE, Int.reduceEq, CO.tmps, Opd.tmps, optT, Nat.reducePow, Nat.reduceDiv, Nat.reduceMod, f1]
       have e1 : ls ++ ss = [] := by rw [List.eq_nil_of_length_eq_zero a0, List.eq_nil_of_length_eq_zero b0]; rfl
       rw [e1]
       exact Bt.eq rfl rfl
     ·have h0' : (((ls.length + ss.length : Nat) : Int) = 0) = False := eq_false (by omega)
      have x0 := XQ7 ls ss 0
      have x1 := XQ7 ls ss 1
      have ha : (deR.cells ls).length = ls.length * 35 := deR.cells_len ls
      have hb : (deR.cells ss).length = ss.length * 35 := deR.cells_len ss
      have y0 := qjv (h := h) (ls.length + ss.length) 0 ls.length (catX ls ss 0) (deR.cells ls) (by omega) (by omega) (zZK _) (fun q => List.eq_nil_of_length_eq_zero (by omega))
      have y1 := qjv (h := h) (ls.length + ss.length) ls.length ss.length (catX ls ss 1) (deR.cells ss) (by omega) (by omega) (zZK _) (fun q => List.eq_nil_of_length_eq_zero (by omega))
      rw [Nat.zero_mul, Nat.zero_add] at y0
      have z0 : zsD (ls.length + ss.length) = catX ls ss 0 := rfl
      have z1 : over (catX ls ss 0) 0 (deR.cells ls) = catX ls ss 1 := rfl
      have z2 : over (catX ls ss 1) (ls.length * 35) (deR.cells ss) = catX ls ss 2 := rfl
      rw [z1] at y0
      rw [z2] at y1
      simp only [Zsz, qtO, quq, if_true, if_false, ↓reduceIte, Nat.reduceAdd, Nat.reduceSub, Nat.reduceLeDiff, Nat.reduceEqDiff, Nat.reduceMul, Nat.reduceLT, Int.reduceLT, Int.reduceLE, Int.reduceEq, CO.tmps, Opd.tmps, optT, Nat.reducePow, Nat.reduceDiv, Nat.reduceMod, f1, lsl, c2, gn, h0', qDf, z0]
      refine JRq (S := Nat) (fun k => 2 - k) (fun k => tp 6 ++ [.sl (h.length + 0) 0 (catD ls ss k) (ls.length + ss.length) (some 35)] ++ tp 18 ++ [.sl id 0 2 cap kk, .i .i64 2, .i .i64 k] ++ tp 8) (fun k => h ++ [.blk true true (catX ls ss k)]) (fun k => k ≤ 2) 0 (Nat.zero_le _) (Bt.wk (by simp only [Zsz, quq, if_true, if_false, reduceIte, Nat.reduceAdd, Nat.reduceSub, Nat.reduceLeDiff, Nat.reduceEqDiff, Nat.reduceMul, Nat.reduceLT, Int.reduceLT, Int.reduceLE, Int.reduceEq, c0, Int.natCast_zero])) fun k hk => ?_
      rcases (by omega : k = 0 ∨ k = 1 ∨ k = 2) with rfl | rfl | rfl
      ·simp only [Zsz, qtO, quq, if_true, if_false, ↓reduceIte, Nat.reduceAdd, Nat.reduceSub, Nat.reduceLeDiff, Nat.reduceEqDiff, Nat.reduceMul, Nat.reduceLT, Int.reduceLT, Int.reduceLE, Int.reduceEq, CO.tmps, Opd.tmps, optT, Nat.reducePow, Nat.reduceDiv, Nat.reduceMod, f1, i0, w2, l1, l2, l4, y0, c0, zZK]
       exact ⟨1, by omega, by dsimp only; omega, Bt.wk (by simp only [Zsz, quq, if_true, if_false, reduceIte, Nat.reduceAdd, Nat.reduceSub, Nat.reduceLeDiff, Nat.reduceEqDiff, Nat.reduceMul, Nat.reduceLT, Int.reduceLT, Int.reduceLE, Int.reduceEq, c1, Int.cast_ofNat_Int])⟩
      ·simp only [Zsz, qtO, quq, if_true, if_false, ↓reduceIte, Nat.reduceAdd, Nat.reduceSub, Nat.reduceLeDiff, Nat.reduceEqDiff, Nat.reduceMul, Nat.reduceLT, Int.reduceLT, Int.reduceLE, Int.reduceEq, CO.tmps, Opd.tmps, optT, Nat.reducePow, Nat.reduceDiv, Nat.reduceMod, f1, i1, w3, t1, t2, t4, y1, c1, zZK]
       exact ⟨2, by omega, by dsimp only; omega, Bt.wk (by simp only [Zsz, quq, if_true, if_false, reduceIte, Nat.reduceAdd, Nat.reduceSub, Nat.reduceLeDiff, Nat.reduceEqDiff, Nat.reduceMul, Nat.reduceLT, Int.reduceLT, Int.reduceLE, Int.reduceEq, c2, Int.cast_ofNat_Int])⟩
      ·simp only [Zsz, qtO, quq, if_true, if_false, ↓reduceIte, Nat.reduceAdd, Nat.reduceSub, Nat.reduceLeDiff, Nat.reduceEqDiff, Nat.reduceMul, Nat.reduceLT, Int.reduceLT, Int.reduceLE, Int.reduceEq, CO.tmps, Opd.tmps, optT, Nat.reducePow, Nat.reduceDiv, Nat.reduceMod, f1, c2]
       have e1 : (ls ++ ss).length = ls.length + ss.length := List.length_append
       refine Bt.eq ?_ ?_
       ·unfold apS
        rw [if_neg (by omega), e1, Qy1]
        rfl
       ·unfold resB
        rw [if_neg (by omega), QLQ]
   ·cases e
  ·cases e
 ·cases e
end Go.Proofs.Ytpoojfnmhnedpaa
end
section
namespace Go.Proofs.Ytpoojfnmhnedpaa
set_option maxRecDepth 100000
set_option maxHeartbeats 4000000
noncomputable def T_E5 : List AV → List AB → Option (AV × List AB)
 | [.p wb 0], h => match Za2 h wb with
  | some [.p i 0] => wSeq (fun lim st => wN lim st 77) h i
  | _ => none
 | _, _ => none
noncomputable def T_E6 : List AV → List AB → Option (AV × List AB)
 | [.p wb 0, .p mb 0], h => match Za2 h wb, Za2 h mb with
  | some [.p i 0], some (.i .i64 k :: _) => if In64 k then wSeq (fun lim st => wN lim st k) h i else none
  | _, _ => none
 | _, _ => none
noncomputable def T_E7 : List AV → List AB → Option (AV × List AB)
 | [.p wb 0, .p mb 0], h => match Za2 h wb, Za2 h mb with
  | some [.p i 0], some (_ :: .s t :: _) => if t.length ≤ 1000000 then wSeq (fun lim st => wT lim st t) h i else none
  | _, _ => none
 | _, _ => none
theorem qxl : (In64 77) = True := eq_true (by unfold In64; omega)
theorem J4h : Spec Try.prog 40 T_E5 := by
 intro args h v h' e
 unfold T_E5 at e
 split at e
 ·rename_i wb
  split at e
  ·rename_i i hwb
   unfold wSeq at e
   obtain ⟨j, lim, s, bs, er, H, e3⟩ := Yf0 e
   clear e
   cases e3
   dsimp only
   refine FnAt.c (FnAt.run (by kernel_rfl) (T := ⟨[⟨28, Xta, fun _ => []⟩], []⟩) ⟨⟨Yzq, trivial⟩, trivial⟩ Try.func40 sw40 fun ho hh => ?_)
   obtain ⟨k1, R1, q1, I1, l1⟩ := ZNh (D := []) (R := []) H (st := (bs, er)) (k := none) rfl H.hlen (JDl 77) true
   rw [wX_0 H] at q1
   dsimp only [List.nil_append] at q1
   have f1 := Yx2 hwb
   unfold w40
   simp only [JaG, Qv6, Zsz, qtO, quq, simprocAttr, CO.tmps, Opd.tmps, optT, Nat.reducePow, Nat.reduceDiv, Nat.reduceMod, f1, qxl, q1, Xta]
   exact qbQ H hh I1 _ rfl
  ·cases e
 ·cases e
theorem ZLI : Spec Try.prog 41 T_E6 := by
 intro args h v h' e
 unfold T_E6 at e
 split at e
 ·rename_i wb mb
  split at e
  ·rename_i i kd rest hwb hmb
   split at e
   ·rename_i hk
    unfold wSeq at e
    obtain ⟨j, lim, s, bs, er, H, e3⟩ := Yf0 e
    clear e
    cases e3
    dsimp only
    refine FnAt.c (FnAt.run (by kernel_rfl) (T := ⟨[⟨28, Xta, fun _ => []⟩], []⟩) ⟨⟨Yzq, trivial⟩, trivial⟩ Try.func41 sw41 fun ho hh => ?_)
    obtain ⟨k1, R1, q1, I1, l1⟩ := ZNh (D := []) (R := []) H (st := (bs, er)) (k := none) rfl H.hlen (JDl kd) (decide (0 ≤ kd))
    rw [wX_0 H] at q1
    dsimp only [List.nil_append] at q1
    have f1 := Yx2 hwb
    have f2 := Yx2 hmb
    have d1 := eq_true hk
    unfold w41
    simp only [JaG, Qv6, Zsz, qtO, quq, simprocAttr, CO.tmps, Opd.tmps, optT, Nat.reducePow, Nat.reduceDiv, Nat.reduceMod, f1, f2, d1, q1, Xta]
    exact qbQ H hh I1 _ rfl
   ·cases e
  ·cases e
 ·cases e
theorem qft : Spec Try.prog 42 T_E7 := by
 intro args h v h' e
 unfold T_E7 at e
 split at e
 ·rename_i wb mb
  split at e
  ·rename_i i c0 t rest hwb hmb
   split at e
   ·rename_i hk
    unfold wSeq at e
    obtain ⟨j, lim, s, bs, er, H, e3⟩ := Yf0 e
    clear e
    cases e3
    dsimp only
    refine FnAt.c (FnAt.run (by kernel_rfl) (T := ⟨[⟨29, ZZw, fun _ => []⟩], []⟩) ⟨⟨JE4, trivial⟩, trivial⟩ Try.func42 sw42 fun ho hh => ?_)
    obtain ⟨k1, R1, q1, I1, l1⟩ := ZNh (D := []) (R := []) H (st := (bs, er)) (k := none) rfl H.hlen (JDl t.length ++ t) true
    rw [wX_0 H] at q1
    dsimp only [List.nil_append] at q1
    have f1 := Yx2 hwb
    have f2 := Yx2 hmb
    have d1 := eq_true hk
    unfold w42
    simp only [JaG, Qv6, Zsz, qtO, quq, simprocAttr, CO.tmps, Opd.tmps, optT, Nat.reducePow, Nat.reduceDiv, Nat.reduceMod, f1, f2, d1, q1, ZZw]
    exact qbQ H hh I1 _ rfl
   ·cases e
  ·cases e
 ·cases e
open Classical in
noncomputable def T_E3 : List AV → List AB → Option (AV × List AB)
 | [.p mb 0, .p db 0], h => match Za2 h mb, Za2 h db with
  | some (.i .i64 k :: .s _ :: rest), some [.f (.func g) [] [.p wb 0]] => match Za2 h wb with
   | some [.p i 0] => (YrV (.ag (rest.take 35))).bind fun c => if g = 34 ∧ DB c ∧ rest.length = 37 then wSeq (fun lim st => if k = 3 then wD lim st c.de else st) h i else none
   | _ => none
  | _, _ => none
 | _, _ => none
theorem zSM : Spec Try.prog 36 T_E3 := by
 intro args h v h' e
 unfold T_E3 at e
 split at e
 ·rename_i mb db
  split at e
  ·rename_i kd t rest g wb hmb hdb
   split at e
   ·rename_i i hwb
    obtain ⟨c, hc, e2⟩ := Option.bind_eq_some_iff.1 e
    clear e
    split at e2
    ·rename_i hg
     obtain ⟨rfl, hD, hr⟩ := hg
     unfold wSeq at e2
     obtain ⟨j, lim, s, bs, er, H, e3⟩ := Yf0 e2
     clear e2
     cases e3
     dsimp only
     refine FnAt.c (FnAt.run (by kernel_rfl) (T := ⟨[⟨34, T_E2, fun _ => []⟩], []⟩) ⟨⟨QZu, trivial⟩, trivial⟩ Try.func36 sw36 fun ho hh => ?_)
     have f1 := Yx2 hwb
     have f2 := Yx2 hmb
     have f3 := Yx2 hdb
     unfold w36
     by_cases g3 : kd = 3
     ·obtain ⟨k1, R1, q1, I1, l1⟩ := zKp (D := []) (R := []) H (Qm3 c.de) (st := (bs, er)) (k := none) rfl H.hlen
      rw [wX_0 H] at q1
      dsimp only [List.nil_append] at q1
      have g3' := eq_true g3
      have d1 := eq_true hD
      have r1 : (2 + 35 ≤ rest.length + 1 + 1) = True := eq_true (by omega)
      rw [if_pos g3]
      simp only [JaG, Qv6, Zsz, qtO, quq, simprocAttr, CO.tmps, Opd.tmps, optT, Nat.reducePow, Nat.reduceDiv, Nat.reduceMod, f1, f2, f3, g3', d1, r1, hc, q1, T_E2]
      exact qbQ H hh I1 _ rfl
     ·have g3' := eq_false g3
      rw [if_neg g3]
      simp only [JaG, Qv6, Zsz, qtO, quq, simprocAttr, CO.tmps, Opd.tmps, optT, Nat.reducePow, Nat.reduceDiv, Nat.reduceMod, f1, f2, f3, g3']
      have := qbQ (P := Try.prog) (st := (bs, er)) (k := none) (d := 0) (L := []) H hh rfl (.tu []) rfl
      rw [wX_0 H] at this
      exact this
    ·cases e2
   ·cases e
  ·cases e
 ·cases e
theorem ZN3 {h : List AB} {i j : Nat} {lim : Int} {s : AV} {m : Nat} {xs : List AV} (h1 : Za2 h m = some xs) (hk : m ≠ i ∧ m ≠ j ∧ m ∉ idOf s) (st : List UInt8 × Int) (k : Option Nat) (L : List AB) (o : Nat) : ldV (wX h i j lim s st k ++ L) none (.p m o) = xs[o]? := by
 simp only [ldV, QTh st k L h1 hk, Option.bind_some]
theorem z1m (fl m : Bool) (xs : List AV) : ∀ R : List AB, ownC (R ++ [.blk fl m xs]) R.length = some xs
 | [] => rfl
 | B :: R => by rw [List.cons_append, List.length_cons, J5f]; exact z1m fl m xs R
theorem QmA (fl : Bool) (xs : List AV) (o : Nat) (ys : List AV) : ∀ R : List AB, ownW (R ++ [.blk fl true xs]) R.length o ys = if o + ys.length ≤ xs.length ∧ ys.all (wrOk fl) = true then some (R ++ [.blk fl true (over xs o ys)]) else none
 | [] => by rw [List.nil_append, List.length_nil, zJJ]; rfl
 | B :: R => by
  rw [List.cons_append, List.length_cons, Xt1, QmA fl xs o ys R]
  split <;> rfl
open Classical in
noncomputable def T_E4 : List AV → List AB → Option (AV × List AB)
 | [.p mb 0, .p wb 0, .p db 0], h => match Za2 h mb, Za2 h wb, Za2 h db with
  | some (.i .i64 _ :: .s _ :: rest), some [.p i 0], some [.f (.func g) [] [.p wb' 0]] => match rest.drop 35 with
   | [l, s] => (getS deR h l).bind fun ls => (getS deR h s).bind fun ss => if g = 34 ∧ wb' = wb ∧ ls.length + ss.length ≤ 1000 ∧ ∀ d ∈ ls ++ ss, DB d then wSeq (fun lim st => wR lim st ((ls ++ ss).map Dsc.de)) h i else none
   | _ => none
  | _, _, _ => none
 | _, _ => none
theorem qF6 : Spec Try.prog 37 T_E4 := by
 intro args h v h' e
 unfold T_E4 at e
 split at e
 ·rename_i mb wb db
  split at e
  ·rename_i kd t rest i g wb' hmb hwb hdb
   split at e
   ·rename_i l s hr
    obtain ⟨ls, hl, e1⟩ := Zly e
    clear e
    obtain ⟨ss, hs, e2⟩ := Zly e1
    clear e1
    split at e2
    ·rename_i hg
     obtain ⟨rfl, rfl, hlen, hD⟩ := hg
     unfold wSeq at e2
     obtain ⟨j, lim, sl0, bs, er, H, e3⟩ := Yf0 e2
     clear e2
     cases e3
     dsimp only
     refine FnAt.c (FnAt.run (by kernel_rfl) (T := ⟨[⟨38, zaa, fun _ => []⟩, ⟨28, Xta, fun _ => []⟩, ⟨34, T_E2, fun _ => []⟩], []⟩) ⟨⟨Kcf, Yzq, QZu, trivial⟩, trivial⟩ Try.func37 sw37 fun ho hh => ?_)
     have hrl : rest.length = 37 := by
      have := congrArg List.length hr
      rw [List.length_drop] at this
      simp at this
      omega
     have r35 : rest[35]? = some l := by rw [show rest[35]? = (rest.drop 35)[0]? by rw [List.getElem?_drop], hr]; rfl
     have r36 : rest[36]? = some s := by rw [show rest[36]? = (rest.drop 35)[1]? by rw [List.getElem?_drop], hr]; rfl
     have f1 := Yx2 hwb
     have f2 := Yx2 hmb
     have f3 := Yx2 hdb
     have kw := QVV H hwb (by simp) (by simp) ⟨0, _, rfl, fun b => by unfold u8A; simp⟩
     have kd' := QVV H hdb (by simp) (by simp) ⟨0, _, rfl, fun b => by unfold u8A; simp⟩
     have a1 := ZN3 (lim := lim) (s := sl0) hwb kw
     have a2 := ZN3 (lim := lim) (s := sl0) hdb kd'
     have b1 := fun st k L => QTh (lim := lim) (s := sl0) st k L hwb kw
     have gl : ∀ L, getS deR (h ++ L) l = some ls := fun L => (hl.app L).get
     have gs : ∀ L, getS deR (h ++ L) s = some ss := fun L => (hs.app L).get
     have l1 := YWX hl.isSl
     have s1 := YWX hs.isSl
     have l2 := KAM hl.isSl
     have s2 := KAM hs.isSl
     have l3 := QCP hl.isSl
     have s3 := QCP hs.isSl
     have c1 : (ls.length + ss.length ≤ 100000) = True := eq_true (by omega)
     have hLn : (ls ++ ss).length = ls.length + ss.length := List.length_append
     obtain ⟨LL, hLL⟩ : ∃ LL, LL = ls ++ ss := ⟨_, rfl⟩
     rw [← hLL] at hD hLn ⊢
     have i64 : (In64 (LL.length : Int)) = True := eq_true (by unfold In64; omega)
     have nn : decide ((0 : Int) ≤ (LL.length : Int)) = true := decide_eq_true (by omega)
     obtain ⟨k1, R1, q1, I1, n1⟩ := ZNh (D := [.blk false true [l, s], resB deR true LL]) (R := []) H (st := (bs, er)) (k := none) rfl H.hlen (JDl LL.length) true
     rw [wX_0 H] at q1
     dsimp only [List.cons_append, List.nil_append] at q1
     have wl := fun st k => Yf1 (h := h) (i := i) (j := j) (lim := lim) (s := sl0) st k
     unfold w37
     simp only [JaG, Qv6, Zsz, qtO, quq, simprocAttr, CO.tmps, Opd.tmps, optT, Nat.reducePow, Nat.reduceDiv, Nat.reduceMod, QjP, Yzo, wl, f1, f2, f3, r35, r36, l1, l2, l3, s1, s2, s3, gl, gs, c1, ← hLL, i64, nn, XbM, q1, zaa, Xta]
     obtain ⟨st1, hst1⟩ : ∃ st1, st1 = wput lim bs er (JDl LL.length) true := ⟨_, rfl⟩
     obtain ⟨ds, hds⟩ : ∃ ds, ds = LL.map Dsc.de := ⟨_, rfl⟩
     have hfin : wR lim (bs, er) (LL.map Dsc.de) = wDs lim st1 ds := by
      unfold wR wN
      rw [List.length_map, nn, hst1, hds]
     rw [hfin]
     rw [← hst1] at I1 n1 ⊢
     have hdl : ds.length = LL.length := by rw [hds, List.length_map]
     refine JRq (S := Nat × Option Nat × List AB) (fun x => LL.length - x.1) (fun x => tp 2 ++ [.p db 0] ++ tp 13 ++ [apS deR (h.length + 1) LL, .i .i64 LL.length, .i .i64 x.1] ++ tp 7) (fun x => wX h i j lim sl0 (wDs lim st1 (ds.take x.1)) x.2.1 ++ (.blk false true [l, s] :: resB deR true LL :: x.2.2)) (fun x => x.1 ≤ LL.length ∧ WInv 2 bs (wDs lim st1 (ds.take x.1)) (.blk false true [l, s] :: resB deR true LL :: x.2.2) x.2.1 ∧ ((wDs lim st1 (ds.take x.1)).1.length : Int) ≤ lim) (0, k1, R1) ⟨Nat.zero_le _, I1, n1⟩ (Bt.wk (by simp only [Zsz, quq, simprocAttr, Int.natCast_zero])) fun x hx => ?_
     obtain ⟨n, k, R⟩ := x
     obtain ⟨hx1, hx2, hx3⟩ := hx
     dsimp only at hx1 hx2 hx3 ⊢
     by_cases gn : n < LL.length
     ·have gn' : ((n : Int) < (LL.length : Int)) = True := eq_true (by omega)
      have gr : ∀ id, apS deR id LL = rsl deR id LL := fun id => ZLk _ (by omega)
      have e1 : IntKind.i64.wrap ((n : Int) + 1) = ((n + 1 : Nat) : Int) := KqM (by unfold In64; omega)
      have ia : iadV 35 (rsl deR (h.length + 1) LL) (.i .i64 n) = some (elP 35 (rsl deR (h.length + 1) LL) n 0) := by
       rw [Yxx (sz := 35) rfl, if_pos ⟨by omega, by omega⟩, Int.toNat_natCast]
      have fe : ∀ st k R, ldV (wX h i j lim sl0 st k ++ (.blk false true [l, s] :: resB deR true LL :: R)) (some 35) (elP 35 (rsl deR (h.length + 1) LL) n 0) = some (.ag (deR.f (LL.getD n deR.d))) := fun st k R =>
       znw (wl st k) (r := deR) (sz := 35) rfl (.blk false true [l, s] :: resB deR true LL :: R) 1 LL n ⟨true, rfl⟩ gn
      obtain ⟨d, hd⟩ : ∃ d, d = LL.getD n deR.d := ⟨_, rfl⟩
      rw [← hd] at fe
      have hdm : d ∈ LL := by rw [hd, List.getD_eq_getElem?_getD, List.getElem?_eq_getElem gn]; exact List.getElem_mem gn
      have hD' := eq_true (hD d hdm)
      have hdd : ds[n]? = some d.de := by rw [hds, List.getElem?_map, hd, List.getD_eq_getElem?_getD, List.getElem?_eq_getElem gn]; rfl
      obtain ⟨b1', b2', b3', b4', b5'⟩ := Yeu d
      obtain ⟨k2, R2, q2, I2, n2⟩ := zKp (D := [.blk false true [l, s], resB deR true LL]) (R := R ++ [.blk true true (deR.f d)]) H (Qm3 d.de) (st := wDs lim st1 (ds.take n)) (k := k) (by
       cases k with
       | none => exact hx2
       | some k => exact ⟨hx2.1, hx2.2.1, by
        show ((.blk false true [l, s] :: resB deR true LL :: R) ++ [.blk true true (deR.f d)])[k]? = _
        rw [List.getElem?_append_left (List.getElem?_eq_some_iff.1 hx2.2.2).1]
        exact hx2.2.2⟩) hx3
      rw [← Zhv lim st1 ds hdd] at q2 I2 n2
      dsimp only [List.cons_append, List.nil_append] at q2 I2
      simp only [gr, Zsz, qtO, quq, simprocAttr, CO.tmps, Opd.tmps, optT, Nat.reducePow, Nat.reduceDiv, Nat.reduceMod, QjP, Yzo, qA4, ZMj, wl, gn', ia, fe, a2, b1, e1, b1', b2', b3', b5', z1m, QmA, KFx, hD', q2, T_E2]
      exact ⟨(n + 1, k2, R2), ⟨gn, I2, n2⟩, by dsimp only; omega, Bt.wk (by simp only [gr, Zsz, quq, simprocAttr])⟩
     ·obtain rfl : n = LL.length := by omega
      have gn' : ((LL.length : Int) < (LL.length : Int)) = False := eq_false (by omega)
      simp only [Zsz, qtO, quq, simprocAttr, CO.tmps, Opd.tmps, optT, Nat.reducePow, Nat.reduceDiv, Nat.reduceMod, gn']
      rw [← hdl, List.take_length] at hx2 ⊢
      exact qbQ H hh hx2 _ rfl
    ·cases e2
   ·cases e
  ·cases e
 ·cases e
end Go.Proofs.Ytpoojfnmhnedpaa
end
section
namespace Go.Proofs.Ytpoojfnmhnedpaa
set_option maxRecDepth 100000
set_option maxHeartbeats 4000000
structure MEnv where
 i : Nat
 fid : Nat
 wb : Nat
 mb : Nat
 db : Nat
 kind : Int
 title : List UInt8
 c : Dsc
 l : AV
 s : AV
 ls : List Dsc
 ss : List Dsc
def MEnv.man (x : MEnv) : Man := JcH x.kind x.title x.c x.ls x.ss
structure EnvH (h : List AB) (x : MEnv) : Prop where
 f : Za2 h x.fid = some [.f (.func 40) [] [.p x.wb 0], .f (.func 41) [] [.p x.wb 0, .p x.mb 0], .f (.func 42) [] [.p x.wb 0, .p x.mb 0], .f (.func 36) [] [.p x.mb 0, .p x.db 0], .f (.func 37) [] [.p x.mb 0, .p x.wb 0, .p x.db 0]]
 w : Za2 h x.wb = some [.p x.i 0]
 m : Za2 h x.mb = some (.i .i64 x.kind :: .s x.title :: (deR.f x.c ++ [x.l, x.s]))
 d : Za2 h x.db = some [.f (.func 34) [] [.p x.wb 0]]
 rl : Rd deR h x.l x.ls
 rs : Rd deR h x.s x.ss
structure EnvB (x : MEnv) : Prop where
 k : In64 x.kind
 t : x.title.length ≤ 1000000
 c : DB x.c
 n : x.ls.length + x.ss.length ≤ 1000
 d : ∀ d ∈ x.ls ++ x.ss, DB d
section
variable {h : List AB} {i j : Nat} {lim : Int} {s : AV} {bs : List UInt8} {e : Int}
theorem zDY (H : WrH h i j lim s bs e) {t : AV} {l : List Dsc} (h1 : Rd deR h t l) : ∀ m ∈ idOf t, l.length ≠ 0 → m ≠ i ∧ m ≠ j ∧ m ∉ idOf s := by
 intro m hm h0
 obtain ⟨id, off, cap, k', xs, rfl, e1, e2, e3⟩ := h1.blk 0 (by omega)
 simp only [idOf, List.mem_singleton] at hm
 subst hm
 have hl : 35 ≤ l.length * deR.sz := by rw [Qy1]; omega
 have hg := deR.cells_get l 0 0 (by omega) (by decide)
 rw [← e3, List.getElem?_take, if_pos (by rw [Nat.zero_mul, Nat.zero_add]; omega), List.getElem?_drop] at hg
 refine QVV H e1 (by omega) (by omega) ⟨_, _, hg, fun b => ?_⟩
 unfold u8A
 simp
theorem EnvH.keep {x : MEnv} (E : EnvH h x) (H : WrH h i j lim s bs e) (st : List UInt8 × Int) (k : Option Nat) (L : List AB) : EnvH (wX h i j lim s st k ++ L) x := by
 refine ⟨QTh st k L E.f (QVV H E.f (by simp) (by simp) ⟨0, _, rfl, fun b => by unfold u8A; simp⟩), QTh st k L E.w (QVV H E.w (by simp) (by simp) ⟨0, _, rfl, fun b => by unfold u8A; simp⟩), QTh st k L E.m (QVV H E.m ?_ ?_ ⟨0, _, rfl, fun b => by unfold u8A; simp⟩), QTh st k L E.d (QVV H E.d (by simp) (by simp) ⟨0, _, rfl, fun b => by unfold u8A; simp⟩), XGA st k L E.rl (zDY H E.rl), XGA st k L E.rs (zDY H E.rs)⟩
 ·have := deR.len x.c
  rw [Qy1] at this
  simp [this]
 ·have := deR.len x.c
  rw [Qy1] at this
  simp [this]
theorem zEq (W : WrH h i j lim s bs e) (hl : bs.length ≤ 1000000) : Yq1 [.p i 0] h = if e = 0 then some (.tu [rsl Xdl h.length bs, .i .i64 0], h ++ [resB Xdl true bs]) else some (.tu [.ns, .i .i64 e], h) := by
 have h1 : wtr h i = some (j, lim, s, e, 0) := by
  unfold wtr
  rw [W.hi]
  simp only [blkW, rd_j W]
 have h2 : getS Xdl h s = some bs := by
  rcases W.hs with ⟨q1, q2⟩ | ⟨q, q1, q2, q3⟩
  ·rw [q1, q2, JSC]
  ·rw [q1, ZLk _ q2]
   exact (Y2R q3 (by unfold maxLen; omega)).get
 unfold Yq1
 simp only [h1, Option.bind_some, h2]
 rw [if_pos hl]
theorem K3w (st : List UInt8 × Int) (k : Option Nat) : ((wX h i j lim .ns st k).set i .dead).set j .dead = (h.set i .dead).set j .dead := by
 refine List.ext_getElem? fun m => ?_
 by_cases hj : j = m <;> by_cases hi : i = m <;> cases k <;> simp only [wX, XHx, List.getElem?_set, List.length_set, hj, hi, if_true, if_false]
theorem JY0 {P : Program} {p : Nat} {fr : List AV} {g : List AB} (m : Nat) : Bt P p fr g fr (g.set m .dead) := by
 by_cases hm : m < g.length
 ·exact Bt.less (List.getElem?_eq_getElem hm) (fun _ _ _ _ _ _ => trivial) (fun q => by cases q) (fun q => by cases q)
 ·rw [List.set_eq_of_length_le (by omega)]
  exact Bt.refl _ _ _
end
open Classical in
noncomputable def XHy (x : MEnv) (args : List AV) (h : List AB) : Option (AV × List AB) :=
 if args = [.p x.i 0, .sl x.fid 0 5 5 none] ∧ EnvH h x ∧ EnvB x then (wrM h x.i).bind fun y => if y.2.2.1 = .ns ∧ y.2.1 ≤ 1000000 ∧ y.2.2.2.1 = [] then
  some (.tu [rsl Xdl h.length (XJQ (seqR y.2.1 ([], y.2.2.2.2) x.man 5).2 (seqR y.2.1 ([], y.2.2.2.2) x.man 5).1), .i .i64 (seqR y.2.1 ([], y.2.2.2.2) x.man 5).2], (h.set x.i .dead).set y.1 .dead ++ [resB Xdl true (XJQ (seqR y.2.1 ([], y.2.2.2.2) x.man 5).2 (seqR y.2.1 ([], y.2.2.2.2) x.man 5).1)]) else none
 else none
theorem XTG (x : MEnv) : Spec Try.prog 39 (XHy x) := by
 intro args h v h' e
 unfold XHy at e
 split at e
 ·rename_i hc
  obtain ⟨rfl, E, B⟩ := hc
  obtain ⟨j, lim, s0, bs, er, H, e2⟩ := Yf0 e
  clear e
  dsimp only at e2
  split at e2
  ·rename_i hs
   obtain ⟨rfl, hlim, rfl⟩ := hs
   cases e2
   refine FnAt.c (FnAt.run (by kernel_rfl) (T := ⟨[⟨40, T_E5, fun _ => []⟩, ⟨41, T_E6, fun _ => []⟩, ⟨42, T_E7, fun _ => []⟩, ⟨36, T_E3, fun _ => []⟩, ⟨37, T_E4, fun _ => []⟩, ⟨30, Yq1, fun _ => []⟩], []⟩) ⟨⟨J4h, ZLI, qft, zSM, qF6, JsT, trivial⟩, trivial⟩ Try.func39 sw39 fun ho hh => ?_)
   have lsl : lenV (.sl x.fid 0 5 5 none) = some 5 := rfl
   have ia : ∀ n : Nat, n < 5 → iadV 1 (.sl x.fid 0 5 5 none) (.i .i64 n) = some (.p x.fid n) := fun n hn => by
    simp only [iadV]
    rw [if_pos ⟨by omega, by omega⟩]
    simp
   have i0 : iadV 1 (.sl x.fid 0 5 5 none) (.i .i64 0) = some (.p x.fid 0) := ia 0 (by omega)
   have i1 : iadV 1 (.sl x.fid 0 5 5 none) (.i .i64 1) = some (.p x.fid 1) := ia 1 (by omega)
   have i2 : iadV 1 (.sl x.fid 0 5 5 none) (.i .i64 2) = some (.p x.fid 2) := ia 2 (by omega)
   have i3 : iadV 1 (.sl x.fid 0 5 5 none) (.i .i64 3) = some (.p x.fid 3) := ia 3 (by omega)
   have i4 : iadV 1 (.sl x.fid 0 5 5 none) (.i .i64 4) = some (.p x.fid 4) := ia 4 (by omega)
   have f0 : ∀ st k L o, ldV (wX h x.i j lim .ns st k ++ L) none (.p x.fid o) = [AV.f (.func 40) [] [.p x.wb 0], .f (.func 41) [] [.p x.wb 0, .p x.mb 0], .f (.func 42) [] [.p x.wb 0, .p x.mb 0], .f (.func 36) [] [.p x.mb 0, .p x.db 0], .f (.func 37) [] [.p x.mb 0, .p x.wb 0, .p x.db 0]][o]? := fun st k L o => by
    simp only [ldV, (E.keep H st k L).f, Option.bind_some]
   have fw := fun st k L => (E.keep H st k L).w
   have fm := fun st k L => (E.keep H st k L).m
   have fd := fun st k L => (E.keep H st k L).d
   have gl := fun st k L => (E.keep H st k L).rl.get
   have gs := fun st k L => (E.keep H st k L).rs.get
   have hc35 := deR.len x.c
   rw [Qy1] at hc35
   have t35 : (deR.f x.c ++ [x.l, x.s]).take 35 = deR.f x.c := List.take_left' hc35
   have d35 : (deR.f x.c ++ [x.l, x.s]).drop 35 = [x.l, x.s] := List.drop_left' hc35
   have l37 : (deR.f x.c ++ [x.l, x.s]).length = 37 := by simp [hc35]
   have gc := KFx x.c
   have b1 := eq_true B.k
   have b2 := eq_true B.t
   have b3 := eq_true B.c
   have b4 := eq_true B.n
   have b5 := eq_true B.d
   have w0 : IntKind.i64.wrap (0 + 1) = 1 := rfl
   have w1 : IntKind.i64.wrap (1 + 1) = 2 := rfl
   have w2 : IntKind.i64.wrap (2 + 1) = 3 := rfl
   have w3 : IntKind.i64.wrap (3 + 1) = 4 := rfl
   have w4 : IntKind.i64.wrap (4 + 1) = 5 := rfl
   unfold w39
   simp only [JaG, Qv6, Zsz, qtO, quq, if_true, if_false, ↓reduceIte, Nat.reduceAdd, Nat.reduceSub, Nat.reduceLeDiff, Nat.reduceEqDiff, Nat.reduceMul, Nat.reduceLT, Int.reduceLT, Int.reduceLE, Int.reduceEq, CO.tmps, Opd.tmps, optT, Nat.reducePow, Nat.reduceDiv, Nat.reduceMod, lsl]
   refine JRq (S := Nat × Option Nat × List AB) (fun y => 5 - y.1) (fun y => [.p x.i 0] ++ tp 7 ++ [.sl x.fid 0 5 5 none, .i .i64 5, .i .i64 y.1] ++ tp 10) (fun y => wX h x.i j lim .ns (seqR lim ([], er) x.man y.1) y.2.1 ++ y.2.2) (fun y => y.1 ≤ 5 ∧ WInv 0 [] (seqR lim ([], er) x.man y.1) y.2.2 y.2.1 ∧ ((seqR lim ([], er) x.man y.1).1.length : Int) ≤ lim) (0, none, []) ⟨Nat.zero_le _, rfl, H.hlen⟩ ?_ fun y hy => ?_
   ·show Bt _ _ _ _ _ (wX h x.i j lim .ns ([], er) none ++ [])
    rw [wX_0 H]
    exact Bt.wk (by simp only [Zsz, quq, if_true, if_false, reduceIte, Nat.reduceAdd, Nat.reduceSub, Nat.reduceLeDiff, Nat.reduceEqDiff, Nat.reduceMul, Nat.reduceLT, Int.reduceLT, Int.reduceLE, Int.reduceEq, Int.natCast_zero])
   ·obtain ⟨n, k, R⟩ := y
    obtain ⟨y1, y2, y3⟩ := hy
    dsimp only at y1 y2 y3 ⊢
    have step : ∀ (n' : Nat) (f : Int → List UInt8 × Int → List UInt8 × Int), FOk f → seqR lim ([], er) x.man n' = f lim (seqR lim ([], er) x.man n) → ∃ k' R', wSeq f (wX h x.i j lim .ns (seqR lim ([], er) x.man n) k ++ R) x.i = some (.tu [], wX h x.i j lim .ns (seqR lim ([], er) x.man n') k' ++ R') ∧ WInv 0 [] (seqR lim ([], er) x.man n') R' k' ∧ ((seqR lim ([], er) x.man n').1.length : Int) ≤ lim := fun n' f F hf => by
     have := zKp (D := []) (R := R) H F y2 y3
     rw [← hf] at this
     exact this
    rcases (by omega : n = 0 ∨ n = 1 ∨ n = 2 ∨ n = 3 ∨ n = 4 ∨ n = 5) with rfl | rfl | rfl | rfl | rfl | rfl
    ·obtain ⟨k2, R2, q2, I2, n2⟩ := step 1 (fun lim st => wN lim st 77) (Qzw _) rfl
     simp only [Zsz, qtO, quq, if_true, if_false, ↓reduceIte, Nat.reduceAdd, Nat.reduceSub, Nat.reduceLeDiff, Nat.reduceEqDiff, Nat.reduceMul, Nat.reduceLT, Int.reduceLT, Int.reduceLE, Int.reduceEq, CO.tmps, Opd.tmps, optT, Nat.reducePow, Nat.reduceDiv, Nat.reduceMod, i0, f0, fw, w0, q2, T_E5]
     exact ⟨(1, k2, R2), ⟨by omega, I2, n2⟩, by dsimp only; omega, Bt.wk (by simp only [Zsz, quq, if_true, if_false, reduceIte, Nat.reduceAdd, Nat.reduceSub, Nat.reduceLeDiff, Nat.reduceEqDiff, Nat.reduceMul, Nat.reduceLT, Int.reduceLT, Int.reduceLE, Int.reduceEq, Int.cast_ofNat_Int])⟩
    ·obtain ⟨k2, R2, q2, I2, n2⟩ := step 2 (fun lim st => wN lim st x.kind) (Qzw _) rfl
     simp only [Zsz, qtO, quq, if_true, if_false, ↓reduceIte, Nat.reduceAdd, Nat.reduceSub, Nat.reduceLeDiff, Nat.reduceEqDiff, Nat.reduceMul, Nat.reduceLT, Int.reduceLT, Int.reduceLE, Int.reduceEq, CO.tmps, Opd.tmps, optT, Nat.reducePow, Nat.reduceDiv, Nat.reduceMod, i1, f0, fw, fm, w1, b1, q2, T_E6]
     exact ⟨(2, k2, R2), ⟨by omega, I2, n2⟩, by dsimp only; omega, Bt.wk (by simp only [Zsz, quq, if_true, if_false, reduceIte, Nat.reduceAdd, Nat.reduceSub, Nat.reduceLeDiff, Nat.reduceEqDiff, Nat.reduceMul, Nat.reduceLT, Int.reduceLT, Int.reduceLE, Int.reduceEq, Int.cast_ofNat_Int])⟩
    ·obtain ⟨k2, R2, q2, I2, n2⟩ := step 3 (fun lim st => wT lim st x.title) (QV9 _) rfl
     simp only [Zsz, qtO, quq, if_true, if_false, ↓reduceIte, Nat.reduceAdd, Nat.reduceSub, Nat.reduceLeDiff, Nat.reduceEqDiff, Nat.reduceMul, Nat.reduceLT, Int.reduceLT, Int.reduceLE, Int.reduceEq, CO.tmps, Opd.tmps, optT, Nat.reducePow, Nat.reduceDiv, Nat.reduceMod, i2, f0, fw, fm, w2, b2, q2, T_E7]
     exact ⟨(3, k2, R2), ⟨by omega, I2, n2⟩, by dsimp only; omega, Bt.wk (by simp only [Zsz, quq, if_true, if_false, reduceIte, Nat.reduceAdd, Nat.reduceSub, Nat.reduceLeDiff, Nat.reduceEqDiff, Nat.reduceMul, Nat.reduceLT, Int.reduceLT, Int.reduceLE, Int.reduceEq, Int.cast_ofNat_Int])⟩
    ·obtain ⟨k2, R2, q2, I2, n2⟩ := step 4 (fun lim st => if x.kind = 3 then wD lim st x.c.de else st) (XEw x.man) rfl
     simp only [Zsz, qtO, quq, if_true, if_false, ↓reduceIte, Nat.reduceAdd, Nat.reduceSub, Nat.reduceLeDiff, Nat.reduceEqDiff, Nat.reduceMul, Nat.reduceLT, Int.reduceLT, Int.reduceLE, Int.reduceEq, CO.tmps, Opd.tmps, optT, Nat.reducePow, Nat.reduceDiv, Nat.reduceMod, i3, f0, fw, fm, fd, w3, b3, t35, l37, gc, q2, T_E3]
     exact ⟨(4, k2, R2), ⟨by omega, I2, n2⟩, by dsimp only; omega, Bt.wk (by simp only [Zsz, quq, if_true, if_false, reduceIte, Nat.reduceAdd, Nat.reduceSub, Nat.reduceLeDiff, Nat.reduceEqDiff, Nat.reduceMul, Nat.reduceLT, Int.reduceLT, Int.reduceLE, Int.reduceEq, Int.cast_ofNat_Int])⟩
    ·obtain ⟨k2, R2, q2, I2, n2⟩ := step 5 (fun lim st => wR lim st ((x.ls ++ x.ss).map Dsc.de)) (YUc _) (by rw [List.map_append]; rfl)
     simp only [Zsz, qtO, quq, if_true, if_false, ↓reduceIte, Nat.reduceAdd, Nat.reduceSub, Nat.reduceLeDiff, Nat.reduceEqDiff, Nat.reduceMul, Nat.reduceLT, Int.reduceLT, Int.reduceLE, Int.reduceEq, CO.tmps, Opd.tmps, optT, Nat.reducePow, Nat.reduceDiv, Nat.reduceMod, i4, f0, fw, fm, fd, w4, b4, b5, d35, gl, gs, q2, T_E4]
     exact ⟨(5, k2, R2), ⟨by omega, I2, n2⟩, by dsimp only; omega, Bt.wk (by simp only [Zsz, quq, if_true, if_false, reduceIte, Nat.reduceAdd, Nat.reduceSub, Nat.reduceLeDiff, Nat.reduceEqDiff, Nat.reduceMul, Nat.reduceLT, Int.reduceLT, Int.reduceLE, Int.reduceEq, Int.cast_ofNat_Int])⟩
    ·have W := qNk H (st := seqR lim ([], er) x.man 5) (k := k) (L := R) y2 y3
     have dn := zEq W (by omega)
     have gi : ((5 : Int) < 5) = False := eq_false (by omega)
     have glen : ((h.set x.i .dead).set j .dead).length = h.length := by rw [List.length_set, List.length_set]
     have hg : HOk ((h.set x.i .dead).set j .dead) := JJD (JJD hh _ (fun _ => rfl)) _ (fun _ => rfl)
     have dead : ∀ (L : List AB) (v : AV), Bt Try.prog h.length [v] (wX h x.i j lim .ns (seqR lim ([], er) x.man 5) k ++ L) [v] ((h.set x.i .dead).set j .dead ++ L) := fun L v => by
      refine Bt.trans (JY0 x.i) (Bt.trans (JY0 j) ?_)
      rw [List.set_append_left _ _ (by rw [Yf1]; exact H.il), List.set_append_left _ _ (by rw [List.length_set, Yf1]; exact H.jl), K3w]
      exact Bt.refl _ _ _
     generalize seqR lim ([], er) x.man 5 = st at *
     by_cases ge : st.2 = 0
     ·have hd : XJQ st.2 st.1 = st.1 := by unfold XJQ; rw [if_pos ge]
      rw [if_pos ge] at dn
      rw [hd]
      simp only [Zsz, qtO, quq, if_true, if_false, ↓reduceIte, Nat.reduceAdd, Nat.reduceSub, Nat.reduceLeDiff, Nat.reduceEqDiff, Nat.reduceMul, Nat.reduceLT, Int.reduceLT, Int.reduceLE, Int.reduceEq, CO.tmps, Opd.tmps, optT, Nat.reducePow, Nat.reduceDiv, Nat.reduceMod, lsl, gi, dn]
      rw [ge, Yf1]
      refine Bt.trans (dead _ _) ?_
      have := Bt.sel (P := Try.prog) (h := (h.set x.i .dead).set j .dead) (l := R ++ [resB Xdl true st.1]) (l' := [resB Xdl true st.1]) (fr := [.tu [rsl Xdl (h.length + R.length) st.1, .i .i64 0]]) (fr' := [.tu [rsl Xdl h.length st.1, .i .i64 0]]) [R.length] hg (by simp) ⟨⟨resB Xdl true st.1, by rw [List.getElem?_append_right (Nat.le_refl _), Nat.sub_self]; rfl, of_eq_true (Q13 _ _ _ _)⟩, trivial⟩ ⟨.inr ⟨?_, ?_⟩, trivial⟩
      ·rw [glen] at this
       exact this
      ·rw [glen, Jiv, JjX, YAk _ _ _ (by simp)]
       rfl
      ·rw [glen]
       simp only [AV.ren, renL, qSu]
       rw [show selN h.length [R.length] h.length = h.length + R.length from YiF 0]
       exact Wk.refl _
     ·have hd : XJQ st.2 st.1 = [] := by unfold XJQ; rw [if_neg ge]
      rw [if_neg ge] at dn
      rw [hd]
      simp only [Zsz, qtO, quq, if_true, if_false, ↓reduceIte, Nat.reduceAdd, Nat.reduceSub, Nat.reduceLeDiff, Nat.reduceEqDiff, Nat.reduceMul, Nat.reduceLT, Int.reduceLT, Int.reduceLE, Int.reduceEq, CO.tmps, Opd.tmps, optT, Nat.reducePow, Nat.reduceDiv, Nat.reduceMod, lsl, gi, dn]
      refine Bt.trans (dead _ _) (Bt.trans (Bt.wk1 (Wk.tu (l' := [rsl Xdl h.length [], .i .i64 st.2]) ⟨Wk.nil _ _, Wk.refl _, trivial⟩)) ?_)
      have h1 := Bt.drop (P := Try.prog) (h := (h.set x.i .dead).set j .dead) (v := .tu [rsl Xdl h.length [], .i .i64 st.2]) (a := .tu [rsl Xdl h.length [], .i .i64 st.2]) R hg rfl rfl
      rw [glen] at h1
      exact Bt.trans h1 (Bt.pad _ _ 1)
  ·cases e2
 ·cases e
end Go.Proofs.Ytpoojfnmhnedpaa
end
section
namespace Go.Proofs.Ytpoojfnmhnedpaa
set_option maxRecDepth 100000
set_option maxHeartbeats 4000000
def manC (y : Int × List UInt8 × Dsc × AV × AV) : List AV := .i .i64 y.1 :: .s y.2.1 :: (deR.f y.2.2.1 ++ [y.2.2.2.1, y.2.2.2.2])
theorem qfQ {y z : Int × List UInt8 × Dsc × AV × AV} (h : manC y = manC z) : y = z := by
 obtain ⟨a, b, c, d, e⟩ := y
 obtain ⟨a', b', c', d', e'⟩ := z
 simp only [manC, List.cons.injEq, AV.i.injEq, AV.s.injEq, true_and] at h
 obtain ⟨rfl, rfl, h⟩ := h
 have h2 := List.append_inj h (by rw [deR.len, deR.len])
 have h3 := deR.inj _ _ h2.1
 simp only [List.cons.injEq, and_true] at h2
 rw [h3, h2.2.1, h2.2.2]
open Classical in
noncomputable def getM (a : AV) : Option (Int × List UInt8 × Dsc × AV × AV) := if e : ∃ y, a = .ag (manC y) then some e.choose else none
theorem ZEb (y : Int × List UInt8 × Dsc × AV × AV) : getM (.ag (manC y)) = some y := by
 unfold getM
 have hx : ∃ z, AV.ag (manC y) = .ag (manC z) := ⟨y, rfl⟩
 rw [dif_pos hx]
 have := hx.choose_spec
 injection this with h
 rw [qfQ h.symm]
theorem QLJ {a : AV} {y : Int × List UInt8 × Dsc × AV × AV} (e : getM a = some y) : a = .ag (manC y) := by
 unfold getM at e
 split at e
 ·rename_i h
  cases e
  exact h.choose_spec
 ·cases e
noncomputable def inM (h : List AB) (a : AV) : Option (Int × List UInt8 × Dsc × AV × AV × List Dsc × List Dsc) := (getM a).bind fun y => (getS deR h y.2.2.2.1).bind fun ls => (getS deR h y.2.2.2.2).bind fun ss => some (y.1, y.2.1, y.2.2.1, y.2.2.2.1, y.2.2.2.2, ls, ss)
theorem q2F {β : Type} {h : List AB} {a : AV} {f : Int × List UInt8 × Dsc × AV × AV × List Dsc × List Dsc → Option β} {b : β} (e : (inM h a).bind f = some b) : ∃ k t c l s ls ss, a = .ag (.i .i64 k :: .s t :: (deR.f c ++ [l, s])) ∧ Rd deR h l ls ∧ Rd deR h s ss ∧ f (k, t, c, l, s, ls, ss) = some b := by
 obtain ⟨x, h1, h2⟩ := Option.bind_eq_some_iff.1 e
 unfold inM at h1
 obtain ⟨⟨k, t, c, l, s⟩, h3, h4⟩ := Option.bind_eq_some_iff.1 h1
 obtain ⟨ls, h5, h6⟩ := Zly h4
 obtain ⟨ss, h7, h8⟩ := Zly h6
 cases h8
 exact ⟨k, t, c, l, s, ls, ss, QLJ h3, h5, h7, h2⟩
theorem Kkh {h : List AB} {k : Int} {t : List UInt8} {c : Dsc} {l s : AV} {ls ss : List Dsc} (h1 : getS deR h l = some ls) (h2 : getS deR h s = some ss) : inM h (.ag (.i .i64 k :: .s t :: (deR.f c ++ [l, s]))) = some (k, t, c, l, s, ls, ss) := by
 unfold inM
 have := ZEb (k, t, c, l, s)
 unfold manC at this
 dsimp only at this
 rw [this, Option.bind_some]
 dsimp only
 rw [h1, Option.bind_some, h2, Option.bind_some]
noncomputable def zyD : List AV → List AB → Option (AV × List AB)
 | [a], h => (inM h a).bind fun y => some (.b (Q55 (JcH y.1 y.2.1 y.2.2.1 y.2.2.2.2.2.1 y.2.2.2.2.2.2)), h)
 | _, _ => none
theorem KM0 (c : Dsc) (l s : AV) : (deR.f c ++ [l, s]).length = 37 ∧ (deR.f c ++ [l, s])[35]? = some l ∧ (deR.f c ++ [l, s])[36]? = some s ∧ (deR.f c ++ [l, s]).take 35 = deR.f c := by
 have h : (deR.f c).length = 35 := deR.len c
 refine ⟨by simp [h], ?_, ?_, List.take_left' h⟩
 ·rw [List.getElem?_append_right (by omega), h]; rfl
 ·rw [List.getElem?_append_right (by omega), h]; rfl
theorem qVX (c : Dsc) : deEq c.de deZ = decide (c = dsc deZ) := by
 rw [Bool.eq_iff_iff, J2S, decide_eq_true_eq]
 have hz : (dsc deZ).de = deZ := K9C rfl
 constructor
 ·intro q
  rw [← hz] at q
  exact Dsc.de_inj q
 ·intro q
  rw [q, hz]
theorem YNe (c : Dsc) {l s : AV} (hl : l.isSl = true) (hs : s.isSl = true) : (deR.f c ++ [l, s]).all (wrOk false) = true := by
 rw [List.all_append, zPU]
 simp [wrOk, YWX hl, YWX hs]
theorem QH7 : Spec Try.prog 31 zyD := by
 intro args h v h' e
 unfold zyD at e
 split at e
 ·rename_i a
  obtain ⟨k, t, c, l, s, ls, ss, rfl, hl, hs, e1⟩ := q2F e
  clear e
  cases e1
  refine FnAt.c (FnAt.run (by kernel_rfl) (T := ⟨[], []⟩) ⟨trivial, trivial⟩ Try.func31 sw31 fun ho hh => ?_)
  obtain ⟨c1, c2, c3, c4⟩ := KM0 c l s
  have ca := YNe c hl.isSl hs.isSl
  have l1 := zuq hl.isSl
  have s1 := zuq hs.isSl
  have l2 := hl.len
  have s2 := hs.len
  have r1 : (2 + 35 ≤ 37 + 1 + 1) = True := eq_true (by omega)
  have z1 := qAd c (dsc deZ)
  unfold w31
  by_cases g3 : k = 3
  ·have g3' := eq_true g3
   have hr : Q55 (JcH k t c ls ss) = decide ((ss.length : Int) = 0) := by
    unfold Q55 JcH
    dsimp only
    rw [if_pos g3, List.length_map]
    exact decide_eq_decide.2 (by omega)
   rw [hr]
   simp only [JaG, Qv6, Zsz, qtO, quq, simprocAttr, CO.tmps, Opd.tmps, optT, Nat.reducePow, Nat.reduceDiv, Nat.reduceMod, c1, c2, c3, c4, ca, l1, s1, l2, s2, g3']
   exact Bt.drop _ hh rfl rfl
  ·have g3' := eq_false g3
   by_cases g4 : k = 4
   ·have g4' := eq_true g4
    by_cases g5 : ls.length = 0
    ·have g5' : ((ls.length : Int) = 0) = True := eq_true (by omega)
     have hr : Q55 (JcH k t c ls ss) = decide (c = dsc deZ) := by
      unfold Q55 JcH
      dsimp only
      rw [if_neg g3, if_pos g4, List.length_map, qVX, decide_eq_true g5, Bool.true_and]
     rw [hr]
     simp only [JaG, Qv6, Zsz, qtO, quq, simprocAttr, CO.tmps, Opd.tmps, optT, Nat.reducePow, Nat.reduceDiv, Nat.reduceMod, c1, c2, c3, c4, ca, l1, s1, l2, s2, g3', g4', g5', ← KO7, z1]
     exact Bt.drop _ hh rfl rfl
    ·have g5' : ((ls.length : Int) = 0) = False := eq_false (by omega)
     have hr : Q55 (JcH k t c ls ss) = false := by
      unfold Q55 JcH
      dsimp only
      rw [if_neg g3, if_pos g4, List.length_map, decide_eq_false g5, Bool.false_and]
     rw [hr]
     simp only [JaG, Qv6, Zsz, qtO, quq, simprocAttr, CO.tmps, Opd.tmps, optT, Nat.reducePow, Nat.reduceDiv, Nat.reduceMod, c1, c2, c3, c4, ca, l1, s1, l2, s2, g3', g4', g5']
     exact Bt.drop _ hh rfl rfl
   ·have g4' := eq_false g4
    have hr : Q55 (JcH k t c ls ss) = false := by
     unfold Q55 JcH
     dsimp only
     rw [if_neg g3, if_neg g4]
    rw [hr]
    simp only [JaG, Qv6, Zsz, qtO, quq, simprocAttr, CO.tmps, Opd.tmps, optT, Nat.reducePow, Nat.reduceDiv, Nat.reduceMod, c1, c2, c3, c4, ca, l1, s1, l2, s2, g3', g4']
    exact Bt.drop _ hh rfl rfl
 ·cases e
noncomputable def Qgy : List AV → List AB → Option (AV × List AB)
 | [a], h => (YrV a).bind fun d => some (.b (negD d.de), h)
 | _, _ => none
theorem Z4x : Spec Try.prog 33 Qgy := by
 intro args h v h' e
 unfold Qgy at e
 split at e
 ·rename_i a
  obtain ⟨d, hd, e1⟩ := Option.bind_eq_some_iff.1 e
  clear e
  cases e1
  obtain rfl := qAX hd
  refine FnAt.c (FnAt.run (by kernel_rfl) (T := ⟨[], []⟩) ⟨trivial, trivial⟩ Try.func33 sw33 fun ho hh => ?_)
  obtain ⟨b1, b2, b3, b4, b5⟩ := Yeu d
  obtain ⟨c1, c2, c3, c4⟩ := XcW d
  unfold w33
  by_cases g : d.media < 0
  ·have g' := eq_true g
   have hr : negD d.de = true := by unfold negD Dsc.de; rw [decide_eq_true g]; rfl
   rw [hr]
   simp only [JaG, Qv6, Zsz, qtO, quq, simprocAttr, CO.tmps, Opd.tmps, optT, Nat.reducePow, Nat.reduceDiv, Nat.reduceMod, b1, b3, c1, c2, g']
   exact Bt.drop _ hh rfl rfl
  ·have g' := eq_false g
   have hr : negD d.de = decide (d.size < 0) := by unfold negD Dsc.de; rw [decide_eq_false g, Bool.false_or]
   rw [hr]
   simp only [JaG, Qv6, Zsz, qtO, quq, simprocAttr, CO.tmps, Opd.tmps, optT, Nat.reducePow, Nat.reduceDiv, Nat.reduceMod, b1, b3, c1, c2, g']
   exact Bt.drop _ hh rfl rfl
 ·cases e
noncomputable def XKx : List Dsc → Nat → Int
 | [], _ => -1
 | d :: l, k => if negD d.de = true then (k : Int) else XKx l (k + 1)
theorem Qks : ∀ (l : List Dsc) (k : Nat), (0 ≤ XKx l k) ↔ l.any (fun d => negD d.de) = true
 | [], k => by simp [XKx]
 | d :: l, k => by
  unfold XKx
  by_cases g : negD d.de = true
  ·rw [if_pos g]; simp [g]
  ·rw [if_neg g, List.any_cons, Qks l (k + 1)]; simp [g]
theorem QFu (l : List Dsc) {n : Nat} (h : n < l.length) : XKx (l.drop n) n = if negD (l.getD n deR.d).de = true then (n : Int) else XKx (l.drop (n + 1)) (n + 1) := by
 rw [List.drop_eq_getElem_cons h, List.getD_eq_getElem?_getD, List.getElem?_eq_getElem h]
 rfl
noncomputable def YGo : List AV → List AB → Option (AV × List AB)
 | [a, .f (.func g) [] []], h => if g = 33 then (getS deR h a).bind fun l => some (.i .i64 (XKx l 0), h) else none
 | _, _ => none
theorem Qic : Spec Try.prog 60 YGo := by
 intro args h v h' e
 unfold YGo at e
 split at e
 ·rename_i a g
  split at e
  ·rename_i hg
   subst hg
   obtain ⟨l, hl, e1⟩ := Zly e
   clear e
   cases e1
   refine FnAt.c (FnAt.run (by kernel_rfl) (T := ⟨[⟨33, Qgy, fun _ => []⟩], []⟩) ⟨⟨Z4x, trivial⟩, trivial⟩ Try.func60 sw60 fun ho hh => ?_)
   simp only [JjX, Bool.and_eq_true] at ho
   have f1 := hl.fx ho.1 (sz := 35) rfl
   unfold w60
   simp only [JaG, Qv6, Zsz, qtO, quq, simprocAttr, CO.tmps, Opd.tmps, optT, Nat.reducePow, Nat.reduceDiv, Nat.reduceMod, f1]
   refine KIk (S := Nat) (fun k => l.length - k) (fun k => [a, .f (.func 33) [] []] ++ tp 5 ++ [.i .i64 l.length, .i .i64 k] ++ tp 10) (fun k => k ≤ l.length ∧ XKx l 0 = XKx (l.drop k) k) 0 ⟨Nat.zero_le _, rfl⟩ (by simp only [Zsz, quq, simprocAttr, Int.natCast_zero]) fun k hk => ?_
   obtain ⟨k1, k2⟩ := hk
   by_cases gk : k < l.length
   ·have gk' : ((k : Int) < (l.length : Int)) = True := eq_true (by omega)
    have gk2 : ((0 : Int) ≤ (k : Int) ∧ (k : Int) < (l.length : Int)) = True := eq_true ⟨by omega, by omega⟩
    have gk3 := eq_true gk
    have e1 : IntKind.i64.wrap ((k : Int) + 1) = ((k + 1 : Nat) : Int) := KqM (by have := hl.2; unfold maxLen at this; unfold In64; omega)
    rw [k2]
    have st := QFu l gk
    obtain ⟨d, hd⟩ : ∃ d, d = l.getD k deR.d := ⟨_, rfl⟩
    rw [← hd] at st
    by_cases gd : negD d.de = true
    ·rw [if_pos gd] at st
     rw [st]
     simp only [Zsz, qtO, quq, simprocAttr, CO.tmps, Opd.tmps, optT, Nat.reducePow, Nat.reduceDiv, Nat.reduceMod, f1, gk', gk2, gk3, ← hd, KFx, gd, Qgy]
     exact Bt.drop _ hh rfl rfl
    ·rw [if_neg gd] at st
     have gd' : negD d.de = false := by simpa using gd
     simp only [Zsz, qtO, quq, simprocAttr, CO.tmps, Opd.tmps, optT, Nat.reducePow, Nat.reduceDiv, Nat.reduceMod, f1, gk', gk2, gk3, ← hd, KFx, gd', e1, Qgy]
     exact ⟨k + 1, ⟨gk, by first | exact st | rw [k2, st]⟩, by omega, Wk.refl _⟩
   ·obtain rfl : k = l.length := by omega
    have gk' : ((l.length : Int) < (l.length : Int)) = False := eq_false (by omega)
    rw [k2, List.drop_length]
    simp only [Zsz, qtO, quq, simprocAttr, CO.tmps, Opd.tmps, optT, Nat.reducePow, Nat.reduceDiv, Nat.reduceMod, f1, gk']
    exact Bt.drop _ hh rfl rfl
  ·cases e
 ·cases e
noncomputable def KOP : List AV → List AB → Option (AV × List AB)
 | [a, .f (.func g) [] []], h => if g = 33 then (getS deR h a).bind fun l => some (.b (l.any (fun d => negD d.de)), h) else none
 | _, _ => none
theorem JTM : Spec Try.prog 32 KOP := by
 intro args h v h' e
 unfold KOP at e
 split at e
 ·rename_i a g
  split at e
  ·rename_i hg
   subst hg
   obtain ⟨l, hl, e1⟩ := Zly e
   clear e
   cases e1
   refine FnAt.c (FnAt.run (by kernel_rfl) (T := ⟨[⟨60, YGo, fun _ => []⟩], []⟩) ⟨⟨Qic, trivial⟩, trivial⟩ Try.func32 sw32 fun ho hh => ?_)
   simp only [JjX, Bool.and_eq_true] at ho
   have f1 := hl.fx ho.1 (sz := 35) rfl
   unfold w32
   simp only [JaG, Qv6, Zsz, qtO, quq, simprocAttr, CO.tmps, Opd.tmps, optT, Nat.reducePow, Nat.reduceDiv, Nat.reduceMod, f1, X8j, YGo]
   refine Bt.drop _ hh ?_ rfl
   rw [AV.b.injEq, Bool.eq_iff_iff, decide_eq_true_eq]
   exact Qks l 0
  ·cases e
 ·cases e
end Go.Proofs.Ytpoojfnmhnedpaa
end
