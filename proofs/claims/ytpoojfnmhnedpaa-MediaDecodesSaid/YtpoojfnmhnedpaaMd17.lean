/- Part 17 of what the laws' proofs rest on. No condition. -/
import Derived.Test.YtpoojfnmhnedpaaMd16
set_option linter.all false
section
namespace Go.Proofs.Ytpoojfnmhnedpaa
set_option maxRecDepth 100000
set_option maxHeartbeats 4000000
theorem qoG {h : List AB} (L : List AB) (k n m : Nat) (xs ys : List AV) (mu : Bool) (hb : L[k]? = some (.blk true mu xs)) (hx : xs.length = n) (hm : m ≠ 0) (hn : n + m ≤ 100000000) : appW (h ++ L) true 1 1 (.sl (h.length + k) 0 n n none) m ys = some (.sl (h.length + L.length) 0 (n + m) (n + m) (some 1), h ++ (L ++ [.blk true true (xs ++ ys)])) := by
 have hg : (h ++ L)[h.length + k]? = some (.blk true mu xs) := by rw [YOy]; exact hb
 simp only [appW, hg]
 rw [if_neg hm, if_neg (by omega), if_pos ⟨trivial, by omega, by omega, by unfold maxLen; omega⟩, List.drop_zero, List.take_of_length_le (by omega)]
 simp only [List.length_append, List.append_assoc, if_true]
noncomputable def QYL : List AV → List AB → Option (AV × List AB)
 | [.i .i64 n], h => if 0 ≤ n ∧ n ≤ 9223372036854775807 then some (if n < 192 then .sl h.length 0 1 1 none else apS Xdl h.length (JDl n), h ++ [resB Xdl true (JDl n)]) else none
 | _, _ => none
def numS (id : Nat) (n : Int) (j : Nat) : AV := if j = 0 then .sl id 0 1 1 none else apS Xdl id (Q2r n j)
theorem qg7 : Spec Try.prog 63 QYL := by
 intro args h v h' e
 unfold QYL at e
 split at e
 ·rename_i n
  split at e
  ·rename_i hn
   cases e
   refine FnAt.c (FnAt.run (by kernel_rfl) (T := ⟨[], []⟩) ⟨trivial, trivial⟩ Try.func63 sw63 fun ho hh => ?_)
   unfold w63
   by_cases g1 : n < 192
   ·have g1' := eq_true g1
    have hr : Xwj n = 0 := by unfold Xwj; rw [if_pos g1]
    have he : JDl n = [UInt8.ofInt n] := by unfold JDl; rw [if_pos hr]
    rw [he, if_pos g1]
    simp only [JaG, Qv6, Zsz, qtO, quq, simprocAttr, CO.tmps, Opd.tmps, optT, Nat.reducePow, Nat.reduceDiv, Nat.reduceMod, g1', KqS, qAJ, X41, ztu, X3l, q8C, QVJ]
    exact Bt.eq rfl (by rw [qcf]; rfl)
   ·have g1' := eq_false g1
    have hr : Xwj n = Zd0 7 n 1 := by unfold Xwj; rw [if_neg g1]
    have hbd := Qf5 n 7 1
    have hne : Xwj n ≠ 0 := by omega
    have he : JDl n = Q2r n (Xwj n) := by unfold JDl; rw [if_neg hne]; rfl
    rw [he, if_neg g1]
    simp only [JaG, Qv6, Zsz, qtO, quq, simprocAttr, CO.tmps, Opd.tmps, optT, Nat.reducePow, Nat.reduceDiv, Nat.reduceMod, g1']
    refine JRq (S := Nat) (fun k => 8 - k) (fun k => [.i .i64 n] ++ tp 2 ++ [.i .i64 k] ++ tp 37) (fun _ => h) (fun k => 1 ≤ k ∧ k ≤ 8 ∧ Zd0 7 n 1 = Zd0 (8 - k) n k) 1 ⟨Nat.le_refl _, by decide, rfl⟩ (by rw [List.append_nil]; exact Bt.wk (by simp only [Zsz, quq, simprocAttr])) fun k hk => ?_
    obtain ⟨k1, k8, ks⟩ := hk
    have e1 : IntKind.i64.wrap (8 * (k : Int)) = ((8 * k : Nat) : Int) := by rw [Int.natCast_mul]; exact KqM (by unfold In64; omega)
    have e2 : IntKind.i64.wrap ((k : Int) + 1) = ((k + 1 : Nat) : Int) := KqM (by unfold In64; omega)
    have e3 : min (8 * k) 64 = 8 * k := by omega
    have e5 : Int.fdiv n (2 ^ (8 * k)) = n / 2 ^ (8 * k) := Int.fdiv_eq_ediv_of_nonneg _ (Int.le_of_lt (Int.pow_pos (by decide)))
    by_cases g4 : k < 8 ∧ 0 < n / 2 ^ (8 * k)
    ·have g2' : ((k : Int) < 8) = True := eq_true (by omega)
     have g3' := eq_true g4.2
     have ss : Zd0 (8 - k) n k = Zd0 (8 - (k + 1)) n (k + 1) := by
      rw [show 8 - k = (8 - (k + 1)) + 1 by omega]
      show (if 0 < n / 2 ^ (8 * k) then Zd0 (8 - (k + 1)) n (k + 1) else k) = _
      rw [if_pos g4.2]
     simp only [Zsz, qtO, quq, simprocAttr, CO.tmps, Opd.tmps, optT, Nat.reducePow, Nat.reduceDiv, Nat.reduceMod, g2', e1, e2, e3, e5, g3', zCe, KOV, ZIZ]
     exact ⟨k + 1, ⟨by omega, by omega, by rw [ks, ss]⟩, by dsimp only; omega, Bt.wk (by simp only [Zsz, quq, simprocAttr])⟩
    ·have hK : Xwj n = k := by
      rw [hr, ks]
      by_cases g2 : k < 8
      ·rw [show 8 - k = (8 - (k + 1)) + 1 by omega]
       show (if 0 < n / 2 ^ (8 * k) then Zd0 (8 - (k + 1)) n (k + 1) else k) = k
       rw [if_neg fun q => g4 ⟨g2, q⟩]
      ·obtain rfl : k = 8 := by omega
       rfl
     have w1 : IntKind.i64.wrap (191 + (k : Int)) = 191 + (k : Int) := KqM (by unfold In64; omega)
     have w2 : IntKind.i64.wrap ((k : Int) - 1) = (k : Int) - 1 := KqM (by unfold In64; omega)
     have n0 : Q2r n 0 = [UInt8.ofInt (191 + (k : Int))] := by unfold Q2r; rw [hK]; rfl
     by_cases g2 : k < 8
     ·have g2' : ((k : Int) < 8) = True := eq_true (by omega)
      have g3' := eq_false fun q => g4 ⟨g2, q⟩
      simp only [Zsz, qtO, quq, simprocAttr, CO.tmps, Opd.tmps, optT, Nat.reducePow, Nat.reduceDiv, Nat.reduceMod, g2', e1, e2, e3, e5, g3', zCe, KOV, ZIZ, w1, w2, KqS, qAJ, X41, ztu, X3l, q8C, QVJ]
      refine JRq (S := Nat) (fun j => k - j) (fun j => [.i .i64 n] ++ tp 3 ++ [numS h.length n j, .i .i64 ((k : Int) - 1 - (j : Int))] ++ tp 35) (fun j => h ++ [resB Xdl true (Q2r n j)]) (fun j => j ≤ k) 0 (Nat.zero_le _) (by
       rw [n0, qcf]
       exact Bt.wk (by simp only [Zsz, quq, simprocAttr, numS, Int.natCast_zero, Int.sub_zero])) fun j hj => ?_
      by_cases gj : j < k
      ·have gj' : ((0 : Int) ≤ (k : Int) - 1 - (j : Int)) = True := eq_true (by omega)
       have q3 : IntKind.i64.wrap (8 * ((k : Int) - 1 - (j : Int))) = ((8 * (k - 1 - j) : Nat) : Int) := by
        rw [show 8 * ((k : Int) - 1 - (j : Int)) = ((8 * (k - 1 - j) : Nat) : Int) by omega]
        exact KqM (by unfold In64; omega)
       have q4 : min (8 * (k - 1 - j)) 64 = 8 * (k - 1 - j) := by omega
       have q5 : Int.fdiv n (2 ^ (8 * (k - 1 - j))) = n / 2 ^ (8 * (k - 1 - j)) := Int.fdiv_eq_ediv_of_nonneg _ (Int.le_of_lt (Int.pow_pos (by decide)))
       have q6 : IntKind.i64.wrap ((k : Int) - 1 - (j : Int) - 1) = (k : Int) - 1 - ((j + 1 : Nat) : Int) := by
        rw [show (k : Int) - 1 - (j : Int) - 1 = (k : Int) - 1 - ((j + 1 : Nat) : Int) by omega]
        exact KqM (by unfold In64; omega)
       have hB : (Q2r n j).length ≠ 0 := by rw [qxe]; omega
       have lo := qxe n j
       have fa : ∀ B ys, appW (h ++ [resB Xdl true (Q2r n j), B]) true 1 1 (numS h.length n j) 1 ys = some (.sl (h.length + 2) 0 (j + 2) (j + 2) (some 1), h ++ [if j = 0 then resB Xdl true (Q2r n j) else .dead, B, .blk true true (Xdl.cells (Q2r n j) ++ ys)]) := fun B ys => by
        unfold numS
        by_cases j0 : j = 0
        ·rw [if_pos j0, if_pos j0, j0]
         have := qoG (h := h) [resB Xdl true (Q2r n 0), B] 0 1 1 (Xdl.cells (Q2r n 0)) ys true (by rw [Y2I (by rw [qxe]; decide)]; rfl) (by rw [Xdl.cells_len, Xcx, qxe]) (by decide) (by decide)
         rw [Nat.add_zero] at this
         exact this
        ·rw [if_neg j0, if_neg j0, ZLk _ hB]
         have := qK0 (h := h) (p := h.length) rfl (r := Xdl) (sz := 1) rfl [resB Xdl true (Q2r n j), B] 0 (Q2r n j) 1 1 ys hB (of_eq_true (QQN _ _)) (by decide) (by omega) (by unfold maxLen; omega)
         rw [Nat.add_zero, lo] at this
         exact this
       have ns1 : (numS h.length n j).isStr = false := by unfold numS; split <;> first | rfl | exact qwD _ _
       simp only [Zsz, qtO, quq, simprocAttr, CO.tmps, Opd.tmps, optT, Nat.reducePow, Nat.reduceDiv, Nat.reduceMod, gj', q3, q4, q5, q6, zCe, KOV, ZIZ, KqS, qAJ, X41, ztu, X3l, q8C, QVJ, X8j, fa, ns1]
       refine ⟨j + 1, gj, by dsimp only; omega, ?_⟩
       have hst : numS h.length n (j + 1) = .sl h.length 0 (j + 2) (j + 2) (some 1) := by
        unfold numS
        rw [if_neg (by omega), YKY _ (by rw [qxe]; omega), qxe]
       have hst2 : resB Xdl true (Q2r n (j + 1)) = .blk true true (Xdl.cells (Q2r n j) ++ [u8A (UInt8.ofInt (n / 2 ^ (8 * (k - 1 - j))))]) := by
        rw [JP6, XtT, XA7, hK]
        rfl
       simp only [hst, hst2]
       exact Bt.sel [2] hh (by decide) (by simp only [YmE, FrSel, BlkSel, AV.ren, renL, AV.ok, okL, Option.some.injEq, exists_eq_left', List.length_cons, List.length_nil, Nat.reduceAdd, Nat.reduceLT, reduceCtorEq, implies_true, exists_eq']) (by simp only [tp_0, tp_s, ZsF, YSa, YmE, FrSel, BlkSel, AV.ren, renL, AV.ok, okL, Option.some.injEq, exists_eq_left', List.length_cons, List.length_nil, Nat.reduceAdd, Nat.reduceLT, reduceCtorEq, implies_true, exists_eq'])
      ·obtain rfl : j = k := by omega
       have gj' : ((0 : Int) ≤ (j : Int) - 1 - (j : Int)) = False := eq_false (by omega)
       simp only [Zsz, qtO, quq, simprocAttr, CO.tmps, Opd.tmps, optT, Nat.reducePow, Nat.reduceDiv, Nat.reduceMod, gj', X8j]
       rw [hK]
       refine Bt.eq ?_ rfl
       unfold numS
       rw [if_neg (by omega)]
     ·have g2' : ((k : Int) < 8) = False := eq_false (by omega)
      simp only [Zsz, qtO, quq, simprocAttr, CO.tmps, Opd.tmps, optT, Nat.reducePow, Nat.reduceDiv, Nat.reduceMod, g2', e1, e2, e3, e5, zCe, KOV, ZIZ, w1, w2, KqS, qAJ, X41, ztu, X3l, q8C, QVJ]
      refine JRq (S := Nat) (fun j => k - j) (fun j => [.i .i64 n] ++ tp 3 ++ [numS h.length n j, .i .i64 ((k : Int) - 1 - (j : Int))] ++ tp 35) (fun j => h ++ [resB Xdl true (Q2r n j)]) (fun j => j ≤ k) 0 (Nat.zero_le _) (by
       rw [n0, qcf]
       exact Bt.wk (by simp only [Zsz, quq, simprocAttr, numS, Int.natCast_zero, Int.sub_zero])) fun j hj => ?_
      by_cases gj : j < k
      ·have gj' : ((0 : Int) ≤ (k : Int) - 1 - (j : Int)) = True := eq_true (by omega)
       have q3 : IntKind.i64.wrap (8 * ((k : Int) - 1 - (j : Int))) = ((8 * (k - 1 - j) : Nat) : Int) := by
        rw [show 8 * ((k : Int) - 1 - (j : Int)) = ((8 * (k - 1 - j) : Nat) : Int) by omega]
        exact KqM (by unfold In64; omega)
       have q4 : min (8 * (k - 1 - j)) 64 = 8 * (k - 1 - j) := by omega
       have q5 : Int.fdiv n (2 ^ (8 * (k - 1 - j))) = n / 2 ^ (8 * (k - 1 - j)) := Int.fdiv_eq_ediv_of_nonneg _ (Int.le_of_lt (Int.pow_pos (by decide)))
       have q6 : IntKind.i64.wrap ((k : Int) - 1 - (j : Int) - 1) = (k : Int) - 1 - ((j + 1 : Nat) : Int) := by
        rw [show (k : Int) - 1 - (j : Int) - 1 = (k : Int) - 1 - ((j + 1 : Nat) : Int) by omega]
        exact KqM (by unfold In64; omega)
       have hB : (Q2r n j).length ≠ 0 := by rw [qxe]; omega
       have lo := qxe n j
       have fa : ∀ B ys, appW (h ++ [resB Xdl true (Q2r n j), B]) true 1 1 (numS h.length n j) 1 ys = some (.sl (h.length + 2) 0 (j + 2) (j + 2) (some 1), h ++ [if j = 0 then resB Xdl true (Q2r n j) else .dead, B, .blk true true (Xdl.cells (Q2r n j) ++ ys)]) := fun B ys => by
        unfold numS
        by_cases j0 : j = 0
        ·rw [if_pos j0, if_pos j0, j0]
         have := qoG (h := h) [resB Xdl true (Q2r n 0), B] 0 1 1 (Xdl.cells (Q2r n 0)) ys true (by rw [Y2I (by rw [qxe]; decide)]; rfl) (by rw [Xdl.cells_len, Xcx, qxe]) (by decide) (by decide)
         rw [Nat.add_zero] at this
         exact this
        ·rw [if_neg j0, if_neg j0, ZLk _ hB]
         have := qK0 (h := h) (p := h.length) rfl (r := Xdl) (sz := 1) rfl [resB Xdl true (Q2r n j), B] 0 (Q2r n j) 1 1 ys hB (of_eq_true (QQN _ _)) (by decide) (by omega) (by unfold maxLen; omega)
         rw [Nat.add_zero, lo] at this
         exact this
       have ns1 : (numS h.length n j).isStr = false := by unfold numS; split <;> first | rfl | exact qwD _ _
       simp only [Zsz, qtO, quq, simprocAttr, CO.tmps, Opd.tmps, optT, Nat.reducePow, Nat.reduceDiv, Nat.reduceMod, gj', q3, q4, q5, q6, zCe, KOV, ZIZ, KqS, qAJ, X41, ztu, X3l, q8C, QVJ, X8j, fa, ns1]
       refine ⟨j + 1, gj, by dsimp only; omega, ?_⟩
       have hst : numS h.length n (j + 1) = .sl h.length 0 (j + 2) (j + 2) (some 1) := by
        unfold numS
        rw [if_neg (by omega), YKY _ (by rw [qxe]; omega), qxe]
       have hst2 : resB Xdl true (Q2r n (j + 1)) = .blk true true (Xdl.cells (Q2r n j) ++ [u8A (UInt8.ofInt (n / 2 ^ (8 * (k - 1 - j))))]) := by
        rw [JP6, XtT, XA7, hK]
        rfl
       simp only [hst, hst2]
       exact Bt.sel [2] hh (by decide) (by simp only [YmE, FrSel, BlkSel, AV.ren, renL, AV.ok, okL, Option.some.injEq, exists_eq_left', List.length_cons, List.length_nil, Nat.reduceAdd, Nat.reduceLT, reduceCtorEq, implies_true, exists_eq']) (by simp only [tp_0, tp_s, ZsF, YSa, YmE, FrSel, BlkSel, AV.ren, renL, AV.ok, okL, Option.some.injEq, exists_eq_left', List.length_cons, List.length_nil, Nat.reduceAdd, Nat.reduceLT, reduceCtorEq, implies_true, exists_eq'])
      ·obtain rfl : j = k := by omega
       have gj' : ((0 : Int) ≤ (j : Int) - 1 - (j : Int)) = False := eq_false (by omega)
       simp only [Zsz, qtO, quq, simprocAttr, CO.tmps, Opd.tmps, optT, Nat.reducePow, Nat.reduceDiv, Nat.reduceMod, gj', X8j]
       rw [hK]
       refine Bt.eq ?_ rfl
       unfold numS
       rw [if_neg (by omega)]
  ·cases e
 ·cases e
end Go.Proofs.Ytpoojfnmhnedpaa
end
section
namespace Go.Proofs.Ytpoojfnmhnedpaa
set_option maxRecDepth 100000
set_option maxHeartbeats 4000000
theorem YDz {l : List UInt8} {c : UInt8} {K : Nat} (hl : l.length = K) (hc : c.toNat = 191 + K) (hK : 1 ≤ K ∧ K ≤ 8) (hv : ¬ (qA9 l : Int) < 192) : (JDl (qA9 l) = c :: l) ↔ Xwj (qA9 l) = K := by
 have hb := KhV (qA9 l)
 have h0 : Xwj (qA9 l) ≠ 0 := fun q => hv (Jew q)
 have he : JDl (qA9 l) = UInt8.ofInt (191 + Xwj (qA9 l)) :: (List.range (Xwj (qA9 l))).map (qh9 (qA9 l) (Xwj (qA9 l))) := by unfold JDl; rw [if_neg h0]
 rw [he]
 constructor
 ·intro q
  have q1 := congrArg UInt8.toNat (List.cons.inj q).1
  have := XaF (191 + Xwj (qA9 l))
  omega
 ·intro q
  rw [q]
  subst hl
  rw [zhA]
  congr 1
  apply UInt8.toNat_inj.1
  have := XaF (191 + (l.length : Int))
  omega
theorem QYT (a b : List UInt8) : binV .neq (.s a) (.s b) = some (.b (decide (a ≠ b))) := by
 show some (AV.b (a != b)) = _
 congr 2
 by_cases q : a = b
 ·simp [q]
 ·simp [q]
theorem QVz {T : Env} {ev : Opd → AV} (x : Opd) : wsC T ev (.b2s x) = [] := _root_.id rfl
theorem Xi5 {h : List AB} {i : Nat} {s : AV} {bs : List UInt8} (H : QdH h i s bs) {s' : AV} {l : List UInt8} (e : Rd Xdl h s' l) (hq : ∀ k ∈ idOf s', k ∈ idOf s) (x : RSt) (L : List AB) (c anc n : Nat) (past : List Pt) (hn : n = h.length + L.length) : srcV (KPB (seen (h.length + c) anc past n) [] 0 (qB h i s x ++ L)) 1 s' = some (l.length, Xdl.cells l) := by
 have e' : Rd Xdl (KPB (seen (h.length + c) anc past n) [] 0 (qB h i s x ++ L)) s' l := Rd.mask ((e.setB (fun k hk => H.q k (hq k hk)) _).app L) fun k hk => by
  have := H.lt k (hq k hk)
  exact XXH (by omega) (by omega)
 have := e'.src (sz := 1) rfl []
 rw [List.append_nil] at this
 exact this
theorem QzT {h G : List AB} {l : List UInt8} (hg : G.length = h.length) (h0 : l.length ≠ 0) (hl : l.length ≤ maxLen) (anc n : Nat) (past : List Pt) (hn : n = h.length + 1) (ho : qOk (h.length + 0) 0 0 anc past (h.length + 0) = true) : srcV (KPB (seen (h.length + 0) anc past n) [] 0 (G ++ [resB Xdl true l])) 1 (apS Xdl (h.length + 0) l) = some (l.length, Xdl.cells l) := by
 rw [ZLk _ h0]
 have e0 : Rd Xdl (G ++ [resB Xdl true l]) (rsl Xdl (h.length + 0) l) l := Y2R (m := true) (by rw [Nat.add_zero, ← hg, List.getElem?_append_right (Nat.le_refl _), Nat.sub_self]; rfl) hl
 have e' : Rd Xdl (KPB (seen (h.length + 0) anc past n) [] 0 (G ++ [resB Xdl true l])) (rsl Xdl (h.length + 0) l) l := Rd.mask e0 fun k hk => by
  have : k = h.length + 0 := by
   unfold rsl at hk
   rw [if_neg h0] at hk
   simpa [idOf] using hk
  subst this
  exact List.mem_filter.2 ⟨List.mem_range.2 (by omega), ho⟩
 have := e'.src (sz := 1) rfl []
 rw [List.append_nil] at this
 exact this
noncomputable def zE8 : List AV → List AB → Option (AV × List AB)
 | [.p i 0], h => (rdQ h i).bind fun y => some (.i .i64 (YLr y.2.1 y.2.2).1, qB h i y.1 (YLr y.2.1 y.2.2).2)
 | _, _ => none
theorem z78 : Spec Try.prog 72 zE8 := by
 intro args h v h' e
 unfold zE8 at e
 split at e
 ·rename_i i
  obtain ⟨s, bs, n, er, a, hi, H, hn, e1⟩ := X3Q e
  clear e
  cases e1
  refine FnAt.c (FnAt.run (by kernel_rfl) (T := ⟨[⟨81, J5P, fun _ => []⟩, ⟨63, QYL, fun _ => []⟩], []⟩) ⟨⟨XSh, qg7, trivial⟩, trivial⟩ Try.func72 sw72 fun ho hh => ?_)
  have hok := qah hh hi
  have e0 : h ++ [] = qB h i s ⟨n, er, a⟩ ++ [] := by rw [JgC hi]
  rw [e0]
  dsimp only
  have f1 := Zlx H hok
  have f2 := zn6 H hok
  have f3 := qu6 (x := ⟨n, er, a⟩) H hn
  have f4 := fun x => QFS (x := x) H
  unfold w72
  by_cases g : er = 0
  case neg =>
   have g' := eq_false g
   have hr : YLr bs ⟨n, er, a⟩ = (0, ⟨n, er, a⟩) := XjZ bs _ g
   rw [hr]
   simp only [JaG, Qv6, Zsz, qtO, quq, simprocAttr, CO.tmps, Opd.tmps, optT, Nat.reducePow, Nat.reduceDiv, Nat.reduceMod, f1, f2, g', List.getElem?_cons_zero, List.getElem?_cons_succ, ne_eq, not_false_eq_true, decide_true]
   exact btQ rfl
  subst g
  have ff : ∀ e : Int, RSt.fail ⟨n, 0, a⟩ e n = ⟨n, e, n⟩ := fun e => by unfold RSt.fail; rw [if_pos rfl]
  have m1 : bs.length ≤ maxLen := H.rd.2
  unfold maxLen at m1
  by_cases g1 : bs.length ≤ n
  ·have g1' : ((bs.length : Int) ≤ (n : Int)) = True := eq_true (by omega)
   have hr : YLr bs ⟨n, 0, a⟩ = (0, ⟨n, 6, n⟩) := by unfold YLr; rw [if_pos rfl, List.getElem?_eq_none (show bs.length ≤ n from g1)]
   rw [hr]
   simp only [JaG, Qv6, Zsz, qtO, quq, simprocAttr, CO.tmps, Opd.tmps, optT, Nat.reducePow, Nat.reduceDiv, Nat.reduceMod, f1, f2, f3, f4, g1', ff, J5P, X8j, List.getElem?_cons_zero, List.getElem?_cons_succ, ne_eq, not_true_eq_false, decide_false]
   exact btQ rfl
  have g1' : ((bs.length : Int) ≤ (n : Int)) = False := eq_false (by omega)
  have hlt : (n < bs.length) = True := eq_true (by omega)
  have hge : ((0 : Int) ≤ (n : Int) ∧ (n : Int) < (bs.length : Int)) = True := eq_true (by omega)
  obtain ⟨C, hC⟩ : ∃ C, C = (bs.getD n 0).toNat := ⟨_, rfl⟩
  have hc1 : u8A (bs.getD n 0) = .i .u8 (C : Int) := by rw [hC]; rfl
  have hc2 : C < 256 := by rw [hC]; exact UInt8.toNat_lt _
  have hr0 : YLr bs ⟨n, 0, a⟩ = Xcg bs ⟨n, 0, a⟩ C := by
   unfold YLr
   have q : n < bs.length := by omega
   rw [if_pos rfl, List.getElem?_eq_getElem (show (⟨n, 0, a⟩ : RSt).pos < bs.length from q), hC, List.getD_eq_getElem?_getD, List.getElem?_eq_getElem q]
   rfl
  have e1 : IntKind.i64.wrap (C : Int) = (C : Int) := KqM (by unfold In64; omega)
  have e2 : IntKind.i64.wrap ((C : Int) - 191) = (C : Int) - 191 := KqM (by unfold In64; omega)
  have e3 : IntKind.i64.wrap ((bs.length : Int) - (n : Int)) = (bs.length : Int) - n := KqM (by unfold In64; omega)
  have e4 : IntKind.i64.wrap ((bs.length : Int) - (n : Int) - 1) = (bs.length : Int) - n - 1 := KqM (by unfold In64; omega)
  have e6 : IntKind.i64.wrap ((n : Int) + 1) = ((n + 1 : Nat) : Int) := KqM (by unfold In64; omega)
  rw [hr0]
  by_cases g4 : C < 192
  ·have g4' : ((C : Int) < 192) = True := eq_true (by omega)
   have hr : Xcg bs ⟨n, 0, a⟩ C = ((C : Int), ⟨n + 1, 0, a⟩) := by unfold Xcg; rw [if_neg (by omega), if_neg (by dsimp only; omega), if_pos g4]
   rw [hr]
   simp only [JaG, Qv6, Zsz, qtO, quq, simprocAttr, CO.tmps, Opd.tmps, optT, Nat.reducePow, Nat.reduceDiv, Nat.reduceMod, f1, f2, g1', hlt, hge, hc1, e1, e2, e6, QVJ, g4', X8j, List.getElem?_cons_zero, List.getElem?_cons_succ, ne_eq, not_true_eq_false, decide_false]
   exact btQ rfl
  have g4' : ((C : Int) < 192) = False := eq_false (by omega)
  by_cases g2 : 199 < C
  ·have g2' : ((199 : Int) < (C : Int)) = True := eq_true (by omega)
   have hr : Xcg bs ⟨n, 0, a⟩ C = (0, ⟨n, 5, n⟩) := by unfold Xcg; rw [if_pos g2]
   rw [hr]
   simp only [JaG, Qv6, Zsz, qtO, quq, simprocAttr, CO.tmps, Opd.tmps, optT, Nat.reducePow, Nat.reduceDiv, Nat.reduceMod, f1, f2, f3, f4, g1', hlt, hge, hc1, e1, e2, QVJ, g2', g4', ff, J5P, X8j, List.getElem?_cons_zero, List.getElem?_cons_succ, ne_eq, not_true_eq_false, decide_false]
   exact btQ rfl
  have g2' : ((199 : Int) < (C : Int)) = False := eq_false (by omega)
  obtain ⟨K, hK⟩ : ∃ K, K = C - 191 := ⟨_, rfl⟩
  have hK1 : 1 ≤ K ∧ K ≤ 8 := by omega
  have hK2 : (C : Int) - 191 = (K : Int) := by omega
  rw [hK2] at e2
  by_cases g3 : bs.length < n + 1 + K
  ·have g3' : ((bs.length : Int) - (n : Int) - 1 < (K : Int)) = True := eq_true (by omega)
   have hr : Xcg bs ⟨n, 0, a⟩ C = (0, ⟨n, 6, n⟩) := by unfold Xcg; rw [if_neg g2, if_pos (by rw [← hK]; exact g3)]
   rw [hr]
   simp only [JaG, Qv6, Zsz, qtO, quq, simprocAttr, CO.tmps, Opd.tmps, optT, Nat.reducePow, Nat.reduceDiv, Nat.reduceMod, f1, f2, f3, f4, g1', hlt, hge, hc1, hK2, e1, e2, e3, e4, QVJ, g2', g3', g4', ff, J5P, X8j, List.getElem?_cons_zero, List.getElem?_cons_succ, ne_eq, not_true_eq_false, decide_false]
   exact btQ rfl
  have g3' : ((bs.length : Int) - (n : Int) - 1 < (K : Int)) = False := eq_false (by omega)
  obtain ⟨s', hs1, hs2, hs3, hs4⟩ := H.rd.cutS H.cap (a := n) (b := n + (1 + K)) (by omega) (by omega) (sz := 1) rfl
  have e7 : IntKind.i64.wrap (((n + 1 : Nat) : Int) + (K : Int)) = ((n + (1 + K) : Nat) : Int) := by
   rw [show ((n + 1 : Nat) : Int) + (K : Int) = ((n + (1 + K) : Nat) : Int) by omega]
   exact KqM (by unfold In64; omega)
  rw [show n + (1 + K) - n = 1 + K by omega] at hs2
  obtain ⟨l, hl⟩ : ∃ l, l = (bs.drop (n + 1)).take K := ⟨_, rfl⟩
  have hll : l.length = K := by rw [hl, List.length_take, List.length_drop]; omega
  have hcl : (bs.drop n).take (1 + K) = bs.getD n 0 :: l := by
   have q : n < bs.length := by omega
   rw [hl, List.drop_eq_getElem_cons q, Nat.add_comm 1 K, List.take_succ_cons, List.getD_eq_getElem?_getD, List.getElem?_eq_getElem q]
   rfl
  have hld : ∀ k, k < K → bs.getD (n + (1 + k)) 0 = l.getD k 0 := fun k hk => by
   rw [← Nat.add_assoc, hl, List.getD_eq_getElem?_getD, List.getD_eq_getElem?_getD, List.getElem?_take_of_lt hk, List.getElem?_drop]
  rw [hcl] at hs2
  have hr1 : Xcg bs ⟨n, 0, a⟩ C = if 9223372036854775808 ≤ qA9 l ∨ Xwj (qA9 l) ≠ K then (0, ⟨n, 5, n⟩) else (((qA9 l : Nat) : Int), ⟨n + 1 + K, 0, a⟩) := by
   unfold Xcg
   rw [if_neg g2, if_neg (by rw [← hK]; exact g3), if_neg g4, hl, hK]
  rw [hr1]
  have fs := hs2.fx (hs3 _ hok) (sz := 1) rfl
  have fp := Ylt H hs2 hs4
  have fm := QvP H hok hh
  have hES := fun q => YDz (c := bs.getD n 0) hll (by rw [← hC]; omega) hK1 q
  simp only [JaG, Qv6, Zsz, qtO, quq, simprocAttr, CO.tmps, Opd.tmps, optT, Nat.reducePow, Nat.reduceDiv, Nat.reduceMod, f1, f2, f3, f4, g1', hlt, hge, hc1, hK2, e1, e2, e3, e4, QVJ, g2', g3', g4', X8j, List.getElem?_cons_zero, List.getElem?_cons_succ, ne_eq, not_true_eq_false, decide_false]
  refine KIk (S := Nat) (fun k => K - k) (fun k => [.p i 0] ++ tp 2 ++ [.i .i64 n] ++ tp 1 ++ [.i .i64 K, .i .u64 (qA9 (l.take k) : Nat), .i .i64 ((k + 1 : Nat) : Int)] ++ tp 115) (fun k => k ≤ K) 0 (Nat.zero_le _) (by simp only [Zsz, quq, simprocAttr, List.take_zero]; exact fun ρ c h => h) fun k hk => ?_
  by_cases g5 : k < K
  ·have g5' : (((k + 1 : Nat) : Int) ≤ (K : Int)) = True := eq_true (by omega)
   have w0 : IntKind.i64.wrap ((n : Int) + ((k + 1 : Nat) : Int)) = ((n + (1 + k) : Nat) : Int) := by
    rw [show (n : Int) + ((k + 1 : Nat) : Int) = ((n + (1 + k) : Nat) : Int) by omega]
    exact KqM (by unfold In64; omega)
   have g6' : ((0 : Int) ≤ ((n + (1 + k) : Nat) : Int) ∧ ((n + (1 + k) : Nat) : Int) < (bs.length : Int)) = True := eq_true (by omega)
   have g7' : (n + (1 + k) < bs.length) = True := eq_true (by omega)
   have q0 := hld k g5
   have q1 : IntKind.u64.wrap ((qA9 (l.take k) : Int) * 256) = ((qA9 (l.take k) * 256 : Nat) : Int) := by
    have := JOW l (m := k) (by omega)
    rw [show (qA9 (l.take k) : Int) * 256 = ((qA9 (l.take k) * 256 : Nat) : Int) by omega]
    exact K03 _ (by omega)
   have q2 : IntKind.u64.wrap (((l.getD k 0).toNat : Nat) : Int) = ((l.getD k 0).toNat : Int) := K03 _ (by have := UInt8.toNat_lt (l.getD k 0); omega)
   have q3 := Qxz (qA9 (l.take k)) (l.getD k 0).toNat (JOW l (by omega)) (UInt8.toNat_lt _)
   have q4 : IntKind.i64.wrap (((k + 1 : Nat) : Int) + 1) = ((k + 1 + 1 : Nat) : Int) := KqM (by unfold In64; omega)
   simp only [Zsz, qtO, quq, simprocAttr, CO.tmps, Opd.tmps, optT, Nat.reducePow, Nat.reduceDiv, Nat.reduceMod, f1, f2, w0, g5', g6', g7', q0, u8A, q1, q2, q3, q4, QVJ, KTc, List.getElem?_cons_zero, List.getElem?_cons_succ]
   refine ⟨k + 1, by omega, by omega, ?_⟩
   rw [Ylz l (by omega)]
   exact ⟨fun _ _ h => h, fun _ _ h => h⟩
  ·have g5' : (((k + 1 : Nat) : Int) ≤ (K : Int)) = False := eq_false (by omega)
   obtain rfl : k = K := by omega
   rw [List.take_of_length_le (by omega)]
   by_cases g8 : 9223372036854775808 ≤ qA9 l
   ·have g8' : ((9223372036854775808 : Int) ≤ (qA9 l : Int)) = True := eq_true (by omega)
    rw [if_pos (Or.inl g8)]
    simp only [Zsz, qtO, quq, simprocAttr, CO.tmps, Opd.tmps, optT, Nat.reducePow, Nat.reduceDiv, Nat.reduceMod, f1, f2, f3, f4, g5', g8', X8j, ff, fm, J5P]
    exact btQ rfl
   ·have g8' : ((9223372036854775808 : Int) ≤ (qA9 l : Int)) = False := eq_false (by omega)
    by_cases g9 : (qA9 l : Int) < 192
    ·have g9' := eq_true g9
     have hz : Xwj (qA9 l) = 0 := by unfold Xwj; rw [if_pos g9]
     rw [if_pos (Or.inr (by omega))]
     simp only [Zsz, qtO, quq, simprocAttr, CO.tmps, Opd.tmps, optT, Nat.reducePow, Nat.reduceDiv, Nat.reduceMod, f1, f2, f3, f4, g5', g8', g9', X8j, ff, fm, J5P]
     exact btQ rfl
    ·have g9' := eq_false g9
     have hE := hES g9
     have q1 : IntKind.i64.wrap (qA9 l : Int) = (qA9 l : Int) := KqM (by unfold In64; omega)
     have qn : ((0 : Int) ≤ (qA9 l : Int)) = True := eq_true (by omega)
     have qm : ((qA9 l : Int) ≤ 9223372036854775807) = True := eq_true (by omega)
     have h0 : (JDl (qA9 l)).length ≠ 0 := by
      unfold JDl
      split
      ·simp
      ·simp only [List.length_cons]; omega
     have fs1 := fun (y : RSt) anc n' past => QzT (G := qB h i s y) XD9 h0 (by have := ZEm (qA9 l); unfold maxLen; omega) anc n' past
     have fs2 := fun (y : RSt) L c anc n' past => Xi5 H hs2 hs4 y L c anc n' past
     by_cases g10 : Xwj (qA9 l) = k
     ·have hE' : (JDl (qA9 l) = bs.getD n 0 :: l) = True := eq_true (hE.2 g10)
      rw [if_neg (fun q => q.elim g8 (fun q => q g10))]
      simp only [Zsz, qtO, quq, simprocAttr, CO.tmps, Opd.tmps, optT, Nat.reducePow, Nat.reduceDiv, Nat.reduceMod, f1, f2, f3, f4, fs, fp, fm, g5', g8', g9', e6, e7, hs1, q1, qn, qm, QVJ, X8j, ff, fs1, fs2, QVz, qwD, qrK, qJ8, Ysf, XH2, Z8A, QYL, J5P, hE', QYT, ne_eq, not_true_eq_false, not_false_eq_true, decide_true, decide_false]
      exact btQD H hok hh _ rfl rfl
     ·have hE' : (JDl (qA9 l) = bs.getD n 0 :: l) = False := eq_false fun q => g10 (hE.1 q)
      rw [if_pos (Or.inr g10)]
      simp only [Zsz, qtO, quq, simprocAttr, CO.tmps, Opd.tmps, optT, Nat.reducePow, Nat.reduceDiv, Nat.reduceMod, f1, f2, f3, f4, fs, fp, fm, g5', g8', g9', e6, e7, hs1, q1, qn, qm, QVJ, X8j, ff, fs1, fs2, QVz, qwD, qrK, qJ8, Ysf, XH2, Z8A, QYL, J5P, hE', QYT, ne_eq, not_true_eq_false, not_false_eq_true, decide_true, decide_false]
      exact btQD H hok hh _ rfl rfl
 ·cases e
end Go.Proofs.Ytpoojfnmhnedpaa
end
section
namespace Go.Proofs.Ytpoojfnmhnedpaa
set_option maxRecDepth 100000
set_option maxHeartbeats 4000000
def Jwv : List AV → List AB → Option (AV × List AB)
 | [.p i 0], h => match Za2 h i with
   | some [.p _ 0, _, _] => some (.b false, h)
   | _ => none
 | _, _ => none
theorem Yp8 : Spec Try.prog 57 Jwv := by
 intro args h v h' e
 unfold Jwv at e
 split at e
 ·rename_i i
  split at e
  ·rename_i j s p hb
   cases e
   refine FnAt.c (FnAt.run (by kernel_rfl) (T := ⟨[], []⟩) ⟨trivial, trivial⟩ Try.func57 sw57 fun ho hh => ?_)
   have f1 := Yx2 hb
   unfold w57
   simp only [JaG, Qv6, Zsz, qtO, quq, simprocAttr, CO.tmps, Opd.tmps, optT, Nat.reducePow, Nat.reduceDiv, Nat.reduceMod, f1, zoX, List.getElem?_cons_zero, List.getElem?_cons_succ]
   exact Bt.dropB _ hh rfl
  ·cases e
 ·cases e
def YQp : List AV → List AB → Option (AV × List AB)
 | [.i .i64 n], h => if 0 ≤ n ∧ n ≤ 67108864 then some (.tu [.p h.length 0, .i .i64 0], h ++ [.blk false true [.p (h.length + 1) 0, .i .i64 n, .ns], .blk true true [.i .i64 0, .i .i64 0]]) else none
 | _, _ => none
theorem KRk : Spec Try.prog 27 YQp := by
 intro args h v h' e
 unfold YQp at e
 split at e
 ·rename_i n
  split at e
  ·rename_i hn
   cases e
   refine FnAt.c (FnAt.run (by kernel_rfl) (T := ⟨[], []⟩) ⟨trivial, trivial⟩ Try.func27 sw27 fun ho hh => ?_)
   have g1 : (n < 0) = False := eq_false (by omega)
   have g2 : ((67108864 : Int) < n) = False := eq_false (by omega)
   unfold w27
   simp only [JaG, Qv6, Zsz, qtO, quq, simprocAttr, CO.tmps, Opd.tmps, optT, Nat.reducePow, Nat.reduceDiv, Nat.reduceMod, g1, g2]
   exact Bt.sel [1, 0] hh (by decide) (by simp only [YmE, FrSel, BlkSel, AV.ren, renL, AV.ok, okL, Option.some.injEq, exists_eq_left', List.length_cons, List.length_nil, Nat.reduceAdd, Nat.reduceLT, reduceCtorEq, implies_true, exists_eq', QtM, Jg8]) (by simp only [YmE, FrSel, BlkSel, AV.ren, renL, AV.ok, okL, Option.some.injEq, exists_eq_left', List.length_cons, List.length_nil, Nat.reduceAdd, Nat.reduceLT, reduceCtorEq, implies_true, exists_eq'])
  ·cases e
 ·cases e
end Go.Proofs.Ytpoojfnmhnedpaa
end
section
namespace Go.Proofs.Ytpoojfnmhnedpaa
set_option maxRecDepth 100000
set_option maxHeartbeats 4000000
def wtr (h : List AB) (i : Nat) : Option (Nat × Int × AV × Int × Int) := match h[i]? with
 | some (.blk false _ [.p j 0, .i .i64 n, s]) => match Za2 h j with
  | some [.i .i64 e, .i .i64 a] => some (j, n, s, e, a)
  | _ => none
 | _ => none
theorem q7v {β : Type} {h : List AB} {i : Nat} {f : Nat × Int × AV × Int × Int → Option β} {b : β} (q : (wtr h i).bind f = some b) : ∃ j n s e a, (∃ m, h[i]? = some (.blk false m [.p j 0, .i .i64 n, s])) ∧ Za2 h i = some [.p j 0, .i .i64 n, s] ∧ Za2 h j = some [.i .i64 e, .i .i64 a] ∧ f (j, n, s, e, a) = some b := by
 obtain ⟨x, h1, h2⟩ := Option.bind_eq_some_iff.1 q
 unfold wtr at h1
 split at h1
 ·rename_i hb
  split at h1
  ·rename_i hc
   cases h1
   exact ⟨_, _, _, _, _, ⟨_, hb⟩, by unfold Za2; rw [hb], hc, h2⟩
  ·cases h1
 ·cases h1
theorem QTw {h : List AB} (hh : HOk h) {i j : Nat} {s : AV} {n : Int} {m : Bool} (q : h[i]? = some (.blk false m [.p j 0, .i .i64 n, s])) : s.ok (fun k => decide (k < h.length)) = true := by
 have := hh i _ q
 simp only [AB.ok, JjX, Bool.and_eq_true] at this
 exact this.2.2.1
noncomputable def Yq1 : List AV → List AB → Option (AV × List AB)
 | [.p i 0], h => (wtr h i).bind fun x => (getS Xdl h x.2.2.1).bind fun bs => if bs.length ≤ 1000000 then
   if x.2.2.2.1 = 0 then some (.tu [rsl Xdl h.length bs, .i .i64 0], h ++ [resB Xdl true bs]) else some (.tu [.ns, .i .i64 x.2.2.2.1], h)
   else none
 | _, _ => none
theorem JsT : Spec Try.prog 30 Yq1 := by
 intro args h v h' e
 unfold Yq1 at e
 split at e
 ·rename_i i
  obtain ⟨j, n, s, er, a, ⟨m, hi⟩, hb, hc, e⟩ := q7v e
  dsimp only at e
  obtain ⟨bs, hs, e⟩ := Zly e
  split at e
  ·rename_i hl
   have l1 := eq_true hl
   refine FnAt.c (FnAt.run (by kernel_rfl) (T := ⟨[⟨57, Jwv, fun _ => []⟩, ⟨58, ZJ7, fun _ => []⟩, ⟨59, Q9d, fun _ => []⟩], []⟩) ⟨⟨Yp8, YfC, Yhj, trivial⟩, trivial⟩ Try.func30 sw30 fun ho hh => ?_)
   have f1 := Yx2 hb
   have f2 := Yx2 hc
   have f3 := hs.fx (QTw hh hi) (sz := 1) rfl
   unfold w30
   by_cases g : er = 0
   ·have g' := eq_true g
    rw [if_pos g] at e
    cases e
    simp only [JaG, Qv6, Zsz, qtO, quq, simprocAttr, CO.tmps, Opd.tmps, optT, Nat.reducePow, Nat.reduceDiv, Nat.reduceMod, f1, f2, f3, g', l1, Jwv, ZJ7, Q9d, zoX, List.getElem?_cons_zero, List.getElem?_cons_succ, ne_eq, not_true_eq_false, decide_true, decide_false]
    exact Bt.eq rfl rfl
   ·have g' := eq_false g
    rw [if_neg g] at e
    cases e
    simp only [JaG, Qv6, Zsz, qtO, quq, simprocAttr, CO.tmps, Opd.tmps, optT, Nat.reducePow, Nat.reduceDiv, Nat.reduceMod, f1, f2, f3, g', l1, Jwv, ZJ7, Q9d, zoX, List.getElem?_cons_zero, List.getElem?_cons_succ, ne_eq, not_false_eq_true, decide_true, decide_false]
    exact Bt.drop _ hh rfl (by simp only [Jiv, JjX, ZWl, YCy, ok_i, Bool.and_true])
  ·cases e
 ·cases e
end Go.Proofs.Ytpoojfnmhnedpaa
end
section
namespace Go.Proofs.Ytpoojfnmhnedpaa
set_option maxRecDepth 100000
set_option maxHeartbeats 4000000
theorem Qlt {ty : TypeId} {v : AV} {p : List UInt8 × Bool} (h : encV ty v = some p) : p.1.length ≠ 0 ∧ p.1.length ≤ 1000009 := by
 unfold encV at h
 split at h
 ·split at h
  ·rename_i n
   split at h
   ·cases h
    exact ⟨XtS n, by have := ZEm n; dsimp only; omega⟩
   ·cases h
  ·cases h
 split at h
 ·split at h
  ·rename_i l
   split at h
   ·rename_i hl
    cases h
    have := XtS l.length
    have := ZEm l.length
    dsimp only
    rw [List.length_append]
    omega
   ·cases h
  ·cases h
 split at h
 ·obtain ⟨d, _, hp⟩ := Option.map_eq_some_iff.1 h
  cases hp
  rw [d.h]
  decide
 ·cases h
section
variable {h : List AB} {i j : Nat} {lim : Int} {s : AV} {bs : List UInt8} {e : Int}
theorem rd_i (H : WrH h i j lim s bs e) : Za2 h i = some [.p j 0, .i .i64 lim, s] := by unfold Za2; rw [H.hi]; rfl
theorem rd_j (H : WrH h i j lim s bs e) : Za2 h j = some [.i .i64 e, .i .i64 0] := by unfold Za2; rw [H.hj]; rfl
theorem Xyr (H : WrH h i j lim s bs e) (st : List UInt8 × Int) (k : Option Nat) (L : List AB) : ldV (wX h i j lim s st k ++ L) none (.p i 0) = some (.p j 0) ∧ ldV (wX h i j lim s st k ++ L) none (.p j 0) = some (.i .i64 st.2) := by
 have hil := H.il
 have hjl := H.jl
 constructor
 ·simp only [ldV, Za2]
  rw [List.getElem?_append_left (by rw [Yf1]; exact hil), wX_i H]
  rfl
 ·simp only [ldV, Za2]
  rw [List.getElem?_append_left (by rw [Yf1]; exact hjl), wX_j H]
  rfl
theorem KUz (H : WrH h i j lim s bs 0) (x : Int) (L : List AB) : QCR [.p j 0, .i .i64 x, .i .i64 0] (h ++ L) = some (.tu [], wX h i j lim s (bs, x) none ++ L) := by
 have hjl := H.jl
 have hj : (h ++ L)[j]? = some (.blk true true [.i .i64 0, .i .i64 0]) := by rw [List.getElem?_append_left hjl]; exact H.hj
 unfold QCR
 simp only [hj, if_true]
 rw [List.set_append_left _ _ hjl]
 rfl
theorem XAV (H : WrH h i j lim s bs e) {enc : List UInt8} (h0 : enc.length ≠ 0) (hm : enc.length ≤ 1000009) (L : List AB) : appW (h ++ L) true 1 1 s enc.length (Xdl.cells enc) = some (apS Xdl (h.length + L.length) (bs ++ enc), XHx s h ++ (L ++ [resB Xdl true (bs ++ enc)])) := by
 have hl1 := H.hlim
 have hl2 := H.hlen
 rcases H.hs with ⟨q1, q2⟩ | ⟨q, q1, q2, q3⟩
 ·rw [q1, q2, Yke, if_neg h0, if_pos ⟨by omega, by unfold maxLen; omega⟩, List.nil_append, YKY _ h0, Y2I h0]
  rfl
 ·obtain ⟨p1, p2, p3, p4⟩ := H.q q1 q2
  have hne : bs.length + enc.length ≠ 0 := by omega
  have hg : (h ++ L)[q]? = some (.blk true true (Xdl.cells bs)) := by rw [List.getElem?_append_left p4]; exact p1
  have hcl : (Xdl.cells bs).length = bs.length := by rw [Xdl.cells_len, Xcx]; omega
  rw [q1, YKY _ q2, q9B _ q2, ZzH q2]
  simp only [appW, XHx, hg]
  rw [if_neg h0, if_neg (by omega), if_pos ⟨trivial, by omega, by omega, by unfold maxLen; omega⟩, if_neg (by simp), if_pos ⟨trivial, by decide, trivial, by omega⟩, List.drop_zero, List.length_append, List.set_append_left _ _ p4, List.append_assoc]
  rfl
theorem st_w (H : WrH h i j lim s bs 0) (k : Nat) (bs' : List UInt8) (L : List AB) : stV (XHx s h ++ L) none (.p i 2) (apS Xdl (h.length + k) bs') = some (wX h i j lim s (bs', 0) (some k) ++ L) := by
 have hq : i ∉ idOf s := by
  rcases H.hs with ⟨q1, q2⟩ | ⟨q, q1, q2, q3⟩
  ·rw [q1]; simp [idOf]
  ·obtain ⟨p1, p2, p3, p4⟩ := H.q q1 q2
   rw [q1, YKY _ q2]
   simp only [idOf, List.mem_singleton]
   exact Ne.symm p2
 have hqj : j ∉ idOf s := by
  rcases H.hs with ⟨q1, q2⟩ | ⟨q, q1, q2, q3⟩
  ·rw [q1]; simp [idOf]
  ·obtain ⟨p1, p2, p3, p4⟩ := H.q q1 q2
   rw [q1, YKY _ q2]
   simp only [idOf, List.mem_singleton]
   exact Ne.symm p3
 rw [ZAf (h := XHx s h) (i := i) (fl := false) (cells := [.p j 0, .i .i64 lim, s]) (by rw [KeF hq]; exact H.hi) (o := 2) (Nat.le_refl 3) (by unfold apS; split <;> rfl) (JBL _ _)]
 have : wX h i j lim s (bs', 0) (some k) = (XHx s h).set i (blkW j lim (apS Xdl (h.length + k) bs')) := by
  simp only [wX]
  rw [Xn5]
  rw [List.getElem?_set_ne H.ne, KeF hqj]
  exact H.hj
 rw [this]
 rfl
end
noncomputable def XIA : List AV → List AB → Option (AV × List AB)
 | [.p i 0, .ifc ty v], h => (encV ty v).bind fun p => wPut h i p.1 p.2
 | _, _ => none
theorem Jgj : Spec Try.prog 56 XIA := by
 intro args h v h' e
 unfold XIA at e
 split at e
 ·rename_i i ty x
  obtain ⟨⟨enc, ok⟩, hp, e⟩ := Option.bind_eq_some_iff.1 e
  obtain ⟨n0, n1⟩ := Qlt hp
  dsimp only at e n0 n1
  unfold wPut at e
  obtain ⟨j, lim, s, bs, er, H, e⟩ := Yf0 e
  dsimp only at e
  cases e
  unfold wOut
  refine FnAt.c (FnAt.run (by kernel_rfl) (T := ⟨[⟨57, Jwv, fun _ => []⟩, ⟨58, ZJ7, fun _ => []⟩, ⟨76, QCR, wsP⟩, ⟨75, Jdy, fun _ => []⟩], []⟩) ⟨⟨Yp8, YfC, QSN, XXK, trivial⟩, trivial⟩ Try.func56 sw56 fun ho hh => ?_)
  have f1 := Yx2 (rd_i H)
  have f2 := Yx2 (rd_j H)
  have hl1 := H.hlim
  have hl2 := H.hlen
  have hso : s.ok (fun k => decide (k < h.length)) = true := by
   have := hh i _ H.hi
   simp only [blkW, AB.ok, JjX, Bool.and_eq_true] at this
   exact this.2.2.1
  have hsl : s.isSl = true := by
   rcases H.hs with ⟨q1, q2⟩ | ⟨q, q1, q2, q3⟩
   ·rw [q1]; rfl
   ·rw [q1]; exact KRA _ _
  have hsv : lenV s = some (bs.length : Int) := by
   rcases H.hs with ⟨q1, q2⟩ | ⟨q, q1, q2, q3⟩
   ·rw [q1, q2]; rfl
   ·rw [q1]; exact XbM _ _
  have s1 := zuq hsl
  have s2 := YWX hsl
  have s3 := QCP hsl
  have s4 : ∀ c lo hi anc past, s.ok (qOk (h.length + c) lo hi anc past) = true := fun c lo hi anc past => AV.ok_mono (fun k hk => Y9A (by simp only [decide_eq_true_eq] at hk; omega)) s hso
  unfold w56
  by_cases g : er = 0
  case neg =>
   have g' := eq_false g
   have hw : wput lim bs er enc ok = (bs, er) := by unfold wput; rw [if_neg g]
   rw [hw, if_pos rfl, if_pos rfl]
   simp only [JaG, Qv6, Zsz, qtO, quq, simprocAttr, CO.tmps, Opd.tmps, optT, Nat.reducePow, Nat.reduceDiv, Nat.reduceMod, f1, f2, g', Jwv, ZJ7, zoX, List.getElem?_cons_zero, List.getElem?_cons_succ, not_false_eq_true, decide_true]
   exact qbQ (st := (bs, er)) (k := none) (d := 0) (L := []) H hh rfl _ rfl |> fun q => by
    unfold wOut at q
    rw [if_pos rfl, if_pos rfl] at q
    have e0 : wX h i j lim s (bs, er) none = h := by
     simp only [wX]
     exact Xn5 H.hj
    rw [e0] at q ⊢
    exact q
  subst g
  have ff := KUz H
  have fl := fun st k L => (Xyr H st k L).1
  have fl2 := fun st k L => (Xyr H st k L).2
  cases ok with
  | false =>
   have hw : wput lim bs 0 enc false = (bs, 3) := rfl
   rw [hw]
   simp only [JaG, Qv6, Zsz, qtO, quq, simprocAttr, CO.tmps, Opd.tmps, optT, Nat.reducePow, Nat.reduceDiv, Nat.reduceMod, f1, f2, ff, fl, fl2, hp, Jwv, ZJ7, Jdy, zoX, List.getElem?_cons_zero, List.getElem?_cons_succ, not_true_eq_false, not_false_eq_true, decide_true, decide_false, ne_eq]
   refine qbQ (P := Try.prog) (st := (bs, 3)) (k := none) (d := 0) (L := [resB Xdl true enc]) H hh rfl (.i .i64 3) rfl |> fun q => ?_
   unfold wOut at q
   rw [if_pos rfl, if_pos rfl] at q
   exact q
  | true =>
   have w1 : IntKind.i64.wrap ((bs.length : Int) + (enc.length : Int)) = (bs.length : Int) + (enc.length : Int) := KqM (by unfold In64; omega)
   by_cases g2 : lim < (bs.length : Int) + (enc.length : Int)
   ·have g2' := eq_true g2
    have hw : wput lim bs 0 enc true = (bs, 4) := by unfold wput; rw [if_pos rfl, if_pos rfl, if_pos g2]
    rw [hw]
    simp only [JaG, Qv6, Zsz, qtO, quq, simprocAttr, CO.tmps, Opd.tmps, optT, Nat.reducePow, Nat.reduceDiv, Nat.reduceMod, f1, f2, ff, fl, fl2, hp, g2', w1, s1, s2, s3, s4, hsv, Jwv, ZJ7, Jdy, zoX, List.getElem?_cons_zero, List.getElem?_cons_succ, not_true_eq_false, not_false_eq_true, decide_true, decide_false, ne_eq]
    refine qbQ (P := Try.prog) (st := (bs, 4)) (k := none) (d := 0) (L := [resB Xdl true enc]) H hh rfl (.i .i64 4) rfl |> fun q => ?_
    unfold wOut at q
    rw [if_pos rfl, if_pos rfl] at q
    exact q
   ·have g2' := eq_false g2
    have hw : wput lim bs 0 enc true = (bs ++ enc, 0) := by unfold wput; rw [if_pos rfl, if_pos rfl, if_neg g2]
    rw [hw]
    have gr : ∀ id, apS Xdl id enc = rsl Xdl id enc := fun id => ZLk _ n0
    have fs := fun L k l e => Q1s (h := h) (r := Xdl) (sz := 1) rfl L k l e
    have fa := XAV H n0 n1
    have fst := st_w H
    simp only [JaG, Qv6, Zsz, qtO, quq, simprocAttr, CO.tmps, Opd.tmps, optT, Nat.reducePow, Nat.reduceDiv, Nat.reduceMod, f1, f2, ff, fl, fl2, hp, g2', w1, s1, s2, s3, s4, hsv, gr, fs, fa, fst, Zs6, Jwv, ZJ7, Jdy, zoX, List.getElem?_cons_zero, List.getElem?_cons_succ, not_true_eq_false, not_false_eq_true, decide_true, decide_false, ne_eq]
    exact qbQ (st := (bs ++ enc, 0)) (k := some 1) (d := 0) H hh ⟨Nat.zero_le _, by rw [List.length_append]; omega, rfl⟩ (.i .i64 0) rfl
 ·cases e
end Go.Proofs.Ytpoojfnmhnedpaa
end
section
namespace Go.Proofs.Ytpoojfnmhnedpaa
set_option maxRecDepth 100000
set_option maxHeartbeats 4000000
noncomputable def Xta : List AV → List AB → Option (AV × List AB)
 | [.p i 0, .i .i64 n], h => if In64 n then wPut h i (JDl n) (decide (0 ≤ n)) else none
 | _, _ => none
noncomputable def ZZw : List AV → List AB → Option (AV × List AB)
 | [.p i 0, .s l], h => if l.length ≤ 1000000 then wPut h i (JDl l.length ++ l) true else none
 | _, _ => none
noncomputable def zoe : List AV → List AB → Option (AV × List AB)
 | [.p i 0, a], h => (Zwn a).bind fun d => wPut h i d.l true
 | _, _ => none
theorem Yzq : Spec Try.prog 28 Xta := by
 intro args h v h' e
 unfold Xta at e
 split at e
 ·rename_i i n
  split at e
  ·rename_i hn
   refine FnAt.c (FnAt.run (by kernel_rfl) (T := ⟨[⟨56, XIA, fun _ => []⟩], []⟩) ⟨⟨Jgj, trivial⟩, trivial⟩ Try.func28 sw28 fun ho hh => ?_)
   have tp : XIA [.p i 0, .ifc 3 (.i .i64 n)] (h ++ []) = some (v, h') := by
    rw [List.append_nil]
    unfold XIA
    have : encV 3 (.i .i64 n) = some (JDl n, decide (0 ≤ n)) := by
     unfold encV
     rw [if_pos rfl]
     exact if_pos hn
    simp only [this, Option.bind_some]
    exact e
   unfold w28
   simp only [JaG, Qv6, Zsz, qtO, quq, simprocAttr, CO.tmps, Opd.tmps, optT, Nat.reducePow, Nat.reduceDiv, Nat.reduceMod, z5S, tp]
   exact Bt.refl _ _ _
  ·cases e
 ·cases e
theorem JE4 : Spec Try.prog 29 ZZw := by
 intro args h v h' e
 unfold ZZw at e
 split at e
 ·rename_i i l
  split at e
  ·rename_i hn
   refine FnAt.c (FnAt.run (by kernel_rfl) (T := ⟨[⟨56, XIA, fun _ => []⟩], []⟩) ⟨⟨Jgj, trivial⟩, trivial⟩ Try.func29 sw29 fun ho hh => ?_)
   have tp : XIA [.p i 0, .ifc 9 (.s l)] (h ++ []) = some (v, h') := by
    rw [List.append_nil]
    unfold XIA
    have : encV 9 (.s l) = some (JDl l.length ++ l, true) := by
     unfold encV
     rw [if_neg (by decide), if_pos rfl]
     exact if_pos hn
    simp only [this, Option.bind_some]
    exact e
   unfold w29
   simp only [JaG, Qv6, Zsz, qtO, quq, simprocAttr, CO.tmps, Opd.tmps, optT, Nat.reducePow, Nat.reduceDiv, Nat.reduceMod, z5S, tp]
   exact Bt.refl _ _ _
  ·cases e
 ·cases e
theorem Xbd : Spec Try.prog 35 zoe := by
 intro args h v h' e
 unfold zoe at e
 split at e
 ·rename_i i a
  obtain ⟨d, hd, e2⟩ := Option.bind_eq_some_iff.1 e
  clear e
  obtain rfl := zTt hd
  unfold wPut at e2
  obtain ⟨j, lim, s, bs, er, H, e3⟩ := Yf0 e2
  clear e2
  cases e3
  refine FnAt.c (FnAt.run (by kernel_rfl) (T := ⟨[⟨56, XIA, fun _ => []⟩], []⟩) ⟨⟨Jgj, trivial⟩, trivial⟩ Try.func35 sw35 fun ho hh => ?_)
  have ev : encV 23 (.ag (idR.f d)) = some (d.l, true) := by
   unfold encV
   rw [if_neg (by decide), if_neg (by decide), if_pos rfl, XiO]
   rfl
  obtain ⟨k, R, q1, q2, q3⟩ := ZNh (D := []) (R := [.blk true true (idR.f d)]) H (st := (bs, er)) (k := none) rfl H.hlen d.l true
  rw [wX_0 H] at q1
  have tp : XIA [.p i 0, .ifc 23 (.ag (idR.f d))] (h ++ [.blk true true (idR.f d)]) = some (.i .i64 (wput lim bs er d.l true).2, wX h i j lim s (wput lim bs er d.l true) k ++ R) := by
   unfold XIA
   simp only [ev, Option.bind_some]
   exact q1
  obtain ⟨b1, b2, b3, b4, b5⟩ := qUC d.h
  rw [show d.l.map u8A = idR.f d from rfl] at *
  unfold w35
  simp only [JaG, Qv6, Zsz, qtO, quq, simprocAttr, CO.tmps, Opd.tmps, optT, Nat.reducePow, Nat.reduceDiv, Nat.reduceMod, z5S, b1, b2, b3, tp]
  exact qbQ H hh q2 _ rfl
 ·cases e
end Go.Proofs.Ytpoojfnmhnedpaa
end
section
namespace Go.Proofs.Ytpoojfnmhnedpaa
set_option maxRecDepth 100000
set_option maxHeartbeats 4000000
open Classical in
noncomputable def YrV (a : AV) : Option Dsc := if e : ∃ y, a = .ag (deR.f y) then some e.choose else none
theorem KFx (y : Dsc) : YrV (.ag (deR.f y)) = some y := by
 unfold YrV
 have hx : ∃ z, AV.ag (deR.f y) = .ag (deR.f z) := ⟨y, rfl⟩
 rw [dif_pos hx]
 have := hx.choose_spec
 injection this with h
 rw [deR.inj _ _ h.symm]
theorem qAX {a : AV} {y : Dsc} (e : YrV a = some y) : a = .ag (deR.f y) := by
 unfold YrV at e
 split at e
 ·rename_i h
  cases e
  exact h.choose_spec
 ·cases e
def DB (d : Dsc) : Prop := In64 d.media ∧ In64 d.size ∧ d.plat.length ≤ 1000000
theorem Qzw (n : Int) : FOk fun lim st => wN lim st n := ⟨fun lim st h => ZYd _ _ _ _ _ h, fun lim st => Y28 _ _ _ _⟩
theorem QV9 (t : List UInt8) : FOk fun lim st => wT lim st t := ⟨fun lim st h => ZYd _ _ _ _ _ h, fun lim st => Y28 _ _ _ _⟩
theorem Q25 (t : List UInt8) : FOk fun lim st => wI lim st t := ⟨fun lim st h => ZYd _ _ _ _ _ h, fun lim st => Y28 _ _ _ _⟩
theorem FOk.seq {f g : Int → List UInt8 × Int → List UInt8 × Int} (F : FOk f) (G : FOk g) : FOk fun lim st => g lim (f lim st) := ⟨fun lim st h => G.le _ _ (F.le _ _ h), fun lim st => by
 rcases F.grow lim st with q | q <;> rcases G.grow lim (f lim st) with q' | q'
 ·exact .inl (q'.trans q)
 ·exact .inr (by rw [← q]; exact q')
 ·exact .inr (by rw [q']; exact q)
 ·exact .inr (by omega)⟩
theorem Qm3 (d : De) : FOk fun lim st => wD lim st d := (((Qzw _).seq (Q25 _)).seq (Qzw _)).seq (QV9 _)
theorem ZsA : FOk fun _ st => st := ⟨fun _ _ h => h, fun _ _ => .inl rfl⟩
theorem XEw (m : Man) : FOk fun lim st => wC lim st m := by
 unfold wC
 by_cases h : m.kind = 3
 ·simp only [if_pos h]
  exact Qm3 _
 ·simp only [if_neg h]
  exact ZsA
theorem zU2 : ∀ l : List De, FOk fun lim st => wDs lim st l
 | [] => ZsA
 | d :: l => (Qm3 d).seq (zU2 l)
theorem YUc (l : List De) : FOk fun lim st => wR lim st l := (Qzw _).seq (zU2 l)
section
variable {h : List AB} {i j : Nat} {lim : Int} {s : AV} {bs : List UInt8} {e : Int}
theorem QVV (H : WrH h i j lim s bs e) {m : Nat} {xs : List AV} (h1 : Za2 h m = some xs) (h2 : xs.length ≠ 3) (h3 : xs.length ≠ 2) (h4 : ∃ (k : Nat) (c : AV), xs[k]? = some c ∧ ∀ b, c ≠ u8A b) : m ≠ i ∧ m ≠ j ∧ m ∉ idOf s := by
 refine ⟨?_, ?_, ?_⟩
 ·rintro rfl
  rw [rd_i H] at h1
  cases h1
  exact h2 rfl
 ·rintro rfl
  rw [rd_j H] at h1
  cases h1
  exact h3 rfl
 ·intro hm
  rcases H.hs with ⟨q1, q2⟩ | ⟨q, q1, q2, q3⟩
  ·rw [q1] at hm
   simp [idOf] at hm
  ·obtain ⟨p1, p2, p3, p4⟩ := H.q q1 q2
   rw [q1, YKY _ q2] at hm
   simp only [idOf, List.mem_singleton] at hm
   subst hm
   unfold Za2 at h1
   rw [p1] at h1
   cases h1
   obtain ⟨k, c, hc, hn⟩ := h4
   rw [Yq4, List.getElem?_map] at hc
   cases hb : bs[k]? with
   | none => rw [hb] at hc; cases hc
   | some b =>
    rw [hb] at hc
    cases hc
    exact hn b rfl
theorem QTh (st : List UInt8 × Int) (k : Option Nat) (L : List AB) {m : Nat} {xs : List AV} (h1 : Za2 h m = some xs) (hk : m ≠ i ∧ m ≠ j ∧ m ∉ idOf s) : Za2 (wX h i j lim s st k ++ L) m = some xs := by
 have hlt : m < h.length := by
  unfold Za2 at h1
  split at h1
  ·rename_i hB
   exact (List.getElem?_eq_some_iff.1 hB).1
  ·cases h1
 unfold Za2 at h1 ⊢
 rw [List.getElem?_append_left (by rw [Yf1]; exact hlt), Q7n st k hk.1 hk.2.1 hk.2.2]
 exact h1
theorem XGA (st : List UInt8 × Int) (k : Option Nat) (L : List AB) {α : Type} {r : Row α} {t : AV} {l : List α} (h1 : Rd r h t l) (hk : ∀ m ∈ idOf t, l.length ≠ 0 → m ≠ i ∧ m ≠ j ∧ m ∉ idOf s) : Rd r (wX h i j lim s st k ++ L) t l := by
 by_cases h0 : l.length = 0
 ·refine ⟨?_, h1.2⟩
  have e1 := h1.1
  have hl := h1.len
  cases t <;> first | exact e1 | skip
  simp only [lenV, Option.some.injEq] at hl
  rename_i len cap k'
  obtain rfl : len = 0 := by omega
  simp only [rdS, if_true] at e1 ⊢
  exact e1
 ·obtain ⟨id, off, cap, k', xs, rfl, e1, e2, e3⟩ := h1.blk 0 (by omega)
  exact Rd.mk_sl (QTh st k L e1 (hk id (by simp [idOf]) h0)) rfl e2 e3 h1.2
end
theorem XcW (d : Dsc) : (deR.f d)[0]? = some (.i .i64 d.media) ∧ (deR.f d)[33]? = some (.i .i64 d.size) ∧ (deR.f d)[34]? = some (.s d.plat) ∧ ((deR.f d).drop 1).take 32 = idR.f d.id := by
 have h : (idR.f d.id).length = 32 := idR.len _
 rw [XmT]
 refine ⟨rfl, ?_, ?_, ?_⟩
 ·rw [List.getElem?_cons_succ, List.getElem?_append_right (by omega), h]
  rfl
 ·rw [List.getElem?_cons_succ, List.getElem?_append_right (by omega), h]
  rfl
 ·show (idR.f d.id ++ _).take 32 = _
  exact List.take_left' h
noncomputable def T_E2 : List AV → List AB → Option (AV × List AB)
 | [a, .p wb 0], h => match Za2 h wb with
  | some [.p i 0] => (YrV a).bind fun d => open Classical in if DB d then wSeq (fun lim st => wD lim st d.de) h i else none
  | _ => none
 | _, _ => none
theorem QZu : Spec Try.prog 34 T_E2 := by
 intro args h v h' e
 unfold T_E2 at e
 split at e
 ·rename_i a wb
  split at e
  ·rename_i i hwb
   obtain ⟨d, hd, e2⟩ := Option.bind_eq_some_iff.1 e
   clear e
   obtain rfl := qAX hd
   split at e2
   ·rename_i hdb
    unfold wSeq at e2
    obtain ⟨j, lim, s, bs, er, H, e3⟩ := Yf0 e2
    clear e2
    cases e3
    dsimp only
    refine FnAt.c (FnAt.run (by kernel_rfl) (T := ⟨[⟨28, Xta, fun _ => []⟩, ⟨35, zoe, fun _ => []⟩, ⟨29, ZZw, fun _ => []⟩], []⟩) ⟨⟨Yzq, Xbd, JE4, trivial⟩, trivial⟩ Try.func34 sw34 fun ho hh => ?_)
    obtain ⟨b1, b2, b3, b4, b5⟩ := Yeu d
    have kp := QVV H hwb (by simp) (by simp) ⟨0, _, rfl, fun b => by unfold u8A; simp⟩
    have rw1 := fun st k L => QTh (lim := lim) (s := s) st k L hwb kp
    obtain ⟨k1, R1, q1, I1, l1⟩ := ZNh (D := [.blk true true (deR.f d)]) (R := []) H (st := (bs, er)) (k := none) rfl H.hlen (JDl d.media) (decide (0 ≤ d.media))
    obtain ⟨k2, R2, q2, I2, l2⟩ := ZNh H I1 l1 d.id.l true
    obtain ⟨k3, R3, q3, I3, l3⟩ := ZNh H I2 l2 (JDl d.size) (decide (0 ≤ d.size))
    obtain ⟨k4, R4, q4, I4, l4⟩ := ZNh H I3 l3 (JDl d.plat.length ++ d.plat) true
    rw [wX_0 H] at q1
    dsimp only [List.singleton_append] at q1 q2 q3 q4
    have f1 := Yx2 hwb
    have d1 := eq_true hdb.1
    have d2 := eq_true hdb.2.1
    have d3 := eq_true hdb.2.2
    unfold w34
    obtain ⟨c1, c2, c3, c4⟩ := XcW d
    have gid := XiO d.id
    have wl := fun st k => Yf1 (h := h) (i := i) (j := j) (lim := lim) (s := s) st k
    have rw2 : ∀ st k L, ldV (wX h i j lim s st k ++ L) none (.p wb 0) = some (.p i 0) := fun st k L => by
     simp only [ldV, rw1 st k L]
     rfl
    simp only [JaG, Qv6, Zsz, qtO, quq, simprocAttr, CO.tmps, Opd.tmps, optT, Nat.reducePow, Nat.reduceDiv, Nat.reduceMod, QjP, Yzo, wl, f1, b1, b3, c1, c2, c3, c4, gid, rw2, d1, d2, d3, q1, q2, q3, q4, Xta, zoe, ZZw]
    exact qbQ H hh I4 _ rfl
   ·cases e2
  ·cases e
 ·cases e
end Go.Proofs.Ytpoojfnmhnedpaa
end
