/- Part 20 of what the laws' proofs rest on. No condition. -/
import Derived.Test.YtpoojfnmhnedpaaMe19
set_option linter.all false
section
namespace Go.Proofs.Ytpoojfnmhnedpaa
set_option maxRecDepth 100000
set_option maxHeartbeats 4000000
def wB (p : Nat) (st : List UInt8 × Int) (k : Option Nat) : AB := blkV 4096 (match k with
 | none => .ns
 | some k => apS XQp (p + k) st.1) st.2
section
variable {h : List AB} {box : AB} {st : List UInt8 × Int} {k : Option Nat} {R : List AB}
theorem zw1 (h : List AB) (box : AB) (st : List UInt8 × Int) (k : Option Nat) : vX (h ++ [box, blkV 4096 .ns 0]) (h.length + 1) 4096 .ns st k = h ++ [box, wB (h.length + 2) st k] := by
 cases k with
 | none =>
  simp only [vX]
  rw [YFW]
  rfl
 | some k =>
  simp only [vX, YlR]
  rw [YFW, List.length_append]
  rfl
theorem zhH (h : List AB) (box : AB) : VrH (h ++ [box, blkV 4096 .ns 0]) (h.length + 1) 4096 .ns [] 0 := ⟨by rw [zSD]; rfl, by decide, by decide, .inl ⟨rfl, rfl⟩⟩
theorem X13 (I : WInv 0 [] st R k) (hl : (st.1.length : Int) ≤ 4096) (enc : List UInt8) (ok : Bool) : ∃ k' R', vPut (h ++ (box :: wB (h.length + 2) st k :: R)) (h.length + 1) enc ok = some (.i .i64 (wput 4096 st.1 st.2 enc ok).2, h ++ (box :: wB (h.length + 2) (wput 4096 st.1 st.2 enc ok) k' :: R')) ∧ WInv 0 [] (wput 4096 st.1 st.2 enc ok) R' k' ∧ ((wput 4096 st.1 st.2 enc ok).1.length : Int) ≤ 4096 := by
 obtain ⟨k', R', q1, q2, q3⟩ := Qh2 (D := []) (zhH h box) I hl enc ok
 rw [zw1, zw1, List.append_assoc, List.append_assoc] at q1
 exact ⟨k', R', q1, q2, q3⟩
theorem ZBX {f : Int → List UInt8 × Int → List UInt8 × Int} (F : FOk f) (I : WInv 0 [] st R k) (hl : (st.1.length : Int) ≤ 4096) : ∃ k' R', vSeq f (h ++ (box :: wB (h.length + 2) st k :: R)) (h.length + 1) = some (.tu [], h ++ (box :: wB (h.length + 2) (f 4096 st) k' :: R')) ∧ WInv 0 [] (f 4096 st) R' k' ∧ ((f 4096 st).1.length : Int) ≤ 4096 := by
 obtain ⟨k', R', q1, q2, q3⟩ := ZDR (D := []) (zhH h box) F I hl
 rw [zw1, zw1, List.append_assoc, List.append_assoc] at q1
 exact ⟨k', R', q1, q2, q3⟩
theorem qbe (I : WInv 0 [] st R k) (hl : (st.1.length : Int) ≤ 4096) : Y9i [.p (h.length + 1) 0] (h ++ (box :: wB (h.length + 2) st k :: R)) = some (.tu [rsl XQp (h.length + (2 + R.length)) (Xc0 st.2 st.1), .i .i64 st.2], h ++ (box :: wB (h.length + 2) st k :: (R ++ [resB XQp true (Xc0 st.2 st.1)]))) := by
 have := (J4Z (L := R) (zhH h box) I hl).get
 rw [zw1, List.append_assoc] at this
 have e : ∀ H, Y9i [.p (h.length + 1) 0] H = (vrM H (h.length + 1)).bind fun x => some (.tu [rsl XQp H.length (Xc0 x.2.2.2 x.2.2.1), .i .i64 x.2.2.2], H ++ [resB XQp true (Xc0 x.2.2.2 x.2.2.1)]) := fun H => rfl
 rw [e, show h ++ (box :: wB (h.length + 2) st k :: R) = h ++ ([box, wB (h.length + 2) st k] ++ R) from rfl, this, Option.bind_some]
 dsimp only
 rw [List.length_append, List.append_assoc, List.length_append, List.append_assoc]
 rfl
theorem YKk {P : Program} {L : List AB} {l : List UInt8} {e : Int} (k : Nat) (hh : HOk h) (hb : L[k]? = some (resB XQp true l)) : Bt P h.length [.tu [rsl XQp (h.length + k) l, .i .i64 e]] (h ++ L) [.tu [rsl XQp h.length l, .i .i64 e]] (h ++ [resB XQp true l]) :=
 Bt.sel [k] hh (by simp) ⟨⟨_, hb, of_eq_true (Ygp _ _ _ _)⟩, trivial⟩ ⟨.inr ⟨by rw [zEo, Z3W, XPo _ _ _ (decide_eq_true (by simp))]; rfl, by simp only [AV.ren, renL, zsP]; rw [show selN h.length [k] h.length = h.length + k from Qbt 0]; exact Wk.refl _⟩, trivial⟩
end
theorem ZZo {m : Man} (h : Jjp m ≠ 0) : menc m = ([], Jjp m) := by
 unfold Jjp at h ⊢
 unfold menc
 by_cases g1 : zHI m = true
 ·rw [if_pos g1] at h ⊢
  rw [if_pos g1]
  by_cases g2 : (allD m).any negD = true
  ·rw [if_pos g2] at h ⊢
   rw [if_pos g2]
  ·rw [if_neg g2] at h ⊢
   rw [if_neg g2]
   by_cases g3 : 16 < m.layers.length ∨ 8 < m.subs.length
   ·rw [if_pos g3] at h ⊢
    rw [if_pos g3]
   ·rw [if_neg g3] at h
    exact absurd rfl h
 ·rw [if_neg g1] at h ⊢
  rw [if_neg g1]
theorem Jl8 {m : Man} (h : Jjp m = 0) : zHI m = true ∧ menc m = (Xc0 (seqR 4096 ([], 0) m 5).2 (seqR 4096 ([], 0) m 5).1, (seqR 4096 ([], 0) m 5).2) := by
 unfold Jjp at h
 unfold menc
 by_cases g1 : zHI m = true
 ·rw [if_pos g1] at h ⊢
  refine ⟨g1, ?_⟩
  by_cases g2 : (allD m).any negD = true
  ·rw [if_pos g2] at h
   exact absurd h (by decide)
  ·rw [if_neg g2] at h ⊢
   by_cases g3 : 16 < m.layers.length ∨ 8 < m.subs.length
   ·rw [if_pos g3] at h
    exact absurd h (by decide)
   ·rw [if_neg g3]
 ·rw [if_neg g1] at h
  exact absurd h (by decide)
theorem zLj : Spec Try.prog 12 YpP := by
 intro args h v h' e
 unfold YpP at e
 split at e
 ·rename_i a
  obtain ⟨k, t, c, l, s, ls, ss, rfl, hl, hs, e1⟩ := QNw e
  clear e
  dsimp only at e1
  split at e1
  ·rename_i B
   cases e1
   obtain ⟨Bk, Bt0, Bc, Bn, Bd⟩ := B
   refine FnAt.c (FnAt.run (by kernel_rfl) (T := ⟨[⟨43, qji, fun _ => []⟩, ⟨44, QAj, fun _ => []⟩, ⟨45, QJY, fun _ => []⟩, ⟨46, JxU, fun _ => []⟩, ⟨47, QtB, fun _ => []⟩, ⟨48, Y9i, fun _ => []⟩], []⟩) ⟨⟨X7e, Jfc, zDi, qT9, zQi, ZC7, trivial⟩, trivial⟩ Try.func12 sw12 fun ho hh => ?_)
   obtain ⟨c1, c2, c3, c4⟩ := qoS c l s
   have ca := YfG c hl.isSl hs.isSl
   simp only [Z3W, Kt4, YwG, q43, Bool.and_eq_true, Bool.and_true] at ho
   obtain ⟨-, -, -, ol, os⟩ := ho
   have fl := hl.fx ol (sz := 35) rfl
   have fs := hs.fx os (sz := 35) rfl
   have im : ∀ L, inM (h ++ L) (.ag (.i .i64 k :: .s t :: (deR.f c ++ [l, s]))) = some (k, t, c, l, s, ls, ss) := fun L => Xi3 (hl.app L).get (hs.app L).get
   have tm : ((deR.f c ++ [l, s]).take 37) = deR.f c ++ [l, s] := List.take_of_length_le (by omega)
   have n1 : (ls.length + ss.length ≤ 100000) = True := eq_true (by omega)
   obtain ⟨m, hm⟩ : ∃ m, m = ZVh k t c ls ss := ⟨_, rfl⟩
   rw [← hm]
   unfold w12
   by_cases g1 : Jjp m = 0
   case neg =>
    have g1' := eq_false g1
    rw [ZZo g1]
    simp only [Qfy, Q7I, qe2, qur, X6x, simprocAttr, CO.tmps, Opd.tmps, optT, Nat.reducePow, Nat.reduceDiv, Nat.reduceMod, c1, ca, tm, im, n1, ← hm, g1', qji, ne_eq, not_false_eq_true, decide_true]
    exact YFw hh _ _
   have g1' := eq_true g1
   obtain ⟨hk, hr⟩ := Jl8 g1
   rw [hr]
   obtain ⟨box, hbox⟩ : ∃ box, box = AB.blk false true (.i .i64 k :: .s t :: (deR.f c ++ [l, s])) := ⟨_, rfl⟩
   have d1 := eq_true Bk
   have d2 := eq_true Bt0
   have d3 := eq_true Bc
   have i77 : In64 77 = True := eq_true (by unfold In64; omega)
   have z77 : ((0 : Int) ≤ 77) = True := eq_true (by decide)
   have gde := J1R c
   obtain ⟨k1, R1, q1, I1, y1⟩ := X13 (h := h) (box := box) (st := ([], 0)) (k := none) (R := []) rfl (by decide) (Jmv 77) true
   obtain ⟨st1, e1⟩ : ∃ st1, st1 = wN 4096 ([], 0) 77 := ⟨_, rfl⟩
   rw [show wput 4096 (([], 0) : List UInt8 × Int).1 (([], 0) : List UInt8 × Int).2 (Jmv 77) true = st1 from e1.symm] at q1 I1 y1
   obtain ⟨k2, R2, q2, I2, y2⟩ := X13 (h := h) (box := box) I1 y1 (Jmv k) (decide (0 ≤ k))
   obtain ⟨st2, e2⟩ : ∃ st2, st2 = wN 4096 st1 k := ⟨_, rfl⟩
   rw [show wput 4096 st1.1 st1.2 (Jmv k) (decide (0 ≤ k)) = st2 from e2.symm] at q2 I2 y2
   obtain ⟨k3, R3, q3, I3, y3⟩ := X13 (h := h) (box := box) I2 y2 (Jmv t.length ++ t) true
   obtain ⟨st3, e3⟩ : ∃ st3, st3 = wT 4096 st2 t := ⟨_, rfl⟩
   rw [show wput 4096 st2.1 st2.2 (Jmv t.length ++ t) true = st3 from e3.symm] at q3 I3 y3
   rw [show h ++ (box :: wB (h.length + 2) ([], 0) none :: []) = h ++ [box, blkV 4096 .ns 0] from rfl] at q1
   have hk34 : (k = 3 ∧ ss = []) ∨ (k = 4 ∧ k ≠ 3 ∧ ls = []) := by
    rw [hm] at hk
    unfold zHI ZVh at hk
    dsimp only at hk
    by_cases g3 : k = 3
    ·rw [if_pos g3, List.length_map] at hk
     exact .inl ⟨g3, List.eq_nil_of_length_eq_zero (of_decide_eq_true hk)⟩
    ·rw [if_neg g3] at hk
     by_cases g4 : k = 4
     ·rw [if_pos g4, Bool.and_eq_true, List.length_map] at hk
      exact .inr ⟨g4, g3, List.eq_nil_of_length_eq_zero (of_decide_eq_true hk.1)⟩
     ·rw [if_neg g4] at hk
      cases hk
   rw [hbox] at q1 q2 q3
   rcases hk34 with ⟨hk3, hnil⟩ | ⟨hk4, hk3, hnil⟩
   ·have g3' : (k = 3) = True := eq_true hk3
    obtain ⟨k4, R4, q4, I4, y4⟩ := ZBX (h := h) (box := box) (YjD c.de) I3 y3
    obtain ⟨st4, e4⟩ : ∃ st4, st4 = wD 4096 st3 c.de := ⟨_, rfl⟩
    rw [← e4] at q4 I4 y4
    obtain ⟨kn, Rn, qn, In, yn⟩ := X13 (h := h) (box := box) I4 y4 (Jmv (ls.length : Int)) (decide ((0 : Int) ≤ (ls.length : Int)))
    have dn : In64 (ls.length : Int) = True := eq_true (by unfold In64; omega)
    obtain ⟨st5, hst5⟩ : ∃ st5, st5 = wN 4096 st4 (ls.length : Int) := ⟨_, rfl⟩
    have hseq : seqR 4096 ([], 0) m 5 = wDs 4096 st5 (ls.map Dsc.de) := by
     rw [hm, hst5, e4, e3, e2, e1]
     show wR 4096 (wC 4096 (wT 4096 (wN 4096 (wN 4096 ([], 0) 77) k) t) (ZVh k t c ls ss)) (ls.map Dsc.de ++ ss.map Dsc.de) = _
     rw [hnil]
     unfold wC wR
     rw [if_pos (show (ZVh k t c ls []).kind = 3 from hk3), List.map_nil, List.append_nil, List.length_map]
     all_goals rfl
    rw [hseq]
    rw [show wput 4096 st4.1 st4.2 (Jmv (ls.length : Int)) (decide ((0 : Int) ≤ (ls.length : Int))) = st5 from hst5.symm] at qn In yn
    rw [show decide ((0 : Int) ≤ (ls.length : Int)) = true from decide_eq_true (by omega)] at qn
    rw [hbox] at q4
    rw [hbox] at qn
    simp only [Qfy, Q7I, qe2, qur, X6x, simprocAttr, CO.tmps, Opd.tmps, optT, Nat.reducePow, Nat.reduceDiv, Nat.reduceMod, c1, c2, c3, c4, ca, tm, im, fl, fs, n1, ← hm, g1', d1, d2, d3, i77, q1, q2, q3, qji, QAj, QJY, JxU, QtB, gde, ne_eq, not_true_eq_false, decide_false, g3', q4, qn, dn, List.getElem?_cons_zero]
    refine QSO (S := Nat × Option Nat × List AB) (fun x => ls.length - x.1) (fun x => tp 5 ++ [.p (h.length + 1) 0] ++ tp 1 ++ [l, .i .i64 (x.1 : Nat)] ++ tp 50) (fun x => h ++ (AB.blk false true (.i .i64 k :: .s t :: (deR.f c ++ [l, s])) :: wB (h.length + 2) (wDs 4096 st5 ((ls.map Dsc.de).take x.1)) x.2.1 :: x.2.2)) (fun x => x.1 ≤ ls.length ∧ WInv 0 [] (wDs 4096 st5 ((ls.map Dsc.de).take x.1)) x.2.2 x.2.1 ∧ ((wDs 4096 st5 ((ls.map Dsc.de).take x.1)).1.length : Int) ≤ 4096) (0, kn, Rn) ⟨Nat.zero_le _, In, yn⟩ (Bt.wk (by simp only [qe2, X6x, simprocAttr])) fun x hx => ?_
    obtain ⟨n, kk, RR⟩ := x
    obtain ⟨hx1, hx2, hx3⟩ := hx
    dsimp only at hx1 hx2 hx3 ⊢
    by_cases gn : n < ls.length
    ·have gn' : ((n : Int) < (ls.length : Int)) = True := eq_true (by omega)
     have gn2 : ((0 : Int) ≤ (n : Int) ∧ (n : Int) < (ls.length : Int)) = True := eq_true (by omega)
     have gn3 := eq_true gn
     have w1 : IntKind.i64.wrap ((n : Int) + 1) = ((n + 1 : Nat) : Int) := zdT (by unfold In64; omega)
     have hmem : ls.getD n deR.d ∈ ls := by rw [List.getD_eq_getElem?_getD, List.getElem?_eq_getElem gn]; exact List.getElem_mem gn
     have hdb := eq_true (Bd (ls.getD n deR.d) (List.mem_append_left _ hmem))
     have ge := J1R (ls.getD n deR.d)
     have hat : (ls.map Dsc.de)[n]? = some (ls.getD n deR.d).de := by rw [List.getElem?_map, List.getD_eq_getElem?_getD, List.getElem?_eq_getElem gn]; rfl
     have hst := XVY 4096 st5 (ls.map Dsc.de) hat
     obtain ⟨k', R', q, I', y'⟩ := ZBX (h := h) (box := box) (YjD (ls.getD n deR.d).de) hx2 hx3
     rw [hbox] at q
     simp only [qe2, qur, X6x, simprocAttr, CO.tmps, Opd.tmps, optT, Nat.reducePow, Nat.reduceDiv, Nat.reduceMod, fl, gn', gn2, gn3, w1, hdb, ge, q, QtB]
     exact ⟨(n + 1, k', R'), ⟨gn, by dsimp only; rw [hst]; exact I', by dsimp only; rw [hst]; exact y'⟩, by dsimp only; omega, by dsimp only; rw [hst]; exact Bt.wk (by simp only [qe2, X6x, simprocAttr])⟩
    ·have gn' : ((n : Int) < (ls.length : Int)) = False := eq_false (by omega)
     obtain rfl : n = ls.length := by omega
     rw [List.take_of_length_le (by rw [List.length_map]; exact Nat.le_refl _)] at hx2 hx3 ⊢
     have dn2 := qbe (h := h) (box := box) hx2 hx3
     rw [hbox] at dn2
     simp only [qe2, qur, X6x, simprocAttr, CO.tmps, Opd.tmps, optT, Nat.reducePow, Nat.reduceDiv, Nat.reduceMod, fl, gn', dn2]
     exact YKk (2 + RR.length) hh (by
      rw [show 2 + RR.length = RR.length + 1 + 1 by omega, List.getElem?_cons_succ, List.getElem?_cons_succ, List.getElem?_append_right (Nat.le_refl _), Nat.sub_self]
      rfl)
   ·have g3' : (k = 3) = False := eq_false hk3
    obtain ⟨kn, Rn, qn, In, yn⟩ := X13 (h := h) (box := box) I3 y3 (Jmv (ss.length : Int)) (decide ((0 : Int) ≤ (ss.length : Int)))
    have dn : In64 (ss.length : Int) = True := eq_true (by unfold In64; omega)
    obtain ⟨st5, hst5⟩ : ∃ st5, st5 = wN 4096 st3 (ss.length : Int) := ⟨_, rfl⟩
    have hseq : seqR 4096 ([], 0) m 5 = wDs 4096 st5 (ss.map Dsc.de) := by
     rw [hm, hst5, e3, e2, e1]
     show wR 4096 (wC 4096 (wT 4096 (wN 4096 (wN 4096 ([], 0) 77) k) t) (ZVh k t c ls ss)) (ls.map Dsc.de ++ ss.map Dsc.de) = _
     rw [hnil]
     unfold wC wR
     rw [if_neg (show ¬ (ZVh k t c [] ss).kind = 3 from hk3), List.map_nil, List.nil_append, List.length_map]
     all_goals rfl
    rw [hseq]
    rw [show wput 4096 st3.1 st3.2 (Jmv (ss.length : Int)) (decide ((0 : Int) ≤ (ss.length : Int))) = st5 from hst5.symm] at qn In yn
    rw [show decide ((0 : Int) ≤ (ss.length : Int)) = true from decide_eq_true (by omega)] at qn
    rw [hbox] at qn
    simp only [Qfy, Q7I, qe2, qur, X6x, simprocAttr, CO.tmps, Opd.tmps, optT, Nat.reducePow, Nat.reduceDiv, Nat.reduceMod, c1, c2, c3, c4, ca, tm, im, fl, fs, n1, ← hm, g1', d1, d2, d3, i77, q1, q2, q3, qji, QAj, QJY, JxU, QtB, gde, ne_eq, not_true_eq_false, decide_false, g3', qn, dn, List.getElem?_cons_zero]
    refine QSO (S := Nat × Option Nat × List AB) (fun x => ss.length - x.1) (fun x => tp 5 ++ [.p (h.length + 1) 0] ++ tp 1 ++ [s, .i .i64 (x.1 : Nat)] ++ tp 50) (fun x => h ++ (AB.blk false true (.i .i64 k :: .s t :: (deR.f c ++ [l, s])) :: wB (h.length + 2) (wDs 4096 st5 ((ss.map Dsc.de).take x.1)) x.2.1 :: x.2.2)) (fun x => x.1 ≤ ss.length ∧ WInv 0 [] (wDs 4096 st5 ((ss.map Dsc.de).take x.1)) x.2.2 x.2.1 ∧ ((wDs 4096 st5 ((ss.map Dsc.de).take x.1)).1.length : Int) ≤ 4096) (0, kn, Rn) ⟨Nat.zero_le _, In, yn⟩ (Bt.wk (by simp only [qe2, X6x, simprocAttr])) fun x hx => ?_
    obtain ⟨n, kk, RR⟩ := x
    obtain ⟨hx1, hx2, hx3⟩ := hx
    dsimp only at hx1 hx2 hx3 ⊢
    by_cases gn : n < ss.length
    ·have gn' : ((n : Int) < (ss.length : Int)) = True := eq_true (by omega)
     have gn2 : ((0 : Int) ≤ (n : Int) ∧ (n : Int) < (ss.length : Int)) = True := eq_true (by omega)
     have gn3 := eq_true gn
     have w1 : IntKind.i64.wrap ((n : Int) + 1) = ((n + 1 : Nat) : Int) := zdT (by unfold In64; omega)
     have hmem : ss.getD n deR.d ∈ ss := by rw [List.getD_eq_getElem?_getD, List.getElem?_eq_getElem gn]; exact List.getElem_mem gn
     have hdb := eq_true (Bd (ss.getD n deR.d) (List.mem_append_right _ hmem))
     have ge := J1R (ss.getD n deR.d)
     have hat : (ss.map Dsc.de)[n]? = some (ss.getD n deR.d).de := by rw [List.getElem?_map, List.getD_eq_getElem?_getD, List.getElem?_eq_getElem gn]; rfl
     have hst := XVY 4096 st5 (ss.map Dsc.de) hat
     obtain ⟨k', R', q, I', y'⟩ := ZBX (h := h) (box := box) (YjD (ss.getD n deR.d).de) hx2 hx3
     rw [hbox] at q
     simp only [qe2, qur, X6x, simprocAttr, CO.tmps, Opd.tmps, optT, Nat.reducePow, Nat.reduceDiv, Nat.reduceMod, fs, gn', gn2, gn3, w1, hdb, ge, q, QtB]
     exact ⟨(n + 1, k', R'), ⟨gn, by dsimp only; rw [hst]; exact I', by dsimp only; rw [hst]; exact y'⟩, by dsimp only; omega, by dsimp only; rw [hst]; exact Bt.wk (by simp only [qe2, X6x, simprocAttr])⟩
    ·have gn' : ((n : Int) < (ss.length : Int)) = False := eq_false (by omega)
     obtain rfl : n = ss.length := by omega
     rw [List.take_of_length_le (by rw [List.length_map]; exact Nat.le_refl _)] at hx2 hx3 ⊢
     have dn2 := qbe (h := h) (box := box) hx2 hx3
     rw [hbox] at dn2
     simp only [qe2, qur, X6x, simprocAttr, CO.tmps, Opd.tmps, optT, Nat.reducePow, Nat.reduceDiv, Nat.reduceMod, fs, gn', dn2]
     exact YKk (2 + RR.length) hh (by
      rw [show 2 + RR.length = RR.length + 1 + 1 by omega, List.getElem?_cons_succ, List.getElem?_cons_succ, List.getElem?_append_right (Nat.le_refl _), Nat.sub_self]
      rfl)
  ·cases e1
 ·cases e
end Go.Proofs.Ytpoojfnmhnedpaa
end
section
namespace Go.Proofs.Ytpoojfnmhnedpaa
set_option maxRecDepth 100000
set_option maxHeartbeats 4000000
theorem KhF {P : Program} {h : List AB} (hh : HOk h) {L : List AB} {a b : Nat} (ha : a < L.length) (hb : b < L.length) (hab : a ≠ b) {ls ss : List Dsc} (la : ls = [] ∨ L[a]? = some (resB deR true ls)) (lb : ss = [] ∨ L[b]? = some (resB deR true ss)) {l' s' : AV} (wl : Wk (rsl deR (h.length + a) ls) l') (ws : Wk (rsl deR (h.length + b) ss) s') (C : List AV) (hC : ∀ c ∈ C, c.fl = true) :
  Bt P h.length [.ag (C ++ [l', s'])] (h ++ L) [.ag (C ++ [rsl deR h.length ls, rsl deR (h.length + 1) ss])] (h ++ [resB deR true ls, resB deR true ss]) := by
 refine Bt.trans (Bt.wk1 (Wk.ag (l' := C ++ [rsl deR (h.length + a) ls, rsl deR (h.length + b) ss]) (WkL.app C ⟨wl, ws, trivial⟩))) ?_
 have bw : ∀ (k : Nat) (m : List Dsc), k < L.length → (m = [] ∨ L[k]? = some (resB deR true m)) → ∃ B, L[k]? = some B ∧ BWk (fun i => decide (i < h.length + [a, b].length)) (selN h.length [a, b]) (resB deR true m) B := fun k m hk hm => by
  rcases hm with rfl | hm
  ·exact ⟨L[k], List.getElem?_eq_getElem hk, trivial⟩
  ·exact ⟨_, hm, of_eq_true (Ygp _ _ _ _)⟩
 obtain ⟨s0, s1⟩ := XDQ h.length a b
 refine Bt.sel [a, b] hh (by simp [hab]) ⟨bw a ls ha la, bw b ss hb lb, trivial⟩ ⟨.inr ⟨?_, ?_⟩, trivial⟩
 ·simp only [Z3W, YwG, q43, Zmo _ C hC, Kt4, Bool.true_and, Bool.and_true, Bool.and_eq_true]
  exact ⟨XPo _ _ _ (by simp), XPo _ _ _ (by simp)⟩
 ·have e : (AV.ag (C ++ [rsl deR h.length ls, rsl deR (h.length + 1) ss])).ren (selN h.length [a, b]) = .ag (C ++ [rsl deR (h.length + a) ls, rsl deR (h.length + b) ss]) := by
   simp only [AV.ren]
   rw [K08 _ C _ hC]
   simp only [renL, zsP, s1]
   rw [show selN h.length [a, b] h.length = h.length + a from s0]
  rw [e]
  exact Wk.refl _
noncomputable def Xfq : List AV → List AB → Option (AV × List AB)
 | [a], h => (inM h a).bind fun y => if y.2.2.2.2.2.1.length ≤ 100000 ∧ y.2.2.2.2.2.2.length ≤ 100000 then some (.ag (.i .i64 y.1 :: .s y.2.1 :: (deR.f y.2.2.1 ++ [rsl deR h.length y.2.2.2.2.2.1, rsl deR (h.length + 1) y.2.2.2.2.2.2])), h ++ [resB deR true y.2.2.2.2.2.1, resB deR true y.2.2.2.2.2.2]) else none
 | _, _ => none
theorem YTP : Spec Try.prog 10 Xfq := by
 intro args h v h' e
 unfold Xfq at e
 split at e
 ·rename_i a
  obtain ⟨k, t, c, l, s, ls, ss, rfl, hl, hs, e1⟩ := QNw e
  clear e
  dsimp only at e1
  split at e1
  ·rename_i hlen
   cases e1
   refine FnAt.c (FnAt.run (by kernel_rfl) (T := ⟨[], []⟩) ⟨trivial, trivial⟩ Try.func10 sw10 fun ho hh => ?_)
   obtain ⟨c1, c2, c3, c4⟩ := qoS c l s
   have ca := YfG c hl.isSl hs.isSl
   simp only [Z3W, Kt4, YwG, q43, Bool.and_eq_true, Bool.and_true] at ho
   obtain ⟨-, -, -, ol, os⟩ := ho
   have fl := hl.fx ol (sz := 35) rfl
   have fs := hs.fx os (sz := 35) rfl
   have sl := hl.src (sz := 35) rfl
   have sl2 := hs.src (sz := 35) rfl
   have z2 : (ls.length * 64 ≤ 140737488355328 ∧ ls.length ≤ maxLen) = True := eq_true ⟨by omega, by unfold maxLen; omega⟩
   have z3 : (ss.length * 64 ≤ 140737488355328 ∧ ss.length ≤ maxLen) = True := eq_true ⟨by omega, by unfold maxLen; omega⟩
   obtain ⟨b1, b2, b3, b4, b5⟩ := KoS c
   have b6 := ziH c
   have tm : ∀ a b : AV, ((deR.f c ++ [a, b]).take 37) = deR.f c ++ [a, b] := fun a b => List.take_of_length_le (by rw [KNd]; exact Nat.le_refl _)
   obtain ⟨v1, v2, v3, v4, v5, v6⟩ := ov35 b1
   have m35 : ∀ a b : AV, (deR.f c ++ [a, b])[35]? = some a := fun a b => (qoS c a b).2.1
   have m36 : ∀ a b : AV, (deR.f c ++ [a, b])[36]? = some b := fun a b => (qoS c a b).2.2.1
   have rl : ∀ id, ls.length ≠ 0 → AV.sl id 0 ls.length ls.length (some 35) = rsl deR id ls := fun id q => by unfold rsl; rw [if_neg q]; rfl
   have rs : ∀ id, ss.length ≠ 0 → AV.sl id 0 ss.length ss.length (some 35) = rsl deR id ss := fun id q => by unfold rsl; rw [if_neg q]; rfl
   unfold w10
   by_cases g1 : ls.length = 0
   ·have g1' := eq_true g1
    have n1 := List.eq_nil_of_length_eq_zero g1
    by_cases g2 : ss.length = 0
    ·have g2' := eq_true g2
     have n2 := List.eq_nil_of_length_eq_zero g2
     simp only [Qfy, Q7I, qe2, qur, X6x, simprocAttr, CO.tmps, Opd.tmps, optT, Nat.reducePow, Nat.reduceDiv, Nat.reduceMod, c1, c2, c3, ca, fl, fs, sl, sl2, g1', g2', v2, v3, b3, b6, KNd, KQo, m35, m36, tm, zb6, List.all_append]
     exact KhF hh (a := 0) (b := 1) (by simp) (by simp) (by decide) (.inl n1) (.inl n2) (by rw [n1]; exact Wk.empty _ _ _ _ _ _) (by rw [n2]; exact Wk.empty _ _ _ _ _ _) (.i .i64 k :: .s t :: deR.f c) (Kzw _ _ _)
    ·have g2' := eq_false g2
     simp only [Qfy, Q7I, qe2, qur, X6x, simprocAttr, CO.tmps, Opd.tmps, optT, Nat.reducePow, Nat.reduceDiv, Nat.reduceMod, c1, c2, c3, ca, fl, fs, sl, sl2, g1', g2', z2, z3, v2, v3, b3, b6, KNd, KQo, m35, m36, tm, zb6, List.all_append]
     exact KhF hh (a := 0) (b := 4) (by simp) (by simp) (by decide) (.inl n1) (.inr (by rw [qqz g2]; rfl)) (by rw [n1]; exact Wk.empty _ _ _ _ _ _) (by rw [rs _ g2]; exact Wk.refl _) (.i .i64 k :: .s t :: deR.f c) (Kzw _ _ _)
   ·have g1' := eq_false g1
    by_cases g2 : ss.length = 0
    ·have g2' := eq_true g2
     have n2 := List.eq_nil_of_length_eq_zero g2
     simp only [Qfy, Q7I, qe2, qur, X6x, simprocAttr, CO.tmps, Opd.tmps, optT, Nat.reducePow, Nat.reduceDiv, Nat.reduceMod, c1, c2, c3, ca, fl, fs, sl, sl2, g1', g2', z2, z3, v2, v3, b3, b6, KNd, KQo, m35, m36, tm, zb6, List.all_append]
     exact KhF hh (a := 3) (b := 1) (by simp) (by simp) (by decide) (.inr (by rw [qqz g1]; rfl)) (.inl n2) (by rw [rl _ g1]; exact Wk.refl _) (by rw [n2]; exact Wk.empty _ _ _ _ _ _) (.i .i64 k :: .s t :: deR.f c) (Kzw _ _ _)
    ·have g2' := eq_false g2
     simp only [Qfy, Q7I, qe2, qur, X6x, simprocAttr, CO.tmps, Opd.tmps, optT, Nat.reducePow, Nat.reduceDiv, Nat.reduceMod, c1, c2, c3, ca, fl, fs, sl, sl2, g1', g2', z2, z3, v2, v3, b3, b6, KNd, KQo, m35, m36, tm, zb6, List.all_append]
     exact KhF hh (a := 3) (b := 5) (by simp) (by simp) (by decide) (.inr (by rw [qqz g1]; rfl)) (.inr (by rw [qqz g2]; rfl)) (by rw [rl _ g1]; exact Wk.refl _) (by rw [rs _ g2]; exact Wk.refl _) (.i .i64 k :: .s t :: deR.f c) (Kzw _ _ _)
  ·cases e1
 ·cases e
noncomputable def YTv : List AV → List AB → Option (AV × List AB)
 | [s], h => match idOf s with
  | [id] => (getS XQp h s).bind fun l => open Classical in if s = rsl XQp id l ∧ h[id]? = some (resB XQp true l) ∧ l.length ≤ 1000000 then some (.tu [], h.set id .dead) else none
  | _ => none
 | _, _ => none
theorem Y4h : Spec Try.prog 17 YTv := by
 intro args h v h' e
 unfold YTv at e
 split at e
 ·rename_i s
  split at e
  ·rename_i id hid
   obtain ⟨l, hs, e⟩ := Kra e
   split at e
   ·rename_i hc
    cases e
    obtain ⟨h1, h2, h3⟩ := hc
    subst h1
    clear hid hs
    have hlt := (List.getElem?_eq_some_iff.1 h2).1
    by_cases h0 : l.length = 0
    ·have e2 : h.set id .dead = h := by
      refine List.ext_getElem? fun j => ?_
      rw [List.getElem?_set]
      split
      ·rename_i hij
       subst hij
       first | rw [if_pos hlt, h2] | rw [h2]
       unfold resB
       rw [if_pos h0]
      ·rfl
     rw [e2]
     have e1 : lenV (rsl XQp id l) = some 0 := by rw [Kzn, h0]; rfl
     refine FnAt.c (FnAt.run (by kernel_rfl) (T := ⟨[], []⟩) ⟨trivial, trivial⟩ Try.func17 sw17 fun ho hh => ?_)
     unfold w17
     simp only [Qfy, Q7I, qe2, qur, X6x, simprocAttr, CO.tmps, Opd.tmps, optT, Nat.reducePow, Nat.reduceDiv, Nat.reduceMod]
     refine J4A (S := Unit) (fun _ => 0) (fun _ => [rsl XQp id l] ++ tp 1 ++ [.i .i64 0] ++ tp 14) (fun _ => True) () trivial (by simp only [qe2, X6x, simprocAttr]) fun _ _ => ?_
     simp only [qe2, qur, X6x, simprocAttr, CO.tmps, Opd.tmps, optT, Nat.reducePow, Nat.reduceDiv, Nat.reduceMod, e1, Int.natCast_zero, Int.lt_irrefl, false_implies]
     exact Bt.eq rfl (List.append_nil h)
    ·have hb : h[id]? = some (.blk true true (XQp.cells l)) := by rw [h2, qgk h0]
     have e1 : lenV (rsl XQp id l) = some (l.length : Int) := Kzn _ _
     refine FnAt.c (FnAt.run (by kernel_rfl) (T := ⟨[], []⟩) ⟨trivial, trivial⟩ Try.func17 sw17 fun ho hh => ?_)
     unfold w17
     simp only [Qfy, Q7I, qe2, qur, X6x, simprocAttr, CO.tmps, Opd.tmps, optT, Nat.reducePow, Nat.reduceDiv, Nat.reduceMod]
     refine QSO (S := Nat × List UInt8) (fun x => l.length - x.1) (fun x => [rsl XQp id l] ++ tp 1 ++ [.i .i64 (x.1 : Nat)] ++ tp 14) (fun x => h.set id (.blk true true (XQp.cells x.2)) ++ []) (fun x => x.1 ≤ l.length ∧ x.2.length = l.length) (0, l) ⟨Nat.zero_le _, rfl⟩ (by dsimp only; rw [YTL hb]; exact Bt.wk (by simp only [qe2, X6x, simprocAttr])) fun x hx => ?_
     obtain ⟨k, m⟩ := x
     obtain ⟨hk, hml⟩ := hx
     dsimp only at hk hml ⊢
     have hG : (h.set id (.blk true true (XQp.cells m)))[id]? = some (.blk true true (XQp.cells m)) := List.getElem?_set_self hlt
     by_cases g : k < l.length
     ·have g1 : ((k : Int) < (l.length : Int)) = True := eq_true (by omega)
      have w1 : IntKind.i64.wrap ((k : Int) + 1) = ((k + 1 : Nat) : Int) := zdT (by unfold In64; omega)
      have hkm : k < m.length := by omega
      have gi : iadV 1 (rsl XQp id l) (.i .i64 (k : Nat)) = some (.p id k) := by
       unfold rsl
       rw [if_neg h0]
       simp only [iadV]
       rw [if_pos ⟨by omega, by omega⟩, Int.toNat_natCast, Nat.zero_add, Nat.mul_one]
      have gl : ldV (h.set id (.blk true true (XQp.cells m)) ++ []) none (.p id k) = some (u8A m[k]) := by
       simp only [ldV, qhl]
       rw [List.append_nil, hG]
       simp only [Option.bind_some]
       rw [Kbg, List.getElem?_map, List.getElem?_eq_getElem hkm]
       rfl
      have gx : binV .xor (u8A m[k]) (.i .u8 165) = some (u8A (m[k] ^^^ 165)) := KHz m[k] 165
      have gs : stV (h.set id (.blk true true (XQp.cells m)) ++ []) none (.p id k) (u8A (m[k] ^^^ 165)) = some (h.set id (.blk true true (XQp.cells (m.set k (m[k] ^^^ 165)))) ++ []) := by
       rw [QpM hG (o := k) (by rw [XQp.cells_len, ZGD]; omega) (Zrv _) (XJc _), List.set_set, KGR m hkm]
      simp only [Qfy, Q7I, qe2, qur, X6x, simprocAttr, CO.tmps, Opd.tmps, optT, Nat.reducePow, Nat.reduceDiv, Nat.reduceMod, e1, g1, gi, gl, gx, gs, w1, false_implies]
      exact ⟨(k + 1, m.set k (m[k] ^^^ 165)), ⟨g, by dsimp only; rw [List.length_set]; exact hml⟩, by dsimp only; omega, Bt.wk (by simp only [qe2, X6x, simprocAttr])⟩
     ·have g1 : ((k : Int) < (l.length : Int)) = False := eq_false (by omega)
      simp only [Qfy, Q7I, qe2, qur, X6x, simprocAttr, CO.tmps, Opd.tmps, optT, Nat.reducePow, Nat.reduceDiv, Nat.reduceMod, e1, g1, false_implies]
      have := KxN (P := Try.prog) (p := h.length) (fr := [AV.tu []]) hG []
      rw [List.set_set, List.append_nil, List.append_nil] at this
      rw [List.append_nil]
      exact this
   ·cases e
  ·cases e
 ·cases e
end Go.Proofs.Ytpoojfnmhnedpaa
end
section
namespace Go.Proofs.Ytpoojfnmhnedpaa
set_option maxRecDepth 100000
set_option maxHeartbeats 4000000
theorem qtb {h L : List AB} {l : List UInt8} {a : Nat} (ha : L[a]? = some (resB XQp true l)) (hl : l.length ≤ 1000000) : YTv [rsl XQp (h.length + a) l] (h ++ L) = some (.tu [], h ++ L.set a .dead) := by
 have ga : (h ++ L)[h.length + a]? = some (resB XQp true l) := by rw [zSD]; exact ha
 have gs : getS XQp (h ++ L) (rsl XQp (h.length + a) l) = some l := (zpN ga (by unfold maxLen; omega)).get
 unfold YTv
 simp only [JJ1, gs, Option.bind_some]
 rw [if_pos ⟨rfl, ga, hl⟩, YFW]
theorem Qis {P : Program} {p : Nat} {fr fr' : List AV} {h L : List AB} {m n : Nat} {xs : List AV} (hb : L[m]? = some (.blk true true xs)) (hn : xs.length = n) (hw : WkL fr' fr) : Bt P p fr (h ++ L) fr' (h ++ L.set m (.blk true true (List.replicate n .top))) := by
 refine Bt.trans (Bt.wk hw) ?_
 have := Bt.top (P := P) (p := p) (fr := fr') (h := h ++ L) (id := h.length + m) (n := n) (xs := xs) (by rw [zSD]; exact hb) hn
 rw [YFW] at this
 exact this
theorem KQQ {h : List AB} (hz : h.map AB.freeze = h) {l s : AV} {ls ss : List Dsc} (hl : Rd deR h l ls) (hs : Rd deR h s ss) (k : Int) (t : List UInt8) (c : Dsc) (bk : I64 k) (bc : I64D c) (bl : ∀ d ∈ ls, I64D d) (bs : ∀ d ∈ ss, I64D d) :
  FnAt Try.prog 3 [.ag (.i .i64 k :: .s t :: (deR.f c ++ [l, s]))] h (.b true) h := by
 refine FnAt.run (by kernel_rfl) (T := ⟨[⟨8, q6y, fun _ => []⟩, ⟨9, QzU, fun _ => []⟩, ⟨10, Xfq, fun _ => []⟩, ⟨11, YpP, fun _ => []⟩, ⟨12, YpP, fun _ => []⟩, ⟨13, Z6C, fun _ => []⟩, ⟨16, Z6C, fun _ => []⟩, ⟨14, qYW, fun _ => []⟩, ⟨15, QvN, fun _ => []⟩, ⟨17, YTv, fun _ => []⟩, ⟨18, X1j, fun _ => []⟩], []⟩) ⟨⟨JMr, z3i, YTP, YXN, zLj, qiV, Qc6, Yp2, QEM, Y4h, XuP, trivial⟩, trivial⟩ Try.func3 sw3 fun ho hh => ?_
 obtain ⟨c1, c2, c3, c4⟩ := qoS c l s
 have ca := YfG c hl.isSl hs.isSl
 have tm : ((deR.f c ++ [l, s]).take 37) = deR.f c ++ [l, s] := List.take_of_length_le (by omega)
 simp only [Z3W, Kt4, YwG, q43, Bool.and_eq_true, Bool.and_true] at ho
 obtain ⟨-, -, -, ol, os⟩ := ho
 have fl := hl.fx ol (sz := 35) rfl
 have fs := hs.fx os (sz := 35) rfl
 have mok : ManOk (ZVh k t c ls ss) := qwe bk bc bl bs
 have im0 : ∀ L, inM (h ++ L) (.ag (.i .i64 k :: .s t :: (deR.f c ++ [l, s]))) = some (k, t, c, l, s, ls, ss) := fun L => Xi3 (hl.app L).get (hs.app L).get
 unfold w3
 by_cases g1 : JWr t c ls ss = true
 ·simp only [Qfy, Q7I, qe2, qur, X6x, simprocAttr, CO.tmps, Opd.tmps, optT, Nat.reducePow, Nat.reduceDiv, Nat.reduceMod, c1, c2, c3, ca, tm, im0, g1, QzU, q6y]
  exact Bt.drop _ hh rfl rfl
 have g1' : JWr t c ls ss = false := by simpa using g1
 obtain ⟨y1, y2, y3, y4, y5⟩ := YUS g1'
 have hEB : EB k t c ls ss := ⟨by unfold I64 at bk; unfold In64; omega, by omega, ⟨by have := bc.1; unfold I64 at this; unfold In64; omega, by have := bc.2; unfold I64 at this; unfold In64; omega, by omega⟩, by omega, fun d hd => by
  have h1 := y5 d hd
  have h2 : I64D d := by
   rcases List.mem_append.1 hd with hd | hd
   ·exact bl d hd
   ·exact bs d hd
  exact ⟨by have := h2.1; unfold I64 at this; unfold In64; omega, by have := h2.2; unfold I64 at this; unfold In64; omega, by omega⟩⟩
 have hEB' := eq_true hEB
 obtain ⟨E, hE⟩ : ∃ E, E = menc (ZVh k t c ls ss) := ⟨_, rfl⟩
 have hEl : E.1.length ≤ 1000000 := by
  by_cases g2 : (menc (ZVh k t c ls ss)).2 = 0
  ·obtain ⟨_, q, hlen⟩ := QvQ mok g2
   rw [hE, q]
   dsimp only
   omega
  ·rw [hE, KVH g2]
   exact Nat.zero_le _
 have hbm : E.1.length ≤ maxLen := by unfold maxLen; omega
 obtain ⟨m1, m2, m3, m4⟩ := JGp c
 have q1 : (ls.length ≤ maxLen) = True := eq_true (by unfold maxLen; omega)
 have q2 : (ss.length ≤ maxLen) = True := eq_true (by unfold maxLen; omega)
 have r1 : (ls.length ≤ 100000) = True := eq_true (by omega)
 have r2 : (ss.length ≤ 100000) = True := eq_true (by omega)
 have iml : ∀ (H : List AB) (l' s' : AV), getS deR H l' = some ls → getS deR H s' = some ss → inM H (.ag (.i .i64 k :: .s t :: (deR.f c ++ [l', s']))) = some (k, t, c, l', s', ls, ss) := fun H l' s' q1 q2 => Xi3 q1 q2
 have key : ∀ x y z w : AV, (MT.key (k, t, c, x, y, ls, ss) = MT.key (k, t, c, z, w, ls, ss)) = True := fun x y z w => eq_true rfl
 have nd : (ls.length + ss.length ≤ 100000) = True := eq_true (by omega)
 obtain ⟨D, hD⟩ : ∃ D, D = desL k c ls ss := ⟨_, rfl⟩
 have hdl : D.length ≤ 100001 := by
  rw [hD, Jyg]
  split <;> omega
 have hdm : D.length ≤ maxLen := by unfold maxLen; omega
 have gap : ∀ L k, ownR deR D L k → getS deR (h ++ L) (apS deR (h.length + k) D) = some D := fun L k q => by
  by_cases h0 : D.length = 0
  ·rw [List.eq_nil_of_length_eq_zero h0, Y7j, Jpk]
  ·rw [JeD _ h0]
   exact Z9G (r := deR) L k _ q hdm
 have ov := fun L q => qtb (h := h) (L := L) (l := E.1) (a := 4) q hEl
 simp only [Qfy, Q7I, qe2, qur, X6x, simprocAttr, CO.tmps, Opd.tmps, optT, Nat.reducePow, Nat.reduceDiv, Nat.reduceMod, c1, c2, c3, ca, tm, im0, fl, fs, g1', hEB', ← hE, ← hD, hbm, hdm, m1, m2, m3, m4, q1, q2, r1, r2, nd, iml, key, gap, ov, QHg, eq_self, ne_eq, not_true_eq_false, not_false_eq_true, decide_true, decide_false, QzU, q6y, Xfq, YpP, Z6C, qYW, QvN]
 obtain ⟨q, hq⟩ : ∃ q, q = h.length + 6 := ⟨_, rfl⟩
 by_cases h0 : D.length = 0
 ·have e1 : lenV (apS deR (h.length + 6) D) = some 0 := by rw [QHg, h0]; rfl
  refine J4A (S := Unit) (fun _ => 0) (fun _ => tp 1 ++ [.p (h.length + 0) 0] ++ tp 1 ++ [.p (h.length + 3) 0] ++ tp 4 ++ [apS deR (h.length + 6) D, .b true, .i .i64 0] ++ tp 52) (fun _ => True) () trivial (by simp only [qe2, X6x, simprocAttr]) fun _ _ => ?_
  simp only [qe2, qur, X6x, simprocAttr, CO.tmps, Opd.tmps, optT, Nat.reducePow, Nat.reduceDiv, Nat.reduceMod, c1, c2, c3, ca, tm, im0, ← hD, m1, m2, m3, m4, q1, q2, iml, key, eq_self, decide_true, decide_false, QzU, X1j, e1, Int.lt_irrefl, false_implies]
  exact Bt.drop _ hh rfl rfl
 ·have e1 : lenV (apS deR (h.length + 6) D) = some (D.length : Int) := QHg _ _
  have hrl : (List.replicate (D.length * 35) AV.top).length = D.length * 35 := List.length_replicate
  refine QSO (S := Nat) (fun n => D.length - n) (fun n => tp 1 ++ [.p (h.length + 0) 0] ++ tp 1 ++ [.p (h.length + 3) 0] ++ tp 4 ++ [apS deR (h.length + 6) D, .b true, .i .i64 (n : Nat)] ++ tp 52) (fun _ => h ++ [AB.blk false true (.i .i64 k :: .s t :: (deR.f c ++ [l, s])), resB deR true ls, resB deR true ss, AB.blk false true (.i .i64 k :: .s t :: (deR.f c ++ [rsl deR (h.length + 1) ls, rsl deR (h.length + 2) ss])), AB.dead, resB XQp true E.fst, AB.blk true true (List.replicate (D.length * 35) AV.top), resB deR true D]) (fun n => n ≤ D.length) 0 (Nat.zero_le _) (Qis (L := [AB.blk false true (.i .i64 k :: .s t :: (deR.f c ++ [l, s])), resB deR true ls, resB deR true ss, AB.blk false true (.i .i64 k :: .s t :: (deR.f c ++ [rsl deR (h.length + 1) ls, rsl deR (h.length + 2) ss])), AB.dead, resB XQp true E.fst, resB deR true D, resB deR true D]) (m := 6) (by rw [qqz h0]; rfl) (deR.cells_len D) (by simp only [qe2, X6x, simprocAttr])) fun n hn => ?_
  by_cases gn : n < D.length
  ·have gn' : ((n : Int) < (D.length : Int)) = True := eq_true (by omega)
   have w1 : IntKind.i64.wrap ((n : Int) + 1) = ((n + 1 : Nat) : Int) := zdT (by unfold In64; omega)
   have gi : iadV 35 (apS deR (h.length + 6) D) (.i .i64 (n : Nat)) = some (.p q (n * 35)) := by
    rw [JeD _ h0]
    unfold rsl
    rw [if_neg h0]
    simp only [iadV]
    rw [if_pos ⟨by omega, by omega⟩, Int.toNat_natCast, Nat.zero_add, hq]
   have gs : stV (h ++ [AB.blk false true (.i .i64 k :: .s t :: (deR.f c ++ [l, s])), resB deR true ls, resB deR true ss, AB.blk false true (.i .i64 k :: .s t :: (deR.f c ++ [rsl deR (h.length + 1) ls, rsl deR (h.length + 2) ss])), AB.dead, resB XQp true E.fst, AB.blk true true (List.replicate (D.length * 35) AV.top), resB deR true D]) (some 35) (.p q (n * 35)) (.ag Q1u) = some (h ++ [AB.blk false true (.i .i64 k :: .s t :: (deR.f c ++ [l, s])), resB deR true ls, resB deR true ss, AB.blk false true (.i .i64 k :: .s t :: (deR.f c ++ [rsl deR (h.length + 1) ls, rsl deR (h.length + 2) ss])), AB.dead, resB XQp true E.fst, AB.blk true true (over (List.replicate (D.length * 35) AV.top) (n * 35) Q1u), resB deR true D]) := by
    rw [hq, Kti rfl, if_pos (show Q1u.length = 35 from rfl)]
    have : ownW [AB.blk false true (.i .i64 k :: .s t :: (deR.f c ++ [l, s])), resB deR true ls, resB deR true ss, AB.blk false true (.i .i64 k :: .s t :: (deR.f c ++ [rsl deR (h.length + 1) ls, rsl deR (h.length + 2) ss])), AB.dead, resB XQp true E.fst, AB.blk true true (List.replicate (D.length * 35) AV.top), resB deR true D] 6 (n * 35) Q1u = some [AB.blk false true (.i .i64 k :: .s t :: (deR.f c ++ [l, s])), resB deR true ls, resB deR true ss, AB.blk false true (.i .i64 k :: .s t :: (deR.f c ++ [rsl deR (h.length + 1) ls, rsl deR (h.length + 2) ss])), AB.dead, resB XQp true E.fst, AB.blk true true (over (List.replicate (D.length * 35) AV.top) (n * 35) Q1u), resB deR true D] := by
     simp only [Jc7, ZJU]
     rw [if_pos ⟨by rw [hrl]; show n * 35 + 35 ≤ _; omega, rfl⟩]
     rfl
    rw [this]
    rfl
   simp only [Q1u, Qwh, List.drop_succ_cons, List.drop_zero] at gs
   simp only [qe2, qur, X6x, simprocAttr, CO.tmps, Opd.tmps, optT, Nat.reducePow, Nat.reduceDiv, Nat.reduceMod, e1, gn', gi, gs, w1, false_implies]
   refine ⟨n + 1, gn, by dsimp only; omega, ?_⟩
   exact Qis (L := [AB.blk false true (.i .i64 k :: .s t :: (deR.f c ++ [l, s])), resB deR true ls, resB deR true ss, AB.blk false true (.i .i64 k :: .s t :: (deR.f c ++ [rsl deR (h.length + 1) ls, rsl deR (h.length + 2) ss])), AB.dead, resB XQp true E.fst, AB.blk true true (over (List.replicate (D.length * 35) AV.top) (n * 35) Q1u), resB deR true D]) (m := 6) rfl (by rw [J4d _ _ _ (by rw [hrl]; show n * 35 + 35 ≤ _; omega), hrl]) (by simp only [qe2, X6x, simprocAttr])
  ·have gn' : ((n : Int) < (D.length : Int)) = False := eq_false (by omega)
   simp only [qe2, qur, X6x, simprocAttr, CO.tmps, Opd.tmps, optT, Nat.reducePow, Nat.reduceDiv, Nat.reduceMod, c1, c2, c3, ca, tm, im0, ← hD, m1, m2, m3, m4, q1, q2, iml, key, eq_self, decide_true, decide_false, QzU, X1j, e1, gn', false_implies]
   exact Bt.drop _ hh rfl rfl
end Go.Proofs.Ytpoojfnmhnedpaa
end
