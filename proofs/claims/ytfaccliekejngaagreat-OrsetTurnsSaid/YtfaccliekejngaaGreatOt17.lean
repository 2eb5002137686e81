/- Part 17 of what the laws' proofs rest on. No condition. -/
import Derived.Test.YtfaccliekejngaaGreatOt16
set_option linter.all false
section
namespace Go.Proofs.YtfaccliekejngaaGreat
set_option maxRecDepth 100000
set_option maxHeartbeats 4000000
def bV (v0 : AV) (p : Nat) (v : List Int) : Bool → AV
 | true => rsl intR (p + 0) v
 | false => v0
def bB (v : List Int) : Bool → AB
 | true => resB intR true v
 | false => .dead
def AV.isNs : AV → Bool
 | .ns => true
 | _ => false
noncomputable def Z5V : List AV → List AB → Option (AV × List AB)
 | [.p id 0, s], h => (YU6 h id).bind fun x => (getS intR h x.1).bind fun xs => (getS dotR h s).bind fun ds =>
   if x.2.isNs = true ∧ xs.length ≤ 100000 ∧ ds.length ≤ 100000 ∧ (∀ n ∈ xs, n ≤ 1048576) ∧ ∀ d ∈ ds, KG5 d then
    if (absR (xs, []) ds).1 = xs then some (.p id 0, bx2 h id x.1 (apS dotR h.length (absR (xs, []) ds).2) ++ [resB dotR true (absR (xs, []) ds).2])
    else some (.p id 0, bx2 h id (rsl intR h.length (absR (xs, []) ds).1) (apS dotR (h.length + 1) (absR (xs, []) ds).2) ++ [resB intR true (absR (xs, []) ds).1, resB dotR true (absR (xs, []) ds).2])
   else none
 | _, _ => none
theorem qfs (xs : List Int) (h : ∀ n ∈ xs, n ≤ 1048576) (r : Int) : vAt xs r ≤ 1048576 := by
 by_cases ho : r < 1 ∨ (xs.length : Int) < r
 ·rw [J4U _ _ ho]; omega
 ·obtain ⟨k, rfl⟩ : ∃ k : Nat, r = ((k + 1 : Nat) : Int) := ⟨(r - 1).toNat, by omega⟩
  have hk : k < xs.length := by omega
  rw [YAu _ k hk, List.getD_eq_getElem?_getD, List.getElem?_eq_getElem hk]
  have := h _ (List.getElem_mem hk)
  simp only [Option.getD_some]
  omega
theorem ZyL (s : AbS) {d : Int × Int} (hd : KG5 d) (h : ∀ r, vAt s.1 r ≤ 1048576) (r : Int) : vAt (absD s d).1 r ≤ 1048576 := by
 unfold absD
 split
 ·exact h r
 ·split
  ·rename_i h1 h2
   rw [YXx s.1 hd (by omega)]
   have := hd.2.2.2
   split
   ·omega
   ·exact h r
  ·split <;> exact h r
theorem Jjy {xs vl : List Int} {d : Int × Int} (hd : KG5 d) (hn : vAt vl d.1 < d.2) (hge : vAt xs d.1 ≤ vAt vl d.1) : YpI vl d ≠ xs := by
 rintro rfl
 rw [YXx vl hd hn, if_pos rfl] at hge
 omega
structure DotsInv (xs : List Int) (ds : Dots) (i : Nat) (c : Bool) : Prop where
 le : i ≤ ds.length
 no : c = false → (absR (xs, []) (ds.take i)).1 = xs
 yes : c = true → (absR (xs, []) (ds.take i)).1 ≠ xs
 ge : ∀ r, vAt xs r ≤ vAt (absR (xs, []) (ds.take i)).1 r
 bd : ∀ r, vAt (absR (xs, []) (ds.take i)).1 r ≤ 1048576
 l1 : (absR (xs, []) (ds.take i)).1.length ≤ max xs.length 16
 l2 : (absR (xs, []) (ds.take i)).2.length ≤ i
theorem Xxp : Spec Tryz.prog 102 Z5V := by
 intro args h v h' e
 unfold Z5V at e
 split at e
 ·rename_i id s
  obtain ⟨⟨v0, d0⟩, hx, e⟩ := Option.bind_eq_some_iff.1 e
  obtain ⟨hb, hv, hd⟩ := YYh hx
  obtain ⟨xs, h1, e⟩ := YI8 e
  obtain ⟨ds, h2, e⟩ := YI8 e
  dsimp only at *
  split at e
  ·rename_i hc
   have ee := e
   obtain ⟨hns, hl1, hl2, hbd0, hdd⟩ := hc
   obtain rfl : d0 = .ns := by cases d0 <;> first | rfl | cases hns
   refine FnAt.c (FnAt.run (by kernel_rfl) (T := ⟨[⟨96, T_At, fun _ => []⟩, ⟨140, zbq, fun _ => []⟩], []⟩) ⟨⟨QYv, XZT, trivial⟩, trivial⟩ Tryz.func102 z7q fun ho hh => ?_)
   simp only [qMC, Bool.and_eq_true] at ho
   have hid := (List.getElem?_eq_some_iff.1 hb).1
   have fb := zVe hid
   have hidz : id < (h.map AB.freeze).length := by rw [List.length_map]; exact hid
   have fz := zVe hidz
   simp only [List.length_map] at fz
   have ok := qGB hh hb
   have fs := h2.fx ho.2.1 (sz := 2) rfl
   have e0 : h ++ [] = bx2 h id v0 .ns ++ [] := by rw [qvZ hb]
   rw [e0]
   unfold w102
   simp only [XH8, QN9, X1r, Y9j, simprocAttr, fs]
   have inv0 : DotsInv xs ds 0 false := ⟨Nat.zero_le _, fun _ => rfl, fun h => (by cases h), fun r => Int.le_refl _, qfs xs hbd0, Nat.le_max_left _ _, Nat.le_refl _⟩
   refine YHj (S := Nat × Bool) (fun x => ds.length - x.1) (fun x => [.p id 0] ++ tp 8 ++ [s, .i .i64 ds.length, .i .i64 x.1] ++ tp 68)
    (fun x => bx2 h id (bV v0 h.length (absR (xs, []) (ds.take x.1)).1 x.2) (apS dotR (h.length + 1) (absR (xs, []) (ds.take x.1)).2) ++ [bB (absR (xs, []) (ds.take x.1)).1 x.2, resB dotR true (absR (xs, []) (ds.take x.1)).2])
    (fun x => DotsInv xs ds x.1 x.2) (0, false) inv0 ?_ fun x hx => ?_
   ·have e : (bx2 h id v0 .ns ++ []) ++ List.replicate 2 AB.dead = bx2 h id v0 .ns ++ [.dead, .dead] := by rw [List.append_nil]; rfl
    show Bt _ _ _ _ _ (bx2 h id v0 .ns ++ [.dead, .dead])
    rw [← e]
    refine Bt.trans (Bt.wk ?_) (Bt.pad _ _ 2)
    simp only [X1r, zVq, simprocAttr]
   obtain ⟨i, c⟩ := x
   have hi := hx.le
   dsimp only at hi ⊢
   generalize hst : absR (xs, []) (ds.take i) = st at *
   obtain ⟨vl, dl⟩ := st
   have hy := hx.yes
   have hn := hx.no
   have hge := hx.ge
   have hbd := hx.bd
   have hll := hx.l1
   have hl3 := hx.l2
   rw [hst] at hy hn hge hbd hll hl3
   dsimp only at *
   simp only [X1r, Y9j, simprocAttr, fs]
   refine ⟨fun g1 => ?_, fun g1 => ?_⟩
   ·have hstep := Q8q (xs, []) g1
    rw [hst] at hstep
    generalize hdi : ds.getD i dotR.d = d at hstep
    have hdm : KG5 d := hdd d (by rw [← hdi, List.getD_eq_getElem?_getD, List.getElem?_eq_getElem g1]; exact List.getElem_mem g1)
    have e1 : IntKind.i64.wrap ((i : Int) + 1) = ((i + 1 : Nat) : Int) := ZL4 (by unfold In64; omega)
    have e2 : IntKind.i64.wrap (vAt vl d.1 + 1) = vAt vl d.1 + 1 := ZL4 (by have := hbd d.1; have := KJL vl d.1; unfold In64; omega)
    have o1 := ok.1
    have fo : ∀ c lo hi anc past, v0.ok (qOk (h.length + c) lo hi anc past) = true := fun c lo hi anc past => AV.ok_mono (fun i q => X5H (by simp only [decide_eq_true_eq] at q; omega)) _ o1
    have fo2 : ∀ c, v0.ok (fun i => decide (i < h.length + c)) = true := fun c => AV.ok_mono (fun i q => by simp only [decide_eq_true_eq] at q ⊢; omega) _ o1
    have fo3 : ∀ c, s.ok (fun i => decide (i < h.length + c)) = true := fun c => AV.ok_mono (fun i q => by simp only [decide_eq_true_eq] at q ⊢; omega) _ ho.2.1
    have fr1 : ∀ sel, Wk (v0.ren (selN h.length sel)) v0 := fun sel => Wk.ren (fun i hi => Xdk hi) o1
    have fr2 : ∀ sel, Wk (s.ren (selN h.length sel)) s := fun sel => Wk.ren (fun i hi => Xdk hi) ho.2.1
    have fid : ∀ sel, selN h.length sel id = id := fun sel => Xdk hid
    have q0 : ∀ c, decide (id < h.length + c) = true := fun c => decide_eq_true (by omega)
    have inv : ∀ c', ((absR (xs, []) (ds.take (i + 1))).1 = xs ↔ c' = false) → DotsInv xs ds (i + 1) c' := fun c' hc' => by
     have a1 := Xua (vl, dl) hdm
     have a2 := ZyL (vl, dl) hdm hbd
     have a3 := QJC (vl, dl) d
     rw [← hstep] at a1 a2 a3
     exact ⟨g1, fun q => hc'.2 q, fun q z => (by rw [hc'.1 z] at q; cases q), fun r => Int.le_trans (hge r) (a1 r), a2, by dsimp only at a3; omega, by dsimp only at a3; omega⟩
    have wl : ∀ x : List Int, x.length ≤ 100016 → (x.length ≤ 1000000) = True := fun x hx => eq_true (by omega)
    have vll := wl vl (by omega)
    by_cases g0 : dl.length = 0
    ·obtain rfl := List.length_eq_zero_iff.1 g0
     cases c with
     | false =>
      obtain rfl := hn rfl
      have f1 := (h1.bx2 hb hv hd ZhR v0 .ns).fxB (sz := 1) rfl
      have f2 := (h2.bx2 hb hv hd Zfh v0 .ns).fxB (sz := 2) rfl
      simp only [ZLN, bV, bB, X1r, Z1D, Y9j, simprocAttr, CO.tmps, Opd.tmps, optT, Nat.reducePow, Nat.reduceDiv, Nat.reduceMod, fb, fz, f1, f2, fs, g1, hdi, KdD, T_At, zbq, fo, fo2, X24 hid hh, q0z, Qy1 rfl hid, JAm hid, zl8 hidz, XEs, QVR, List.length_map, e1, e2, vll, Qwl hv]
      refine ⟨fun g2 => ?_, fun g2 => ⟨fun g3 => ?_, fun g3 => ⟨by decide, ?_⟩⟩⟩
      ·have st' : absR (vl, []) (ds.take (i + 1)) = (vl, []) := by rw [hstep]; simp only [absD, if_pos g2]
       refine ⟨(i + 1, false), inv false (by rw [st']; exact ⟨fun _ => rfl, fun _ => rfl⟩), by dsimp only; omega, ?_⟩
       simp only [st', bV, bB]
       exact Bt.selB hid [0, 1] hh (by simp only [q9C, FrSel, BlkSel, AV.ren, renL, AV.ok, okL, Option.some.injEq, exists_eq_left', List.length_cons, List.length_nil, Nat.reduceAdd, Nat.reduceLT, reduceCtorEq, implies_true, exists_eq', fo2, fo3, fr1, fr2, fid, q0]) (by decide) (by simp only [q9C, FrSel, BlkSel, AV.ren, renL, AV.ok, okL, Option.some.injEq, exists_eq_left', List.length_cons, List.length_nil, Nat.reduceAdd, Nat.reduceLT, reduceCtorEq, implies_true, exists_eq', fo2, fo3, fr1, fr2, fid, q0]) (by simp only [q9C, FrSel, BlkSel, AV.ren, renL, AV.ok, okL, Option.some.injEq, exists_eq_left', List.length_cons, List.length_nil, Nat.reduceAdd, Nat.reduceLT, reduceCtorEq, implies_true, exists_eq', fo2, fo3, fr1, fr2, fid, q0])
      ·have st' : absR (vl, []) (ds.take (i + 1)) = (YpI vl d, []) := by rw [hstep]; simp only [absD, if_neg g2, if_pos g3]
       refine ⟨(i + 1, true), inv true (by rw [st']; exact ⟨fun q => absurd q (Jjy hdm (by omega) (hge d.1)), fun q => by cases q⟩), by dsimp only; omega, ?_⟩
       simp only [st', bV, bB]
       exact Bt.selB hid [3, 1] hh (by simp only [q9C, FrSel, BlkSel, AV.ren, renL, AV.ok, okL, Option.some.injEq, exists_eq_left', List.length_cons, List.length_nil, Nat.reduceAdd, Nat.reduceLT, reduceCtorEq, implies_true, exists_eq', fo2, fo3, fr1, fr2, fid, q0]) (by decide) (by simp only [q9C, FrSel, BlkSel, AV.ren, renL, AV.ok, okL, Option.some.injEq, exists_eq_left', List.length_cons, List.length_nil, Nat.reduceAdd, Nat.reduceLT, reduceCtorEq, implies_true, exists_eq', fo2, fo3, fr1, fr2, fid, q0]) (by simp only [q9C, FrSel, BlkSel, AV.ren, renL, AV.ok, okL, Option.some.injEq, exists_eq_left', List.length_cons, List.length_nil, Nat.reduceAdd, Nat.reduceLT, reduceCtorEq, implies_true, exists_eq', fo2, fo3, fr1, fr2, fid, q0])
      ·have st' : absR (vl, []) (ds.take (i + 1)) = (vl, [d]) := by rw [hstep]; simp only [absD, if_neg g2, if_neg g3, List.length_nil, true_or, if_true, List.nil_append]
       refine ⟨(i + 1, false), inv false (by rw [st']; exact ⟨fun _ => rfl, fun _ => rfl⟩), by dsimp only; omega, ?_⟩
       simp only [st', bV, bB]
       exact Bt.selB hid [0, 4] hh (by simp only [q9C, FrSel, BlkSel, AV.ren, renL, AV.ok, okL, Option.some.injEq, exists_eq_left', List.length_cons, List.length_nil, Nat.reduceAdd, Nat.reduceLT, reduceCtorEq, implies_true, exists_eq', fo2, fo3, fr1, fr2, fid, q0]) (by decide) (by simp only [q9C, FrSel, BlkSel, AV.ren, renL, AV.ok, okL, Option.some.injEq, exists_eq_left', List.length_cons, List.length_nil, Nat.reduceAdd, Nat.reduceLT, reduceCtorEq, implies_true, exists_eq', fo2, fo3, fr1, fr2, fid, q0]) (by simp only [q9C, FrSel, BlkSel, AV.ren, renL, AV.ok, okL, Option.some.injEq, exists_eq_left', List.length_cons, List.length_nil, Nat.reduceAdd, Nat.reduceLT, reduceCtorEq, implies_true, exists_eq', fo2, fo3, fr1, fr2, fid, q0])
     | true =>
      have f2 := (h2.bx2 hb hv hd Zfh (rsl intR (h.length + 0) vl) .ns).fxB (sz := 2) rfl
      have hm : vl.length ≤ maxLen := by unfold maxLen; omega
      simp only [ZLN, hm, bV, bB, X1r, Z1D, Y9j, simprocAttr, CO.tmps, Opd.tmps, optT, Nat.reducePow, Nat.reduceDiv, Nat.reduceMod, fb, fz, f2, fs, g1, hdi, KdD, T_At, zbq, fo, fo2, X24 hid hh, q0z, Qy1 rfl hid, JAm hid, zl8 hidz, XEs, QVR, List.length_map, e1, e2, vll, Qwl hv]
      refine ⟨fun g2 => ?_, fun g2 => ⟨fun g3 => ?_, fun g3 => ⟨by decide, ?_⟩⟩⟩
      ·have st' : absR (xs, []) (ds.take (i + 1)) = (vl, []) := by rw [hstep]; simp only [absD, if_pos g2]
       refine ⟨(i + 1, true), inv true (by rw [st']; exact ⟨fun q => absurd q (hy rfl), fun q => by cases q⟩), by dsimp only; omega, ?_⟩
       simp only [st', bV, bB]
       exact Bt.selB hid [0, 1] hh (by simp only [q9C, FrSel, BlkSel, AV.ren, renL, AV.ok, okL, Option.some.injEq, exists_eq_left', List.length_cons, List.length_nil, Nat.reduceAdd, Nat.reduceLT, reduceCtorEq, implies_true, exists_eq', fo2, fo3, fr1, fr2, fid, q0]) (by decide) (by simp only [q9C, FrSel, BlkSel, AV.ren, renL, AV.ok, okL, Option.some.injEq, exists_eq_left', List.length_cons, List.length_nil, Nat.reduceAdd, Nat.reduceLT, reduceCtorEq, implies_true, exists_eq', fo2, fo3, fr1, fr2, fid, q0]) (by simp only [q9C, FrSel, BlkSel, AV.ren, renL, AV.ok, okL, Option.some.injEq, exists_eq_left', List.length_cons, List.length_nil, Nat.reduceAdd, Nat.reduceLT, reduceCtorEq, implies_true, exists_eq', fo2, fo3, fr1, fr2, fid, q0])
      ·have st' : absR (xs, []) (ds.take (i + 1)) = (YpI vl d, []) := by rw [hstep]; simp only [absD, if_neg g2, if_pos g3]
       refine ⟨(i + 1, true), inv true (by rw [st']; exact ⟨fun q => absurd q (Jjy hdm (by omega) (hge d.1)), fun q => by cases q⟩), by dsimp only; omega, ?_⟩
       simp only [st', bV, bB]
       exact Bt.selB hid [3, 1] hh (by simp only [q9C, FrSel, BlkSel, AV.ren, renL, AV.ok, okL, Option.some.injEq, exists_eq_left', List.length_cons, List.length_nil, Nat.reduceAdd, Nat.reduceLT, reduceCtorEq, implies_true, exists_eq', fo2, fo3, fr1, fr2, fid, q0]) (by decide) (by simp only [q9C, FrSel, BlkSel, AV.ren, renL, AV.ok, okL, Option.some.injEq, exists_eq_left', List.length_cons, List.length_nil, Nat.reduceAdd, Nat.reduceLT, reduceCtorEq, implies_true, exists_eq', fo2, fo3, fr1, fr2, fid, q0]) (by simp only [q9C, FrSel, BlkSel, AV.ren, renL, AV.ok, okL, Option.some.injEq, exists_eq_left', List.length_cons, List.length_nil, Nat.reduceAdd, Nat.reduceLT, reduceCtorEq, implies_true, exists_eq', fo2, fo3, fr1, fr2, fid, q0])
      ·have st' : absR (xs, []) (ds.take (i + 1)) = (vl, [d]) := by rw [hstep]; simp only [absD, if_neg g2, if_neg g3, List.length_nil, true_or, if_true, List.nil_append]
       refine ⟨(i + 1, true), inv true (by rw [st']; exact ⟨fun q => absurd q (hy rfl), fun q => by cases q⟩), by dsimp only; omega, ?_⟩
       simp only [st', bV, bB]
       exact Bt.selB hid [0, 4] hh (by simp only [q9C, FrSel, BlkSel, AV.ren, renL, AV.ok, okL, Option.some.injEq, exists_eq_left', List.length_cons, List.length_nil, Nat.reduceAdd, Nat.reduceLT, reduceCtorEq, implies_true, exists_eq', fo2, fo3, fr1, fr2, fid, q0]) (by decide) (by simp only [q9C, FrSel, BlkSel, AV.ren, renL, AV.ok, okL, Option.some.injEq, exists_eq_left', List.length_cons, List.length_nil, Nat.reduceAdd, Nat.reduceLT, reduceCtorEq, implies_true, exists_eq', fo2, fo3, fr1, fr2, fid, q0]) (by simp only [q9C, FrSel, BlkSel, AV.ren, renL, AV.ok, okL, Option.some.injEq, exists_eq_left', List.length_cons, List.length_nil, Nat.reduceAdd, Nat.reduceLT, reduceCtorEq, implies_true, exists_eq', fo2, fo3, fr1, fr2, fid, q0])
    ·have gl : dl.length ≤ maxLen := by unfold maxLen; omega
     have gm : dl.length + 1 ≤ maxLen := by unfold maxLen; omega
     have g0c : ((dl.length : Int) = 0) = False := eq_false (by omega)
     have gb : (dl.length + 1) * 16 ≤ 140737488355328 := by omega
     have e3 : IntKind.i64.wrap ((dl.length : Int) - 1) = ((dl.length - 1 : Nat) : Int) := by rw [show ((dl.length : Int) - 1) = ((dl.length - 1 : Nat) : Int) from by omega]; exact ZL4 (by unfold In64; omega)
     have glt : dl.length - 1 < dl.length := by omega
     have gr : ∀ id, apS dotR id dl = rsl dotR id dl := fun id => J0z _ g0
     cases c with
     | false =>
      obtain rfl := hn rfl
      have f1 := (h1.bx2 hb hv hd ZhR v0 (rsl dotR (h.length + 1) dl)).fxB (sz := 1) rfl
      have f2 := (h2.bx2 hb hv hd Zfh v0 (rsl dotR (h.length + 1) dl)).fxB (sz := 2) rfl
      have fa := fun L k ys hb => KDi (h := List.map AB.freeze (bx2 h id v0 (rsl dotR (h.length + 1) dl))) (p := h.length) (by rw [List.length_map]; exact quX id _ _) (r := dotR) (sz := 2) rfl L k dl 16 1 ys g0 hb (by decide) gb gm
      have fl := fun L k n => XGk (h := bx2 h id v0 (rsl dotR (h.length + 1) dl)) (p := h.length) (quX id _ _) (r := dotR) (sz := 2) rfl L k dl n
      simp only [gr, eqc2, JTD, g0c, glt, gb, gl, gm, fa, fl, e3, KnF (r := dotR) (sz := 2) rfl, bV, bB, X1r, Z1D, Y9j, simprocAttr, CO.tmps, Opd.tmps, optT, Nat.reducePow, Nat.reduceDiv, Nat.reduceMod, fb, fz, f1, f2, fs, g1, hdi, KdD, T_At, zbq, fo, fo2, X24 hid hh, q0z, Qy1 rfl hid, JAm hid, zl8 hidz, XEs, QVR, List.length_map, e1, e2, vll, Qwl hv]
      refine ⟨fun g2 => ?_, fun g2 => ⟨fun g3 => ?_, fun g3 => ⟨fun g4 => ?_, fun g4 => ?_⟩⟩⟩
      ·have st' : absR (vl, []) (ds.take (i + 1)) = (vl, dl) := by rw [hstep]; simp only [absD, if_pos g2]
       refine ⟨(i + 1, false), inv false (by rw [st']; exact ⟨fun _ => rfl, fun _ => rfl⟩), by dsimp only; omega, ?_⟩
       simp only [st', bV, bB, gr, XlZ, zbl]
       exact Bt.selB hid [0, 1] hh (by simp only [q9C, FrSel, BlkSel, AV.ren, renL, AV.ok, okL, Option.some.injEq, exists_eq_left', List.length_cons, List.length_nil, Nat.reduceAdd, Nat.reduceLT, reduceCtorEq, implies_true, exists_eq', JTD, fo2, fo3, fr1, fr2, fid, q0]) (by decide) (by simp only [q9C, FrSel, BlkSel, AV.ren, renL, AV.ok, okL, Option.some.injEq, exists_eq_left', List.length_cons, List.length_nil, Nat.reduceAdd, Nat.reduceLT, reduceCtorEq, implies_true, exists_eq', JTD, fo2, fo3, fr1, fr2, fid, q0]) (by simp only [q9C, FrSel, BlkSel, AV.ren, renL, AV.ok, okL, Option.some.injEq, exists_eq_left', List.length_cons, List.length_nil, Nat.reduceAdd, Nat.reduceLT, reduceCtorEq, implies_true, exists_eq', JTD, fo2, fo3, fr1, fr2, fid, q0])
      ·have st' : absR (vl, []) (ds.take (i + 1)) = (YpI vl d, dl) := by rw [hstep]; simp only [absD, if_neg g2, if_pos g3]
       refine ⟨(i + 1, true), inv true (by rw [st']; exact ⟨fun q => absurd q (Jjy hdm (by omega) (hge d.1)), fun q => by cases q⟩), by dsimp only; omega, ?_⟩
       simp only [st', bV, bB, gr, XlZ, zbl]
       exact Bt.selB hid [3, 1] hh (by simp only [q9C, FrSel, BlkSel, AV.ren, renL, AV.ok, okL, Option.some.injEq, exists_eq_left', List.length_cons, List.length_nil, Nat.reduceAdd, Nat.reduceLT, reduceCtorEq, implies_true, exists_eq', JTD, fo2, fo3, fr1, fr2, fid, q0]) (by decide) (by simp only [q9C, FrSel, BlkSel, AV.ren, renL, AV.ok, okL, Option.some.injEq, exists_eq_left', List.length_cons, List.length_nil, Nat.reduceAdd, Nat.reduceLT, reduceCtorEq, implies_true, exists_eq', JTD, fo2, fo3, fr1, fr2, fid, q0]) (by simp only [q9C, FrSel, BlkSel, AV.ren, renL, AV.ok, okL, Option.some.injEq, exists_eq_left', List.length_cons, List.length_nil, Nat.reduceAdd, Nat.reduceLT, reduceCtorEq, implies_true, exists_eq', JTD, fo2, fo3, fr1, fr2, fid, q0])
      ·have st' : absR (vl, []) (ds.take (i + 1)) = (vl, dl ++ [d]) := by rw [hstep]; simp only [absD, if_neg g2, if_neg g3, ne_eq, g4, not_false_eq_true, or_true, if_true]
       refine ⟨(i + 1, false), inv false (by rw [st']; exact ⟨fun _ => rfl, fun _ => rfl⟩), by dsimp only; omega, ?_⟩
       simp only [st', bV, bB, gr, XlZ, zbl]
       exact Bt.selB hid [0, 4] hh (by simp only [q9C, FrSel, BlkSel, AV.ren, renL, AV.ok, okL, Option.some.injEq, exists_eq_left', List.length_cons, List.length_nil, Nat.reduceAdd, Nat.reduceLT, reduceCtorEq, implies_true, exists_eq', JTD, fo2, fo3, fr1, fr2, fid, q0]) (by decide) (by simp only [q9C, FrSel, BlkSel, AV.ren, renL, AV.ok, okL, Option.some.injEq, exists_eq_left', List.length_cons, List.length_nil, Nat.reduceAdd, Nat.reduceLT, reduceCtorEq, implies_true, exists_eq', JTD, fo2, fo3, fr1, fr2, fid, q0]) (by simp only [q9C, FrSel, BlkSel, AV.ren, renL, AV.ok, okL, Option.some.injEq, exists_eq_left', List.length_cons, List.length_nil, Nat.reduceAdd, Nat.reduceLT, reduceCtorEq, implies_true, exists_eq', JTD, fo2, fo3, fr1, fr2, fid, q0])
      ·have st' : absR (vl, []) (ds.take (i + 1)) = (vl, dl) := by rw [hstep]; simp only [absD, if_neg g2, if_neg g3, ne_eq, g0, g4, not_true_eq_false, false_or, if_false]
       refine ⟨(i + 1, false), inv false (by rw [st']; exact ⟨fun _ => rfl, fun _ => rfl⟩), by dsimp only; omega, ?_⟩
       simp only [st', bV, bB, gr, XlZ, zbl]
       exact Bt.selB hid [0, 1] hh (by simp only [q9C, FrSel, BlkSel, AV.ren, renL, AV.ok, okL, Option.some.injEq, exists_eq_left', List.length_cons, List.length_nil, Nat.reduceAdd, Nat.reduceLT, reduceCtorEq, implies_true, exists_eq', JTD, fo2, fo3, fr1, fr2, fid, q0]) (by decide) (by simp only [q9C, FrSel, BlkSel, AV.ren, renL, AV.ok, okL, Option.some.injEq, exists_eq_left', List.length_cons, List.length_nil, Nat.reduceAdd, Nat.reduceLT, reduceCtorEq, implies_true, exists_eq', JTD, fo2, fo3, fr1, fr2, fid, q0]) (by simp only [q9C, FrSel, BlkSel, AV.ren, renL, AV.ok, okL, Option.some.injEq, exists_eq_left', List.length_cons, List.length_nil, Nat.reduceAdd, Nat.reduceLT, reduceCtorEq, implies_true, exists_eq', JTD, fo2, fo3, fr1, fr2, fid, q0])
     | true =>
      have f2 := (h2.bx2 hb hv hd Zfh (rsl intR (h.length + 0) vl) (rsl dotR (h.length + 1) dl)).fxB (sz := 2) rfl
      have hm : vl.length ≤ maxLen := by unfold maxLen; omega
      have fa := fun L k ys hb => KDi (h := List.map AB.freeze (bx2 h id (rsl intR (h.length + 0) vl) (rsl dotR (h.length + 1) dl))) (p := h.length) (by rw [List.length_map]; exact quX id _ _) (r := dotR) (sz := 2) rfl L k dl 16 1 ys g0 hb (by decide) gb gm
      have fl := fun L k n => XGk (h := bx2 h id (rsl intR (h.length + 0) vl) (rsl dotR (h.length + 1) dl)) (p := h.length) (quX id _ _) (r := dotR) (sz := 2) rfl L k dl n
      simp only [gr, eqc2, JTD, g0c, glt, gb, gl, gm, fa, fl, e3, KnF (r := dotR) (sz := 2) rfl, bV, bB, X1r, Z1D, Y9j, simprocAttr, CO.tmps, Opd.tmps, optT, Nat.reducePow, Nat.reduceDiv, Nat.reduceMod, fb, fz, hm, f2, fs, g1, hdi, KdD, T_At, zbq, fo, fo2, X24 hid hh, q0z, Qy1 rfl hid, JAm hid, zl8 hidz, XEs, QVR, List.length_map, e1, e2, vll, Qwl hv]
      refine ⟨fun g2 => ?_, fun g2 => ⟨fun g3 => ?_, fun g3 => ⟨fun g4 => ?_, fun g4 => ?_⟩⟩⟩
      ·have st' : absR (xs, []) (ds.take (i + 1)) = (vl, dl) := by rw [hstep]; simp only [absD, if_pos g2]
       refine ⟨(i + 1, true), inv true (by rw [st']; exact ⟨fun q => absurd q (hy rfl), fun q => by cases q⟩), by dsimp only; omega, ?_⟩
       simp only [st', bV, bB, gr, XlZ, zbl]
       exact Bt.selB hid [0, 1] hh (by simp only [q9C, FrSel, BlkSel, AV.ren, renL, AV.ok, okL, Option.some.injEq, exists_eq_left', List.length_cons, List.length_nil, Nat.reduceAdd, Nat.reduceLT, reduceCtorEq, implies_true, exists_eq', JTD, fo2, fo3, fr1, fr2, fid, q0]) (by decide) (by simp only [q9C, FrSel, BlkSel, AV.ren, renL, AV.ok, okL, Option.some.injEq, exists_eq_left', List.length_cons, List.length_nil, Nat.reduceAdd, Nat.reduceLT, reduceCtorEq, implies_true, exists_eq', JTD, fo2, fo3, fr1, fr2, fid, q0]) (by simp only [q9C, FrSel, BlkSel, AV.ren, renL, AV.ok, okL, Option.some.injEq, exists_eq_left', List.length_cons, List.length_nil, Nat.reduceAdd, Nat.reduceLT, reduceCtorEq, implies_true, exists_eq', JTD, fo2, fo3, fr1, fr2, fid, q0])
      ·have st' : absR (xs, []) (ds.take (i + 1)) = (YpI vl d, dl) := by rw [hstep]; simp only [absD, if_neg g2, if_pos g3]
       refine ⟨(i + 1, true), inv true (by rw [st']; exact ⟨fun q => absurd q (Jjy hdm (by omega) (hge d.1)), fun q => by cases q⟩), by dsimp only; omega, ?_⟩
       simp only [st', bV, bB, gr, XlZ, zbl]
       exact Bt.selB hid [3, 1] hh (by simp only [q9C, FrSel, BlkSel, AV.ren, renL, AV.ok, okL, Option.some.injEq, exists_eq_left', List.length_cons, List.length_nil, Nat.reduceAdd, Nat.reduceLT, reduceCtorEq, implies_true, exists_eq', JTD, fo2, fo3, fr1, fr2, fid, q0]) (by decide) (by simp only [q9C, FrSel, BlkSel, AV.ren, renL, AV.ok, okL, Option.some.injEq, exists_eq_left', List.length_cons, List.length_nil, Nat.reduceAdd, Nat.reduceLT, reduceCtorEq, implies_true, exists_eq', JTD, fo2, fo3, fr1, fr2, fid, q0]) (by simp only [q9C, FrSel, BlkSel, AV.ren, renL, AV.ok, okL, Option.some.injEq, exists_eq_left', List.length_cons, List.length_nil, Nat.reduceAdd, Nat.reduceLT, reduceCtorEq, implies_true, exists_eq', JTD, fo2, fo3, fr1, fr2, fid, q0])
      ·have st' : absR (xs, []) (ds.take (i + 1)) = (vl, dl ++ [d]) := by rw [hstep]; simp only [absD, if_neg g2, if_neg g3, ne_eq, g4, not_false_eq_true, or_true, if_true]
       refine ⟨(i + 1, true), inv true (by rw [st']; exact ⟨fun q => absurd q (hy rfl), fun q => by cases q⟩), by dsimp only; omega, ?_⟩
       simp only [st', bV, bB, gr, XlZ, zbl]
       exact Bt.selB hid [0, 4] hh (by simp only [q9C, FrSel, BlkSel, AV.ren, renL, AV.ok, okL, Option.some.injEq, exists_eq_left', List.length_cons, List.length_nil, Nat.reduceAdd, Nat.reduceLT, reduceCtorEq, implies_true, exists_eq', JTD, fo2, fo3, fr1, fr2, fid, q0]) (by decide) (by simp only [q9C, FrSel, BlkSel, AV.ren, renL, AV.ok, okL, Option.some.injEq, exists_eq_left', List.length_cons, List.length_nil, Nat.reduceAdd, Nat.reduceLT, reduceCtorEq, implies_true, exists_eq', JTD, fo2, fo3, fr1, fr2, fid, q0]) (by simp only [q9C, FrSel, BlkSel, AV.ren, renL, AV.ok, okL, Option.some.injEq, exists_eq_left', List.length_cons, List.length_nil, Nat.reduceAdd, Nat.reduceLT, reduceCtorEq, implies_true, exists_eq', JTD, fo2, fo3, fr1, fr2, fid, q0])
      ·have st' : absR (xs, []) (ds.take (i + 1)) = (vl, dl) := by rw [hstep]; simp only [absD, if_neg g2, if_neg g3, ne_eq, g0, g4, not_true_eq_false, false_or, if_false]
       refine ⟨(i + 1, true), inv true (by rw [st']; exact ⟨fun q => absurd q (hy rfl), fun q => by cases q⟩), by dsimp only; omega, ?_⟩
       simp only [st', bV, bB, gr, XlZ, zbl]
       exact Bt.selB hid [0, 1] hh (by simp only [q9C, FrSel, BlkSel, AV.ren, renL, AV.ok, okL, Option.some.injEq, exists_eq_left', List.length_cons, List.length_nil, Nat.reduceAdd, Nat.reduceLT, reduceCtorEq, implies_true, exists_eq', JTD, fo2, fo3, fr1, fr2, fid, q0]) (by decide) (by simp only [q9C, FrSel, BlkSel, AV.ren, renL, AV.ok, okL, Option.some.injEq, exists_eq_left', List.length_cons, List.length_nil, Nat.reduceAdd, Nat.reduceLT, reduceCtorEq, implies_true, exists_eq', JTD, fo2, fo3, fr1, fr2, fid, q0]) (by simp only [q9C, FrSel, BlkSel, AV.ren, renL, AV.ok, okL, Option.some.injEq, exists_eq_left', List.length_cons, List.length_nil, Nat.reduceAdd, Nat.reduceLT, reduceCtorEq, implies_true, exists_eq', JTD, fo2, fo3, fr1, fr2, fid, q0])
   ·have hi' : i = ds.length := by omega
    subst hi'
    rw [List.take_length] at hst
    rw [hst] at ee
    dsimp only at ee
    have hf1 : ∀ sel, Wk (v0.ren (selN h.length sel)) v0 := fun sel => Wk.ren (fun i hi => Xdk hi) ok.1
    have fo2 : ∀ c, v0.ok (fun i => decide (i < h.length + c)) = true := fun c => AV.ok_mono (fun i q => by simp only [decide_eq_true_eq] at q ⊢; omega) _ ok.1
    have fid : ∀ sel, selN h.length sel id = id := fun sel => Xdk hid
    have q0 : ∀ c, decide (id < h.length + c) = true := fun c => decide_eq_true (by omega)
    have aw : ∀ i, Wk (rsl dotR i dl) (apS dotR i dl) := fun i => J2U i dl
    have ao1 : AV.ok (fun i => decide (i < h.length + 1)) (apS dotR h.length dl) = true := ZrU _ _ _ (by simp)
    have ao2 : AV.ok (fun i => decide (i < h.length + 2)) (apS dotR (h.length + 1) dl) = true := ZrU _ _ _ (by simp)
    cases c with
    | false =>
     obtain rfl := hn rfl
     rw [if_pos rfl] at ee
     cases ee
     simp only [bV, bB]
     exact Bt.selB hid [1] hh (by simp only [q9C, FrSel, BlkSel, AV.ren, renL, AV.ok, okL, Option.some.injEq, exists_eq_left', List.length_cons, List.length_nil, Nat.reduceAdd, Nat.reduceLT, reduceCtorEq, implies_true, exists_eq', fo2, hf1, fid, q0, aw, ao1, ao2]) (by decide) (by simp only [q9C, FrSel, BlkSel, AV.ren, renL, AV.ok, okL, Option.some.injEq, exists_eq_left', List.length_cons, List.length_nil, Nat.reduceAdd, Nat.reduceLT, reduceCtorEq, implies_true, exists_eq', fo2, hf1, fid, q0, aw, bB, ao1, ao2]) (by simp only [q9C, FrSel, BlkSel, AV.ren, renL, AV.ok, okL, Option.some.injEq, exists_eq_left', List.length_cons, List.length_nil, Nat.reduceAdd, Nat.reduceLT, reduceCtorEq, implies_true, exists_eq', fo2, hf1, fid, q0, aw, ao1, ao2])
    | true =>
     rw [if_neg (hy rfl)] at ee
     cases ee
     simp only [bV, bB]
     exact Bt.selB hid [0, 1] hh (by simp only [q9C, FrSel, BlkSel, AV.ren, renL, AV.ok, okL, Option.some.injEq, exists_eq_left', List.length_cons, List.length_nil, Nat.reduceAdd, Nat.reduceLT, reduceCtorEq, implies_true, exists_eq', fo2, hf1, fid, q0, aw, ao1, ao2]) (by decide) (by simp only [q9C, FrSel, BlkSel, AV.ren, renL, AV.ok, okL, Option.some.injEq, exists_eq_left', List.length_cons, List.length_nil, Nat.reduceAdd, Nat.reduceLT, reduceCtorEq, implies_true, exists_eq', fo2, hf1, fid, q0, aw, ao1, ao2]) (by simp only [q9C, FrSel, BlkSel, AV.ren, renL, AV.ok, okL, Option.some.injEq, exists_eq_left', List.length_cons, List.length_nil, Nat.reduceAdd, Nat.reduceLT, reduceCtorEq, implies_true, exists_eq', fo2, hf1, fid, q0, aw, ao1, ao2])
  ·cases e
 ·cases e
end Go.Proofs.YtfaccliekejngaaGreat
end
section
namespace Go.Proofs.YtfaccliekejngaaGreat
set_option maxRecDepth 100000
theorem XPS : Spec Tryz.prog 114 Jb1 := by
 intro args h v h' e
 unfold Jb1 at e
 split at e
 ·rename_i v d v' d'
  obtain ⟨xs, hv, e⟩ := YI8 e
  obtain ⟨ds, hd, e⟩ := YI8 e
  obtain ⟨xs', hv', e⟩ := YI8 e
  obtain ⟨ds', hd', e⟩ := YI8 e
  cases e
  refine FnAt.c (FnAt.frz0 fun hz => ?_)
  replace hv := hv.frz
  replace hd := hd.frz
  replace hv' := hv'.frz
  replace hd' := hd'.frz
  generalize h.map AB.freeze = h at *
  refine FnAt.run (by kernel_rfl) (T := ⟨[], []⟩) ⟨trivial, trivial⟩ Tryz.func114 Qhf fun ho hh => ?_
  simp only [qMC, JAX, Bool.and_eq_true] at ho
  have f1 := hv.fx ho.1.1 (sz := 1) rfl
  have f2 := hd.fx ho.1.2.1 (sz := 2) rfl
  have f3 := hv'.fx ho.2.1.1 (sz := 1) rfl
  have f4 := hd'.fx ho.2.1.2.1 (sz := 2) rfl
  have m1 := hv.2
  have m2 := hd.2
  unfold maxLen at m1 m2
  unfold w114
  simp only [XH8, QN9, X1r, zVq, simprocAttr, f1, f2, f3, f4]
  refine ⟨fun g1 => Bt.dropB _ hh ?_, fun g1 => ⟨fun g2 => Bt.dropB _ hh ?_, fun g2 => ?_⟩⟩
  ·rw [decide_eq_false (p := xs = xs' ∧ ds = ds') fun q => g1 (congrArg List.length q.1)]
  ·rw [decide_eq_false (p := xs = xs' ∧ ds = ds') fun q => g2 (congrArg List.length q.2)]
  have l1 : xs.length = xs'.length := by omega
  have l2 : ds.length = ds'.length := by omega
  refine YMr (S := Nat) (fun i => xs.length - i) (fun i => tp 2 ++ [.p (h.length + 0) 0, .p (h.length + 1) 0] ++ tp 1 ++ [.i .i64 i] ++ tp 53) (fun i => i ≤ xs.length ∧ xs.take i = xs'.take i) 0 ⟨Nat.zero_le _, rfl⟩ (by simp only [X1r, zVq, simprocAttr]) fun i hi => ?_
  simp only [X1r, zVq, simprocAttr, f1, f2, f3, f4]
  refine ⟨fun g3 => ?_, fun g3 => ?_⟩
  ·have h3 : i < xs'.length := by omega
   have e1 : IntKind.i64.wrap ((i : Int) + 1) = ((i + 1 : Nat) : Int) := ZL4 (by unfold In64; omega)
   have e2 := qGK intR.d g3 h3 hi.2
   simp only [X1r, Z1D, zVq, simprocAttr, CO.tmps, Opd.tmps, optT, Nat.reducePow, Nat.reduceDiv, Nat.reduceMod, f1, f2, f3, f4, g3, h3, JEE, Nat.zero_lt_one, e1, QZp hz, QNE hh]
   refine ⟨fun g4 => Bt.dropB _ hh ?_, fun g4 => ⟨i + 1, ⟨g3, e2.2 (Decidable.not_not.1 g4)⟩, by omega, Wk.refl _⟩⟩
   rw [decide_eq_false (p := xs = xs' ∧ ds = ds') fun q => g4 (e2.1 (by rw [q.1]))]
  ·have hxx : xs = xs' := by have := hi.2; rwa [List.take_of_length_le (by omega), List.take_of_length_le (by omega)] at this
   subst hxx
   refine YMr (S := Nat) (fun i => ds.length - i) (fun i => tp 2 ++ [.p (h.length + 0) 0, .p (h.length + 1) 0] ++ tp 2 ++ [.i .i64 i] ++ tp 52) (fun i => i ≤ ds.length ∧ ds.take i = ds'.take i) 0 ⟨Nat.zero_le _, rfl⟩ (by simp only [X1r, zVq, simprocAttr]) fun j hj => ?_
   simp only [X1r, zVq, simprocAttr, f1, f2, f3, f4]
   refine ⟨fun g5 => ?_, fun g5 => ?_⟩
   ·have h3 : j < ds'.length := by omega
    have e1 : IntKind.i64.wrap ((j : Int) + 1) = ((j + 1 : Nat) : Int) := ZL4 (by unfold In64; omega)
    have e2 := qGK dotR.d g5 h3 hj.2
    simp only [X1r, Z1D, zVq, simprocAttr, CO.tmps, Opd.tmps, optT, Nat.reducePow, Nat.reduceDiv, Nat.reduceMod, f1, f2, f3, f4, g5, h3, KdD, eqc2, e1, QZp hz, QNE hh]
    refine ⟨fun g4 => Bt.dropB _ hh ?_, fun g4 => ⟨j + 1, ⟨g5, e2.2 (Decidable.not_not.1 g4)⟩, by omega, Wk.refl _⟩⟩
    rw [decide_eq_false (p := ds = ds') fun q => g4 (e2.1 (by rw [q]))]
   ·have hdd : ds = ds' := by have := hj.2; rwa [List.take_of_length_le (by omega), List.take_of_length_le (by omega)] at this
    subst hdd
    exact Bt.dropB _ hh (by simp)
 ·cases e
end Go.Proofs.YtfaccliekejngaaGreat
end
section
namespace Go.Proofs.YtfaccliekejngaaGreat
set_option maxRecDepth 100000
set_option maxHeartbeats 4000000
def Jqd : Dots → Int × Int → Nat
 | [], _ => 0
 | x :: l, d => if ZwT x d then Jqd l d + 1 else 0
theorem Z47 : ∀ (l : Dots) (d : Int × Int), Jqd l d ≤ l.length
 | [], _ => Nat.zero_le _
 | x :: l, d => by
  have := Z47 l d
  unfold Jqd
  show _ ≤ l.length + 1
  split <;> omega
theorem YgH : ∀ (l : Dots) (d y : Int × Int) (i : Nat), i ≤ Jqd l d → i < l.length → (ZwT (l.getD i y) d ↔ i + 1 ≤ Jqd l d)
 | [], _, _, _, _, h => absurd h (Nat.not_lt_zero _)
 | x :: l, d, y, 0, _, _ => by
  unfold Jqd
  simp only [List.getD_cons_zero]
  split <;> simp_all
 | x :: l, d, y, i + 1, h1, h2 => by
  unfold Jqd at h1 ⊢
  simp only [List.getD_cons_succ]
  split
  ·rename_i h
   rw [if_pos h] at h1
   have := YgH l d y i (by omega) (Nat.lt_of_succ_lt_succ h2)
   rw [this]
   omega
  ·rename_i h
   rw [if_neg h] at h1
   omega
def Qql (l : Dots) (d : Int × Int) : Dots := l.take (Jqd l d) ++ d :: l.drop (Jqd l d)
def YvK (l : Dots) (d : Int × Int) : Prop := Jqd l d < l.length ∧ l.getD (Jqd l d) dotR.d = d
instance (l : Dots) (d : Int × Int) : Decidable (YvK l d) := by unfold YvK; infer_instance
theorem Xco : (1 ≤ maxLen) = True := eq_true (by unfold maxLen; omega)
noncomputable def Kki : List AV → List AB → Option (AV × List AB)
 | [s, .ag [.i .i64 a, .i .i64 b]], h => (getS dotR h s).bind fun l => if s.capOk = true ∧ l.length ≤ 1000000 then (if YvK l (a, b) then some (s, h) else some (rsl dotR h.length (Qql l (a, b)), h ++ [resB dotR true (Qql l (a, b))])) else none
 | _, _ => none
theorem K9j : Spec Tryz.prog 145 Kki := by
 intro args h v h' e
 unfold Kki at e
 split at e
 ·rename_i s a b
  obtain ⟨l, hs, e⟩ := YI8 e
  split at e
  ·rename_i hc
   obtain ⟨hc, hl⟩ := hc
   by_cases hin : YvK l (a, b)
   ·rw [if_pos hin] at e
    cases e
    refine FnAt.c (FnAt.frz0 fun hz => ?_)
    replace hs := hs.frz
    generalize h.map AB.freeze = h at *
    refine FnAt.run (by kernel_rfl) (T := ⟨[⟨170, JoE, fun _ => []⟩], []⟩) ⟨⟨Yk5, trivial⟩, trivial⟩ Tryz.func145 Qt3 fun ho hh => ?_
    simp only [qMC, Bool.and_eq_true] at ho
    have f1 := hs.fx ho.1 (sz := 2) rfl
    unfold w145
    simp only [XH8, QN9, X1r, zVq, simprocAttr, f1]
    refine YMr (S := Nat) (fun i => l.length - i) (fun i => [v] ++ tp 2 ++ [.p (h.length + 0) 0] ++ tp 1 ++ [.i .i64 i] ++ tp 41) (fun i => i ≤ Jqd l (a, b)) 0 (Nat.zero_le _) (by simp only [X1r, zVq, simprocAttr]) fun i hi => ?_
    by_cases g1 : i < l.length
    ·have g2 := YgH l (a, b) dotR.d i hi g1
     have e1 : IntKind.i64.wrap ((i : Int) + 1) = ((i + 1 : Nat) : Int) := ZL4 (by unfold In64; omega)
     have eq2 : ∀ w : Int × Int, XWq [.i, .i] [.i .i64 w.1, .i .i64 w.2] [.i .i64 a, .i .i64 b] = some (decide (w = (a, b))) := fun w => eqc2 w (a, b)
     simp only [X1r, Z1D, zVq, simprocAttr, CO.tmps, Opd.tmps, optT, Nat.reducePow, Nat.reduceDiv, Nat.reduceMod, f1, g1, KdD, e1, eq2, ZIt, JoE, QZp hz, QNE hh]
     refine ⟨fun g3 => ⟨i + 1, g2.1 g3, by omega, Wk.refl _⟩, fun g3 => ?_⟩
     have hi2 : i = Jqd l (a, b) := by have := mt g2.2 g3; omega
     refine ⟨fun g4 => ?_, fun g4 => absurd (by rw [hi2]; exact hin.2) g4⟩
     exact Bt.drop _ hh rfl ho.1
    ·exact absurd hin.1 (by omega)
   ·rw [if_neg hin] at e
    cases e
    refine FnAt.c (FnAt.frz fun hz => ?_)
    rw [show h.length = (h.map AB.freeze).length from (List.length_map _).symm]
    replace hs := hs.frz
    generalize h.map AB.freeze = h at *
    refine FnAt.run (by kernel_rfl) (T := ⟨[⟨170, JoE, fun _ => []⟩], []⟩) ⟨⟨Yk5, trivial⟩, trivial⟩ Tryz.func145 Qt3 fun ho hh => ?_
    simp only [qMC, Bool.and_eq_true] at ho
    have f1 := hs.fx ho.1 (sz := 2) rfl
    unfold w145
    simp only [XH8, QN9, X1r, zVq, simprocAttr, f1]
    refine YMr (S := Nat) (fun i => l.length - i) (fun i => [s] ++ tp 2 ++ [.p (h.length + 0) 0] ++ tp 1 ++ [.i .i64 i] ++ tp 41) (fun i => i ≤ Jqd l (a, b)) 0 (Nat.zero_le _) (by simp only [X1r, zVq, simprocAttr]) fun i hi => ?_
    by_cases g1 : i < l.length
    ·have g2 := YgH l (a, b) dotR.d i hi g1
     have e1 : IntKind.i64.wrap ((i : Int) + 1) = ((i + 1 : Nat) : Int) := ZL4 (by unfold In64; omega)
     have eq2 : ∀ w : Int × Int, XWq [.i, .i] [.i .i64 w.1, .i .i64 w.2] [.i .i64 a, .i .i64 b] = some (decide (w = (a, b))) := fun w => eqc2 w (a, b)
     obtain ⟨s1, p1, p2, p3⟩ := hs.takeS hc (show i ≤ l.length from by omega) (sz := 2) rfl
     obtain ⟨s2, q1, q2, q3⟩ := hs.dropS hc (show i ≤ l.length from by omega) (sz := 2) rfl
     have t1 := p2.fx (p3 _ ho.1) (sz := 2) rfl
     have t2 := q2.fx (q3 _ ho.1) (sz := 2) rfl
     have u1 := p2.src (sz := 2) rfl
     have u2 := q2.src (sz := 2) rfl
     simp only [X1r, Z1D, zVq, simprocAttr, CO.tmps, Opd.tmps, optT, Nat.reducePow, Nat.reduceDiv, Nat.reduceMod, f1, g1, KdD, e1, eq2, ZIt, JoE, QZp hz, QNE hh, p1, q1, t1, t2, u1, u2]
     refine ⟨fun g3 => ⟨i + 1, g2.1 g3, by omega, Wk.refl _⟩, fun g3 => ?_⟩
     have hi2 : i = Jqd l (a, b) := by have := mt g2.2 g3; omega
     refine ⟨fun g4 => absurd ⟨hi2 ▸ g1, by rw [← hi2]; exact g4⟩ hin, fun g4 => ?_⟩
     have tl : (l.take i).length = i := by rw [List.length_take]; omega
     have td : (l.drop i).length = l.length - i := List.length_drop
     have tc : (dotR.cells (l.take i)).length = i * 2 := by rw [dotR.cells_len, tl]; rfl
     have tc2 : (dotR.cells (l.take i) ++ [AV.i .i64 a, AV.i .i64 b]).length = (i + 1) * 2 := by rw [List.length_append, tc]; show i * 2 + 2 = _; omega
     have tc3 : (i * 2 + 2 = (i + 1) * 2) = True := eq_true (by omega)
     have b1 : (i * 16 ≤ 140737488355328 ∧ i ≤ maxLen) = True := eq_true ⟨by omega, by unfold maxLen; omega⟩
     have b2 : ((i + 1) * 16 ≤ 140737488355328) = True := eq_true (by omega)
     have b3 : (i + 1 ≤ maxLen) = True := eq_true (by unfold maxLen; omega)
     have b4 : ((i + (1 + (l.length - i))) * 16 ≤ 140737488355328) = True := eq_true (by omega)
     have b5 : (i + (1 + (l.length - i)) ≤ maxLen) = True := eq_true (by unfold maxLen; omega)
     have ll : (Qql l (a, b)).length = l.length + 1 := by unfold Qql; rw [← hi2, List.length_append, List.length_cons, tl, td]; omega
     have lc : dotR.cells (Qql l (a, b)) = dotR.cells (l.take i) ++ AV.i .i64 a :: AV.i .i64 b :: dotR.cells (l.drop i) := by unfold Qql; rw [← hi2]; simp [Row.cells, dotR]
     have b6 : ((1 + (l.length - i)) * 16 ≤ 140737488355328) = True := eq_true (by omega)
     have b7 : (1 + (l.length - i) ≤ maxLen) = True := eq_true (by unfold maxLen; omega)
     have td1 : (l.length - i = 0) = False := eq_false (by omega)
     by_cases i0 : i = 0
     ·have i1 : (i = 0) = True := eq_true i0
      simp only [X1r, Z1D, zVq, simprocAttr, CO.tmps, Opd.tmps, optT, Nat.reducePow, Nat.reduceDiv, Nat.reduceMod, KrC, ne_eq, Xc9, qdZ, KYW, qJ3, tc, tc2, tc3, i1, tl, td, td1, b1, b2, b3, b4, b5, b6, b7, u1, u2, f1, q1, t1, t2, Xco, QZp hz, QNE hh]
      refine Bt.one 4 hh (fun q => absurd q (by omega)) (by simp) (fun _ => ⟨by rw [ll]; exact by rw [show l.length + 1 = 1 + (l.length - i) from by omega]; rfl, ?_⟩)
      rw [lc, show l.take i = [] from by rw [i0]; rfl]
      rfl
     ·have i1 : (i = 0) = False := eq_false i0
      simp only [X1r, Z1D, zVq, simprocAttr, CO.tmps, Opd.tmps, optT, Nat.reducePow, Nat.reduceDiv, Nat.reduceMod, KrC, ne_eq, Xc9, qdZ, KYW, qJ3, tc, tc2, tc3, i1, tl, td, td1, b1, b2, b3, b4, b5, b6, b7, u1, u2, f1, q1, t1, t2, QZp hz, QNE hh]
      refine Bt.one 5 hh (fun q => absurd q (by omega)) (by simp) (fun _ => ⟨by rw [ll]; exact by rw [show l.length + 1 = i + (1 + (l.length - i)) from by omega]; rfl, ?_⟩)
      rw [lc, List.append_assoc]
      rfl
    ·have hi2 : i = Jqd l (a, b) := by have := Z47 l (a, b); omega
     have hile : i ≤ l.length := hi2 ▸ Z47 l (a, b)
     have g1' : (i < l.length) = False := eq_false g1
     have e1 : IntKind.i64.wrap ((i : Int) + 1) = ((i + 1 : Nat) : Int) := ZL4 (by unfold In64; omega)
     have eq2 : ∀ w : Int × Int, XWq [.i, .i] [.i .i64 w.1, .i .i64 w.2] [.i .i64 a, .i .i64 b] = some (decide (w = (a, b))) := fun w => eqc2 w (a, b)
     obtain ⟨s1, p1, p2, p3⟩ := hs.takeS hc (show i ≤ l.length from by omega) (sz := 2) rfl
     obtain ⟨s2, q1, q2, q3⟩ := hs.dropS hc (show i ≤ l.length from by omega) (sz := 2) rfl
     have t1 := p2.fx (p3 _ ho.1) (sz := 2) rfl
     have t2 := q2.fx (q3 _ ho.1) (sz := 2) rfl
     have u1 := p2.src (sz := 2) rfl
     have u2 := q2.src (sz := 2) rfl
     have tl : (l.take i).length = i := by rw [List.length_take]; omega
     have td : (l.drop i).length = l.length - i := List.length_drop
     have tc : (dotR.cells (l.take i)).length = i * 2 := by rw [dotR.cells_len, tl]; rfl
     have tc2 : (dotR.cells (l.take i) ++ [AV.i .i64 a, AV.i .i64 b]).length = (i + 1) * 2 := by rw [List.length_append, tc]; show i * 2 + 2 = _; omega
     have tc3 : (i * 2 + 2 = (i + 1) * 2) = True := eq_true (by omega)
     have b1 : (i * 16 ≤ 140737488355328 ∧ i ≤ maxLen) = True := eq_true ⟨by omega, by unfold maxLen; omega⟩
     have b2 : ((i + 1) * 16 ≤ 140737488355328) = True := eq_true (by omega)
     have b3 : (i + 1 ≤ maxLen) = True := eq_true (by unfold maxLen; omega)
     have b4 : ((i + (1 + (l.length - i))) * 16 ≤ 140737488355328) = True := eq_true (by omega)
     have b5 : (i + (1 + (l.length - i)) ≤ maxLen) = True := eq_true (by unfold maxLen; omega)
     have ll : (Qql l (a, b)).length = l.length + 1 := by unfold Qql; rw [← hi2, List.length_append, List.length_cons, tl, td]; omega
     have lc : dotR.cells (Qql l (a, b)) = dotR.cells (l.take i) ++ AV.i .i64 a :: AV.i .i64 b :: dotR.cells (l.drop i) := by unfold Qql; rw [← hi2]; simp [Row.cells, dotR]
     have b6 : ((1 + (l.length - i)) * 16 ≤ 140737488355328) = True := eq_true (by omega)
     have b7 : (1 + (l.length - i) ≤ maxLen) = True := eq_true (by unfold maxLen; omega)
     have td1 : l.length - i = 0 := by omega
     have dn : l.drop i = [] := List.drop_eq_nil_of_le (by omega)
     by_cases i0 : i = 0
     ·have i1 : (i = 0) = True := eq_true i0
      simp only [X1r, Z1D, zVq, simprocAttr, CO.tmps, Opd.tmps, optT, Nat.reducePow, Nat.reduceDiv, Nat.reduceMod, g1', f1, p1, KrC, zHp, ne_eq, Xc9, qdZ, KYW, qJ3, tc, tc2, tc3, i1, tl, td, td1, b1, b2, b3, u1, u2, q1, t1, t2, Xco, QZp hz, QNE hh]
      refine Bt.one 3 hh (fun q => absurd q (by omega)) (by simp) (fun _ => ⟨by rw [ll, show l.length + 1 = 1 from by omega]; rfl, ?_⟩)
      rw [lc, dn, show l.take i = [] from by rw [i0]; rfl]
      rfl
     ·have i1 : (i = 0) = False := eq_false i0
      simp only [X1r, Z1D, zVq, simprocAttr, CO.tmps, Opd.tmps, optT, Nat.reducePow, Nat.reduceDiv, Nat.reduceMod, g1', f1, p1, KrC, zHp, ne_eq, Xc9, qdZ, KYW, qJ3, tc, tc2, tc3, i1, tl, td, td1, b1, b2, b3, u1, u2, q1, t1, t2, Xco, QZp hz, QNE hh]
      refine Bt.one 4 hh (fun q => absurd q (by omega)) (by simp) (fun _ => ⟨by rw [ll, show l.length + 1 = i + 1 from by omega]; rfl, ?_⟩)
      rw [lc, dn]
      rfl
  ·cases e
 ·cases e
end Go.Proofs.YtfaccliekejngaaGreat
end
