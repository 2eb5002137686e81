/- Part 16 of what the laws' proofs rest on. No condition. -/
import Derived.Test.YtfaccliekejngaaGreatOo15
set_option linter.all false
section
namespace Go.Proofs.YtfaccliekejngaaGreat
set_option maxRecDepth 100000
set_option maxHeartbeats 4000000
def bV (v0 : AV) (p : Nat) (v : List Int) : Bool → AV
 | true => rsl intR (p + 0) v
 | false => v0
def bB (v : List Int) : Bool → AB
 | true => resB intR true v
 | false => .dead
def AV.isNs : AV → Bool
 | .ns => true
 | _ => false
noncomputable def Z5V : List AV → List AB → Option (AV × List AB)
 | [.p id 0, s], h => (YU6 h id).bind fun x => (getS intR h x.1).bind fun xs => (getS dotR h s).bind fun ds =>
   if x.2.isNs = true ∧ xs.length ≤ 100000 ∧ ds.length ≤ 100000 ∧ (∀ n ∈ xs, n ≤ 1048576) ∧ ∀ d ∈ ds, KG5 d then
    if (absR (xs, []) ds).1 = xs then some (.p id 0, bx2 h id x.1 (apS dotR h.length (absR (xs, []) ds).2) ++ [resB dotR true (absR (xs, []) ds).2])
    else some (.p id 0, bx2 h id (rsl intR h.length (absR (xs, []) ds).1) (apS dotR (h.length + 1) (absR (xs, []) ds).2) ++ [resB intR true (absR (xs, []) ds).1, resB dotR true (absR (xs, []) ds).2])
   else none
 | _, _ => none
theorem qfs (xs : List Int) (h : ∀ n ∈ xs, n ≤ 1048576) (r : Int) : vAt xs r ≤ 1048576 := by
 by_cases ho : r < 1 ∨ (xs.length : Int) < r
 ·rw [J4U _ _ ho]; omega
 ·obtain ⟨k, rfl⟩ : ∃ k : Nat, r = ((k + 1 : Nat) : Int) := ⟨(r - 1).toNat, by omega⟩
  have hk : k < xs.length := by omega
  rw [YAu _ k hk, List.getD_eq_getElem?_getD, List.getElem?_eq_getElem hk]
  have := h _ (List.getElem_mem hk)
  simp only [Option.getD_some]
  omega
theorem ZyL (s : AbS) {d : Int × Int} (hd : KG5 d) (h : ∀ r, vAt s.1 r ≤ 1048576) (r : Int) : vAt (absD s d).1 r ≤ 1048576 := by
 unfold absD
 split
 ·exact h r
 ·split
  ·rename_i h1 h2
   rw [YXx s.1 hd (by omega)]
   have := hd.2.2.2
   split
   ·omega
   ·exact h r
  ·split <;> exact h r
theorem Jjy {xs vl : List Int} {d : Int × Int} (hd : KG5 d) (hn : vAt vl d.1 < d.2) (hge : vAt xs d.1 ≤ vAt vl d.1) : YpI vl d ≠ xs := by
 rintro rfl
 rw [YXx vl hd hn, if_pos rfl] at hge
 omega
structure DotsInv (xs : List Int) (ds : Dots) (i : Nat) (c : Bool) : Prop where
 le : i ≤ ds.length
 no : c = false → (absR (xs, []) (ds.take i)).1 = xs
 yes : c = true → (absR (xs, []) (ds.take i)).1 ≠ xs
 ge : ∀ r, vAt xs r ≤ vAt (absR (xs, []) (ds.take i)).1 r
 bd : ∀ r, vAt (absR (xs, []) (ds.take i)).1 r ≤ 1048576
 l1 : (absR (xs, []) (ds.take i)).1.length ≤ max xs.length 16
 l2 : (absR (xs, []) (ds.take i)).2.length ≤ i
theorem Xxp : Spec Tryz.prog 102 Z5V := by
 intro args h v h' e
 unfold Z5V at e
 split at e
 ·rename_i id s
  obtain ⟨⟨v0, d0⟩, hx, e⟩ := Option.bind_eq_some_iff.1 e
  obtain ⟨hb, hv, hd⟩ := YYh hx
  obtain ⟨xs, h1, e⟩ := YI8 e
  obtain ⟨ds, h2, e⟩ := YI8 e
  dsimp only at *
  split at e
  ·rename_i hc
   have ee := e
   obtain ⟨hns, hl1, hl2, hbd0, hdd⟩ := hc
   obtain rfl : d0 = .ns := by cases d0 <;> first | rfl | cases hns
   refine FnAt.c (FnAt.run (by kernel_rfl) (T := ⟨[⟨96, T_At, fun _ => []⟩, ⟨140, zbq, fun _ => []⟩], []⟩) ⟨⟨QYv, XZT, trivial⟩, trivial⟩ Tryz.func102 z7q fun ho hh => ?_)
   simp only [qMC, Bool.and_eq_true] at ho
   have hid := (List.getElem?_eq_some_iff.1 hb).1
   have fb := zVe hid
   have hidz : id < (h.map AB.freeze).length := by rw [List.length_map]; exact hid
   have fz := zVe hidz
   simp only [List.length_map] at fz
   have ok := qGB hh hb
   have fs := h2.fx ho.2.1 (sz := 2) rfl
   have e0 : h ++ [] = bx2 h id v0 .ns ++ [] := by rw [qvZ hb]
   rw [e0]
   unfold w102
   simp only [XH8, QN9, X1r, Y9j, simprocAttr, fs]
   have inv0 : DotsInv xs ds 0 false := ⟨Nat.zero_le _, fun _ => rfl, fun h => (by cases h), fun r => Int.le_refl _, qfs xs hbd0, Nat.le_max_left _ _, Nat.le_refl _⟩
   refine YHj (S := Nat × Bool) (fun x => ds.length - x.1) (fun x => [.p id 0] ++ tp 8 ++ [s, .i .i64 ds.length, .i .i64 x.1] ++ tp 68)
    (fun x => bx2 h id (bV v0 h.length (absR (xs, []) (ds.take x.1)).1 x.2) (apS dotR (h.length + 1) (absR (xs, []) (ds.take x.1)).2) ++ [bB (absR (xs, []) (ds.take x.1)).1 x.2, resB dotR true (absR (xs, []) (ds.take x.1)).2])
    (fun x => DotsInv xs ds x.1 x.2) (0, false) inv0 ?_ fun x hx => ?_
   ·have e : (bx2 h id v0 .ns ++ []) ++ List.replicate 2 AB.dead = bx2 h id v0 .ns ++ [.dead, .dead] := by rw [List.append_nil]; rfl
    show Bt _ _ _ _ _ (bx2 h id v0 .ns ++ [.dead, .dead])
    rw [← e]
    refine Bt.trans (Bt.wk ?_) (Bt.pad _ _ 2)
    simp only [X1r, zVq, simprocAttr]
   obtain ⟨i, c⟩ := x
   have hi := hx.le
   dsimp only at hi ⊢
   generalize hst : absR (xs, []) (ds.take i) = st at *
   obtain ⟨vl, dl⟩ := st
   have hy := hx.yes
   have hn := hx.no
   have hge := hx.ge
   have hbd := hx.bd
   have hll := hx.l1
   have hl3 := hx.l2
   rw [hst] at hy hn hge hbd hll hl3
   dsimp only at *
   simp only [X1r, Y9j, simprocAttr, fs]
   refine ⟨fun g1 => ?_, fun g1 => ?_⟩
   ·have hstep := Q8q (xs, []) g1
    rw [hst] at hstep
    generalize hdi : ds.getD i dotR.d = d at hstep
    have hdm : KG5 d := hdd d (by rw [← hdi, List.getD_eq_getElem?_getD, List.getElem?_eq_getElem g1]; exact List.getElem_mem g1)
    have e1 : IntKind.i64.wrap ((i : Int) + 1) = ((i + 1 : Nat) : Int) := ZL4 (by unfold In64; omega)
    have e2 : IntKind.i64.wrap (vAt vl d.1 + 1) = vAt vl d.1 + 1 := ZL4 (by have := hbd d.1; have := KJL vl d.1; unfold In64; omega)
    have o1 := ok.1
    have fo : ∀ c lo hi anc past, v0.ok (qOk (h.length + c) lo hi anc past) = true := fun c lo hi anc past => AV.ok_mono (fun i q => X5H (by simp only [decide_eq_true_eq] at q; omega)) _ o1
    have fo2 : ∀ c, v0.ok (fun i => decide (i < h.length + c)) = true := fun c => AV.ok_mono (fun i q => by simp only [decide_eq_true_eq] at q ⊢; omega) _ o1
    have fo3 : ∀ c, s.ok (fun i => decide (i < h.length + c)) = true := fun c => AV.ok_mono (fun i q => by simp only [decide_eq_true_eq] at q ⊢; omega) _ ho.2.1
    have fr1 : ∀ sel, Wk (v0.ren (selN h.length sel)) v0 := fun sel => Wk.ren (fun i hi => Xdk hi) o1
    have fr2 : ∀ sel, Wk (s.ren (selN h.length sel)) s := fun sel => Wk.ren (fun i hi => Xdk hi) ho.2.1
    have fid : ∀ sel, selN h.length sel id = id := fun sel => Xdk hid
    have q0 : ∀ c, decide (id < h.length + c) = true := fun c => decide_eq_true (by omega)
    have inv : ∀ c', ((absR (xs, []) (ds.take (i + 1))).1 = xs ↔ c' = false) → DotsInv xs ds (i + 1) c' := fun c' hc' => by
     have a1 := Xua (vl, dl) hdm
     have a2 := ZyL (vl, dl) hdm hbd
     have a3 := QJC (vl, dl) d
     rw [← hstep] at a1 a2 a3
     exact ⟨g1, fun q => hc'.2 q, fun q z => (by rw [hc'.1 z] at q; cases q), fun r => Int.le_trans (hge r) (a1 r), a2, by dsimp only at a3; omega, by dsimp only at a3; omega⟩
    have wl : ∀ x : List Int, x.length ≤ 100016 → (x.length ≤ 1000000) = True := fun x hx => eq_true (by omega)
    have vll := wl vl (by omega)
    by_cases g0 : dl.length = 0
    ·obtain rfl := List.length_eq_zero_iff.1 g0
     cases c with
     | false =>
      obtain rfl := hn rfl
      have f1 := (h1.bx2 hb hv hd ZhR v0 .ns).fxB (sz := 1) rfl
      have f2 := (h2.bx2 hb hv hd Zfh v0 .ns).fxB (sz := 2) rfl
      simp only [ZLN, bV, bB, X1r, Z1D, Y9j, simprocAttr, CO.tmps, Opd.tmps, optT, Nat.reducePow, Nat.reduceDiv, Nat.reduceMod, fb, fz, f1, f2, fs, g1, hdi, KdD, T_At, zbq, fo, fo2, X24 hid hh, q0z, Qy1 rfl hid, JAm hid, zl8 hidz, XEs, QVR, List.length_map, e1, e2, vll, Qwl hv]
      refine ⟨fun g2 => ?_, fun g2 => ⟨fun g3 => ?_, fun g3 => ⟨by decide, ?_⟩⟩⟩
      ·have st' : absR (vl, []) (ds.take (i + 1)) = (vl, []) := by rw [hstep]; simp only [absD, if_pos g2]
       refine ⟨(i + 1, false), inv false (by rw [st']; exact ⟨fun _ => rfl, fun _ => rfl⟩), by dsimp only; omega, ?_⟩
       simp only [st', bV, bB]
       exact Bt.selB hid [0, 1] hh (by simp only [q9C, FrSel, BlkSel, AV.ren, renL, AV.ok, okL, Option.some.injEq, exists_eq_left', List.length_cons, List.length_nil, Nat.reduceAdd, Nat.reduceLT, reduceCtorEq, implies_true, exists_eq', fo2, fo3, fr1, fr2, fid, q0]) (by decide) (by simp only [q9C, FrSel, BlkSel, AV.ren, renL, AV.ok, okL, Option.some.injEq, exists_eq_left', List.length_cons, List.length_nil, Nat.reduceAdd, Nat.reduceLT, reduceCtorEq, implies_true, exists_eq', fo2, fo3, fr1, fr2, fid, q0]) (by simp only [q9C, FrSel, BlkSel, AV.ren, renL, AV.ok, okL, Option.some.injEq, exists_eq_left', List.length_cons, List.length_nil, Nat.reduceAdd, Nat.reduceLT, reduceCtorEq, implies_true, exists_eq', fo2, fo3, fr1, fr2, fid, q0])
      ·have st' : absR (vl, []) (ds.take (i + 1)) = (YpI vl d, []) := by rw [hstep]; simp only [absD, if_neg g2, if_pos g3]
       refine ⟨(i + 1, true), inv true (by rw [st']; exact ⟨fun q => absurd q (Jjy hdm (by omega) (hge d.1)), fun q => by cases q⟩), by dsimp only; omega, ?_⟩
       simp only [st', bV, bB]
       exact Bt.selB hid [3, 1] hh (by simp only [q9C, FrSel, BlkSel, AV.ren, renL, AV.ok, okL, Option.some.injEq, exists_eq_left', List.length_cons, List.length_nil, Nat.reduceAdd, Nat.reduceLT, reduceCtorEq, implies_true, exists_eq', fo2, fo3, fr1, fr2, fid, q0]) (by decide) (by simp only [q9C, FrSel, BlkSel, AV.ren, renL, AV.ok, okL, Option.some.injEq, exists_eq_left', List.length_cons, List.length_nil, Nat.reduceAdd, Nat.reduceLT, reduceCtorEq, implies_true, exists_eq', fo2, fo3, fr1, fr2, fid, q0]) (by simp only [q9C, FrSel, BlkSel, AV.ren, renL, AV.ok, okL, Option.some.injEq, exists_eq_left', List.length_cons, List.length_nil, Nat.reduceAdd, Nat.reduceLT, reduceCtorEq, implies_true, exists_eq', fo2, fo3, fr1, fr2, fid, q0])
      ·have st' : absR (vl, []) (ds.take (i + 1)) = (vl, [d]) := by rw [hstep]; simp only [absD, if_neg g2, if_neg g3, List.length_nil, true_or, if_true, List.nil_append]
       refine ⟨(i + 1, false), inv false (by rw [st']; exact ⟨fun _ => rfl, fun _ => rfl⟩), by dsimp only; omega, ?_⟩
       simp only [st', bV, bB]
       exact Bt.selB hid [0, 4] hh (by simp only [q9C, FrSel, BlkSel, AV.ren, renL, AV.ok, okL, Option.some.injEq, exists_eq_left', List.length_cons, List.length_nil, Nat.reduceAdd, Nat.reduceLT, reduceCtorEq, implies_true, exists_eq', fo2, fo3, fr1, fr2, fid, q0]) (by decide) (by simp only [q9C, FrSel, BlkSel, AV.ren, renL, AV.ok, okL, Option.some.injEq, exists_eq_left', List.length_cons, List.length_nil, Nat.reduceAdd, Nat.reduceLT, reduceCtorEq, implies_true, exists_eq', fo2, fo3, fr1, fr2, fid, q0]) (by simp only [q9C, FrSel, BlkSel, AV.ren, renL, AV.ok, okL, Option.some.injEq, exists_eq_left', List.length_cons, List.length_nil, Nat.reduceAdd, Nat.reduceLT, reduceCtorEq, implies_true, exists_eq', fo2, fo3, fr1, fr2, fid, q0])
     | true =>
      have f2 := (h2.bx2 hb hv hd Zfh (rsl intR (h.length + 0) vl) .ns).fxB (sz := 2) rfl
      have hm : vl.length ≤ maxLen := by unfold maxLen; omega
      simp only [ZLN, hm, bV, bB, X1r, Z1D, Y9j, simprocAttr, CO.tmps, Opd.tmps, optT, Nat.reducePow, Nat.reduceDiv, Nat.reduceMod, fb, fz, f2, fs, g1, hdi, KdD, T_At, zbq, fo, fo2, X24 hid hh, q0z, Qy1 rfl hid, JAm hid, zl8 hidz, XEs, QVR, List.length_map, e1, e2, vll, Qwl hv]
      refine ⟨fun g2 => ?_, fun g2 => ⟨fun g3 => ?_, fun g3 => ⟨by decide, ?_⟩⟩⟩
      ·have st' : absR (xs, []) (ds.take (i + 1)) = (vl, []) := by rw [hstep]; simp only [absD, if_pos g2]
       refine ⟨(i + 1, true), inv true (by rw [st']; exact ⟨fun q => absurd q (hy rfl), fun q => by cases q⟩), by dsimp only; omega, ?_⟩
       simp only [st', bV, bB]
       exact Bt.selB hid [0, 1] hh (by simp only [q9C, FrSel, BlkSel, AV.ren, renL, AV.ok, okL, Option.some.injEq, exists_eq_left', List.length_cons, List.length_nil, Nat.reduceAdd, Nat.reduceLT, reduceCtorEq, implies_true, exists_eq', fo2, fo3, fr1, fr2, fid, q0]) (by decide) (by simp only [q9C, FrSel, BlkSel, AV.ren, renL, AV.ok, okL, Option.some.injEq, exists_eq_left', List.length_cons, List.length_nil, Nat.reduceAdd, Nat.reduceLT, reduceCtorEq, implies_true, exists_eq', fo2, fo3, fr1, fr2, fid, q0]) (by simp only [q9C, FrSel, BlkSel, AV.ren, renL, AV.ok, okL, Option.some.injEq, exists_eq_left', List.length_cons, List.length_nil, Nat.reduceAdd, Nat.reduceLT, reduceCtorEq, implies_true, exists_eq', fo2, fo3, fr1, fr2, fid, q0])
      ·have st' : absR (xs, []) (ds.take (i + 1)) = (YpI vl d, []) := by rw [hstep]; simp only [absD, if_neg g2, if_pos g3]
       refine ⟨(i + 1, true), inv true (by rw [st']; exact ⟨fun q => absurd q (Jjy hdm (by omega) (hge d.1)), fun q => by cases q⟩), by dsimp only; omega, ?_⟩
       simp only [st', bV, bB]
       exact Bt.selB hid [3, 1] hh (by simp only [q9C, FrSel, BlkSel, AV.ren, renL, AV.ok, okL, Option.some.injEq, exists_eq_left', List.length_cons, List.length_nil, Nat.reduceAdd, Nat.reduceLT, reduceCtorEq, implies_true, exists_eq', fo2, fo3, fr1, fr2, fid, q0]) (by decide) (by simp only [q9C, FrSel, BlkSel, AV.ren, renL, AV.ok, okL, Option.some.injEq, exists_eq_left', List.length_cons, List.length_nil, Nat.reduceAdd, Nat.reduceLT, reduceCtorEq, implies_true, exists_eq', fo2, fo3, fr1, fr2, fid, q0]) (by simp only [q9C, FrSel, BlkSel, AV.ren, renL, AV.ok, okL, Option.some.injEq, exists_eq_left', List.length_cons, List.length_nil, Nat.reduceAdd, Nat.reduceLT, reduceCtorEq, implies_true, exists_eq', fo2, fo3, fr1, fr2, fid, q0])
      ·have st' : absR (xs, []) (ds.take (i + 1)) = (vl, [d]) := by rw [hstep]; simp only [absD, if_neg g2, if_neg g3, List.length_nil, true_or, if_true, List.nil_append]
       refine ⟨(i + 1, true), inv true (by rw [st']; exact ⟨fun q => absurd q (hy rfl), fun q => by cases q⟩), by dsimp only; omega, ?_⟩
       simp only [st', bV, bB]
       exact Bt.selB hid [0, 4] hh (by simp only [q9C, FrSel, BlkSel, AV.ren, renL, AV.ok, okL, Option.some.injEq, exists_eq_left', List.length_cons, List.length_nil, Nat.reduceAdd, Nat.reduceLT, reduceCtorEq, implies_true, exists_eq', fo2, fo3, fr1, fr2, fid, q0]) (by decide) (by simp only [q9C, FrSel, BlkSel, AV.ren, renL, AV.ok, okL, Option.some.injEq, exists_eq_left', List.length_cons, List.length_nil, Nat.reduceAdd, Nat.reduceLT, reduceCtorEq, implies_true, exists_eq', fo2, fo3, fr1, fr2, fid, q0]) (by simp only [q9C, FrSel, BlkSel, AV.ren, renL, AV.ok, okL, Option.some.injEq, exists_eq_left', List.length_cons, List.length_nil, Nat.reduceAdd, Nat.reduceLT, reduceCtorEq, implies_true, exists_eq', fo2, fo3, fr1, fr2, fid, q0])
    ·have gl : dl.length ≤ maxLen := by unfold maxLen; omega
     have gm : dl.length + 1 ≤ maxLen := by unfold maxLen; omega
     have g0c : ((dl.length : Int) = 0) = False := eq_false (by omega)
     have gb : (dl.length + 1) * 16 ≤ 140737488355328 := by omega
     have e3 : IntKind.i64.wrap ((dl.length : Int) - 1) = ((dl.length - 1 : Nat) : Int) := by rw [show ((dl.length : Int) - 1) = ((dl.length - 1 : Nat) : Int) from by omega]; exact ZL4 (by unfold In64; omega)
     have glt : dl.length - 1 < dl.length := by omega
     have gr : ∀ id, apS dotR id dl = rsl dotR id dl := fun id => J0z _ g0
     cases c with
     | false =>
      obtain rfl := hn rfl
      have f1 := (h1.bx2 hb hv hd ZhR v0 (rsl dotR (h.length + 1) dl)).fxB (sz := 1) rfl
      have f2 := (h2.bx2 hb hv hd Zfh v0 (rsl dotR (h.length + 1) dl)).fxB (sz := 2) rfl
      have fa := fun L k ys hb => KDi (h := List.map AB.freeze (bx2 h id v0 (rsl dotR (h.length + 1) dl))) (p := h.length) (by rw [List.length_map]; exact quX id _ _) (r := dotR) (sz := 2) rfl L k dl 16 1 ys g0 hb (by decide) gb gm
      have fl := fun L k n => XGk (h := bx2 h id v0 (rsl dotR (h.length + 1) dl)) (p := h.length) (quX id _ _) (r := dotR) (sz := 2) rfl L k dl n
      simp only [gr, eqc2, JTD, g0c, glt, gb, gl, gm, fa, fl, e3, KnF (r := dotR) (sz := 2) rfl, bV, bB, X1r, Z1D, Y9j, simprocAttr, CO.tmps, Opd.tmps, optT, Nat.reducePow, Nat.reduceDiv, Nat.reduceMod, fb, fz, f1, f2, fs, g1, hdi, KdD, T_At, zbq, fo, fo2, X24 hid hh, q0z, Qy1 rfl hid, JAm hid, zl8 hidz, XEs, QVR, List.length_map, e1, e2, vll, Qwl hv]
      refine ⟨fun g2 => ?_, fun g2 => ⟨fun g3 => ?_, fun g3 => ⟨fun g4 => ?_, fun g4 => ?_⟩⟩⟩
      ·have st' : absR (vl, []) (ds.take (i + 1)) = (vl, dl) := by rw [hstep]; simp only [absD, if_pos g2]
       refine ⟨(i + 1, false), inv false (by rw [st']; exact ⟨fun _ => rfl, fun _ => rfl⟩), by dsimp only; omega, ?_⟩
       simp only [st', bV, bB, gr, XlZ, zbl]
       exact Bt.selB hid [0, 1] hh (by simp only [q9C, FrSel, BlkSel, AV.ren, renL, AV.ok, okL, Option.some.injEq, exists_eq_left', List.length_cons, List.length_nil, Nat.reduceAdd, Nat.reduceLT, reduceCtorEq, implies_true, exists_eq', JTD, fo2, fo3, fr1, fr2, fid, q0]) (by decide) (by simp only [q9C, FrSel, BlkSel, AV.ren, renL, AV.ok, okL, Option.some.injEq, exists_eq_left', List.length_cons, List.length_nil, Nat.reduceAdd, Nat.reduceLT, reduceCtorEq, implies_true, exists_eq', JTD, fo2, fo3, fr1, fr2, fid, q0]) (by simp only [q9C, FrSel, BlkSel, AV.ren, renL, AV.ok, okL, Option.some.injEq, exists_eq_left', List.length_cons, List.length_nil, Nat.reduceAdd, Nat.reduceLT, reduceCtorEq, implies_true, exists_eq', JTD, fo2, fo3, fr1, fr2, fid, q0])
      ·have st' : absR (vl, []) (ds.take (i + 1)) = (YpI vl d, dl) := by rw [hstep]; simp only [absD, if_neg g2, if_pos g3]
       refine ⟨(i + 1, true), inv true (by rw [st']; exact ⟨fun q => absurd q (Jjy hdm (by omega) (hge d.1)), fun q => by cases q⟩), by dsimp only; omega, ?_⟩
       simp only [st', bV, bB, gr, XlZ, zbl]
       exact Bt.selB hid [3, 1] hh (by simp only [q9C, FrSel, BlkSel, AV.ren, renL, AV.ok, okL, Option.some.injEq, exists_eq_left', List.length_cons, List.length_nil, Nat.reduceAdd, Nat.reduceLT, reduceCtorEq, implies_true, exists_eq', JTD, fo2, fo3, fr1, fr2, fid, q0]) (by decide) (by simp only [q9C, FrSel, BlkSel, AV.ren, renL, AV.ok, okL, Option.some.injEq, exists_eq_left', List.length_cons, List.length_nil, Nat.reduceAdd, Nat.reduceLT, reduceCtorEq, implies_true, exists_eq', JTD, fo2, fo3, fr1, fr2, fid, q0]) (by simp only [q9C, FrSel, BlkSel, AV.ren, renL, AV.ok, okL, Option.some.injEq, exists_eq_left', List.length_cons, List.length_nil, Nat.reduceAdd, Nat.reduceLT, reduceCtorEq, implies_true, exists_eq', JTD, fo2, fo3, fr1, fr2, fid, q0])
      ·have st' : absR (vl, []) (ds.take (i + 1)) = (vl, dl ++ [d]) := by rw [hstep]; simp only [absD, if_neg g2, if_neg g3, ne_eq, g4, not_false_eq_true, or_true, if_true]
       refine ⟨(i + 1, false), inv false (by rw [st']; exact ⟨fun _ => rfl, fun _ => rfl⟩), by dsimp only; omega, ?_⟩
       simp only [st', bV, bB, gr, XlZ, zbl]
       exact Bt.selB hid [0, 4] hh (by simp only [q9C, FrSel, BlkSel, AV.ren, renL, AV.ok, okL, Option.some.injEq, exists_eq_left', List.length_cons, List.length_nil, Nat.reduceAdd, Nat.reduceLT, reduceCtorEq, implies_true, exists_eq', JTD, fo2, fo3, fr1, fr2, fid, q0]) (by decide) (by simp only [q9C, FrSel, BlkSel, AV.ren, renL, AV.ok, okL, Option.some.injEq, exists_eq_left', List.length_cons, List.length_nil, Nat.reduceAdd, Nat.reduceLT, reduceCtorEq, implies_true, exists_eq', JTD, fo2, fo3, fr1, fr2, fid, q0]) (by simp only [q9C, FrSel, BlkSel, AV.ren, renL, AV.ok, okL, Option.some.injEq, exists_eq_left', List.length_cons, List.length_nil, Nat.reduceAdd, Nat.reduceLT, reduceCtorEq, implies_true, exists_eq', JTD, fo2, fo3, fr1, fr2, fid, q0])
      ·have st' : absR (vl, []) (ds.take (i + 1)) = (vl, dl) := by rw [hstep]; simp only [absD, if_neg g2, if_neg g3, ne_eq, g0, g4, not_true_eq_false, false_or, if_false]
       refine ⟨(i + 1, false), inv false (by rw [st']; exact ⟨fun _ => rfl, fun _ => rfl⟩), by dsimp only; omega, ?_⟩
       simp only [st', bV, bB, gr, XlZ, zbl]
       exact Bt.selB hid [0, 1] hh (by simp only [q9C, FrSel, BlkSel, AV.ren, renL, AV.ok, okL, Option.some.injEq, exists_eq_left', List.length_cons, List.length_nil, Nat.reduceAdd, Nat.reduceLT, reduceCtorEq, implies_true, exists_eq', JTD, fo2, fo3, fr1, fr2, fid, q0]) (by decide) (by simp only [q9C, FrSel, BlkSel, AV.ren, renL, AV.ok, okL, Option.some.injEq, exists_eq_left', List.length_cons, List.length_nil, Nat.reduceAdd, Nat.reduceLT, reduceCtorEq, implies_true, exists_eq', JTD, fo2, fo3, fr1, fr2, fid, q0]) (by simp only [q9C, FrSel, BlkSel, AV.ren, renL, AV.ok, okL, Option.some.injEq, exists_eq_left', List.length_cons, List.length_nil, Nat.reduceAdd, Nat.reduceLT, reduceCtorEq, implies_true, exists_eq', JTD, fo2, fo3, fr1, fr2, fid, q0])
     | true =>
      have f2 := (h2.bx2 hb hv hd Zfh (rsl intR (h.length + 0) vl) (rsl dotR (h.length + 1) dl)).fxB (sz := 2) rfl
      have hm : vl.length ≤ maxLen := by unfold maxLen; omega
      have fa := fun L k ys hb => KDi (h := List.map AB.freeze (bx2 h id (rsl intR (h.length + 0) vl) (rsl dotR (h.length + 1) dl))) (p := h.length) (by rw [List.length_map]; exact quX id _ _) (r := dotR) (sz := 2) rfl L k dl 16 1 ys g0 hb (by decide) gb gm
      have fl := fun L k n => XGk (h := bx2 h id (rsl intR (h.length + 0) vl) (rsl dotR (h.length + 1) dl)) (p := h.length) (quX id _ _) (r := dotR) (sz := 2) rfl L k dl n
      simp only [gr, eqc2, JTD, g0c, glt, gb, gl, gm, fa, fl, e3, KnF (r := dotR) (sz := 2) rfl, bV, bB, X1r, Z1D, Y9j, simprocAttr, CO.tmps, Opd.tmps, optT, Nat.reducePow, Nat.reduceDiv, Nat.reduceMod, fb, fz, hm, f2, fs, g1, hdi, KdD, T_At, zbq, fo, fo2, X24 hid hh, q0z, Qy1 rfl hid, JAm hid, zl8 hidz, XEs, QVR, List.length_map, e1, e2, vll, Qwl hv]
      refine ⟨fun g2 => ?_, fun g2 => ⟨fun g3 => ?_, fun g3 => ⟨fun g4 => ?_, fun g4 => ?_⟩⟩⟩
      ·have st' : absR (xs, []) (ds.take (i + 1)) = (vl, dl) := by rw [hstep]; simp only [absD, if_pos g2]
       refine ⟨(i + 1, true), inv true (by rw [st']; exact ⟨fun q => absurd q (hy rfl), fun q => by cases q⟩), by dsimp only; omega, ?_⟩
       simp only [st', bV, bB, gr, XlZ, zbl]
       exact Bt.selB hid [0, 1] hh (by simp only [q9C, FrSel, BlkSel, AV.ren, renL, AV.ok, okL, Option.some.injEq, exists_eq_left', List.length_cons, List.length_nil, Nat.reduceAdd, Nat.reduceLT, reduceCtorEq, implies_true, exists_eq', JTD, fo2, fo3, fr1, fr2, fid, q0]) (by decide) (by simp only [q9C, FrSel, BlkSel, AV.ren, renL, AV.ok, okL, Option.some.injEq, exists_eq_left', List.length_cons, List.length_nil, Nat.reduceAdd, Nat.reduceLT, reduceCtorEq, implies_true, exists_eq', JTD, fo2, fo3, fr1, fr2, fid, q0]) (by simp only [q9C, FrSel, BlkSel, AV.ren, renL, AV.ok, okL, Option.some.injEq, exists_eq_left', List.length_cons, List.length_nil, Nat.reduceAdd, Nat.reduceLT, reduceCtorEq, implies_true, exists_eq', JTD, fo2, fo3, fr1, fr2, fid, q0])
      ·have st' : absR (xs, []) (ds.take (i + 1)) = (YpI vl d, dl) := by rw [hstep]; simp only [absD, if_neg g2, if_pos g3]
       refine ⟨(i + 1, true), inv true (by rw [st']; exact ⟨fun q => absurd q (Jjy hdm (by omega) (hge d.1)), fun q => by cases q⟩), by dsimp only; omega, ?_⟩
       simp only [st', bV, bB, gr, XlZ, zbl]
       exact Bt.selB hid [3, 1] hh (by simp only [q9C, FrSel, BlkSel, AV.ren, renL, AV.ok, okL, Option.some.injEq, exists_eq_left', List.length_cons, List.length_nil, Nat.reduceAdd, Nat.reduceLT, reduceCtorEq, implies_true, exists_eq', JTD, fo2, fo3, fr1, fr2, fid, q0]) (by decide) (by simp only [q9C, FrSel, BlkSel, AV.ren, renL, AV.ok, okL, Option.some.injEq, exists_eq_left', List.length_cons, List.length_nil, Nat.reduceAdd, Nat.reduceLT, reduceCtorEq, implies_true, exists_eq', JTD, fo2, fo3, fr1, fr2, fid, q0]) (by simp only [q9C, FrSel, BlkSel, AV.ren, renL, AV.ok, okL, Option.some.injEq, exists_eq_left', List.length_cons, List.length_nil, Nat.reduceAdd, Nat.reduceLT, reduceCtorEq, implies_true, exists_eq', JTD, fo2, fo3, fr1, fr2, fid, q0])
      ·have st' : absR (xs, []) (ds.take (i + 1)) = (vl, dl ++ [d]) := by rw [hstep]; simp only [absD, if_neg g2, if_neg g3, ne_eq, g4, not_false_eq_true, or_true, if_true]
       refine ⟨(i + 1, true), inv true (by rw [st']; exact ⟨fun q => absurd q (hy rfl), fun q => by cases q⟩), by dsimp only; omega, ?_⟩
       simp only [st', bV, bB, gr, XlZ, zbl]
       exact Bt.selB hid [0, 4] hh (by simp only [q9C, FrSel, BlkSel, AV.ren, renL, AV.ok, okL, Option.some.injEq, exists_eq_left', List.length_cons, List.length_nil, Nat.reduceAdd, Nat.reduceLT, reduceCtorEq, implies_true, exists_eq', JTD, fo2, fo3, fr1, fr2, fid, q0]) (by decide) (by simp only [q9C, FrSel, BlkSel, AV.ren, renL, AV.ok, okL, Option.some.injEq, exists_eq_left', List.length_cons, List.length_nil, Nat.reduceAdd, Nat.reduceLT, reduceCtorEq, implies_true, exists_eq', JTD, fo2, fo3, fr1, fr2, fid, q0]) (by simp only [q9C, FrSel, BlkSel, AV.ren, renL, AV.ok, okL, Option.some.injEq, exists_eq_left', List.length_cons, List.length_nil, Nat.reduceAdd, Nat.reduceLT, reduceCtorEq, implies_true, exists_eq', JTD, fo2, fo3, fr1, fr2, fid, q0])
      ·have st' : absR (xs, []) (ds.take (i + 1)) = (vl, dl) := by rw [hstep]; simp only [absD, if_neg g2, if_neg g3, ne_eq, g0, g4, not_true_eq_false, false_or, if_false]
       refine ⟨(i + 1, true), inv true (by rw [st']; exact ⟨fun q => absurd q (hy rfl), fun q => by cases q⟩), by dsimp only; omega, ?_⟩
       simp only [st', bV, bB, gr, XlZ, zbl]
       exact Bt.selB hid [0, 1] hh (by simp only [q9C, FrSel, BlkSel, AV.ren, renL, AV.ok, okL, Option.some.injEq, exists_eq_left', List.length_cons, List.length_nil, Nat.reduceAdd, Nat.reduceLT, reduceCtorEq, implies_true, exists_eq', JTD, fo2, fo3, fr1, fr2, fid, q0]) (by decide) (by simp only [q9C, FrSel, BlkSel, AV.ren, renL, AV.ok, okL, Option.some.injEq, exists_eq_left', List.length_cons, List.length_nil, Nat.reduceAdd, Nat.reduceLT, reduceCtorEq, implies_true, exists_eq', JTD, fo2, fo3, fr1, fr2, fid, q0]) (by simp only [q9C, FrSel, BlkSel, AV.ren, renL, AV.ok, okL, Option.some.injEq, exists_eq_left', List.length_cons, List.length_nil, Nat.reduceAdd, Nat.reduceLT, reduceCtorEq, implies_true, exists_eq', JTD, fo2, fo3, fr1, fr2, fid, q0])
   ·have hi' : i = ds.length := by omega
    subst hi'
    rw [List.take_length] at hst
    rw [hst] at ee
    dsimp only at ee
    have hf1 : ∀ sel, Wk (v0.ren (selN h.length sel)) v0 := fun sel => Wk.ren (fun i hi => Xdk hi) ok.1
    have fo2 : ∀ c, v0.ok (fun i => decide (i < h.length + c)) = true := fun c => AV.ok_mono (fun i q => by simp only [decide_eq_true_eq] at q ⊢; omega) _ ok.1
    have fid : ∀ sel, selN h.length sel id = id := fun sel => Xdk hid
    have q0 : ∀ c, decide (id < h.length + c) = true := fun c => decide_eq_true (by omega)
    have aw : ∀ i, Wk (rsl dotR i dl) (apS dotR i dl) := fun i => J2U i dl
    have ao1 : AV.ok (fun i => decide (i < h.length + 1)) (apS dotR h.length dl) = true := ZrU _ _ _ (by simp)
    have ao2 : AV.ok (fun i => decide (i < h.length + 2)) (apS dotR (h.length + 1) dl) = true := ZrU _ _ _ (by simp)
    cases c with
    | false =>
     obtain rfl := hn rfl
     rw [if_pos rfl] at ee
     cases ee
     simp only [bV, bB]
     exact Bt.selB hid [1] hh (by simp only [q9C, FrSel, BlkSel, AV.ren, renL, AV.ok, okL, Option.some.injEq, exists_eq_left', List.length_cons, List.length_nil, Nat.reduceAdd, Nat.reduceLT, reduceCtorEq, implies_true, exists_eq', fo2, hf1, fid, q0, aw, ao1, ao2]) (by decide) (by simp only [q9C, FrSel, BlkSel, AV.ren, renL, AV.ok, okL, Option.some.injEq, exists_eq_left', List.length_cons, List.length_nil, Nat.reduceAdd, Nat.reduceLT, reduceCtorEq, implies_true, exists_eq', fo2, hf1, fid, q0, aw, bB, ao1, ao2]) (by simp only [q9C, FrSel, BlkSel, AV.ren, renL, AV.ok, okL, Option.some.injEq, exists_eq_left', List.length_cons, List.length_nil, Nat.reduceAdd, Nat.reduceLT, reduceCtorEq, implies_true, exists_eq', fo2, hf1, fid, q0, aw, ao1, ao2])
    | true =>
     rw [if_neg (hy rfl)] at ee
     cases ee
     simp only [bV, bB]
     exact Bt.selB hid [0, 1] hh (by simp only [q9C, FrSel, BlkSel, AV.ren, renL, AV.ok, okL, Option.some.injEq, exists_eq_left', List.length_cons, List.length_nil, Nat.reduceAdd, Nat.reduceLT, reduceCtorEq, implies_true, exists_eq', fo2, hf1, fid, q0, aw, ao1, ao2]) (by decide) (by simp only [q9C, FrSel, BlkSel, AV.ren, renL, AV.ok, okL, Option.some.injEq, exists_eq_left', List.length_cons, List.length_nil, Nat.reduceAdd, Nat.reduceLT, reduceCtorEq, implies_true, exists_eq', fo2, hf1, fid, q0, aw, ao1, ao2]) (by simp only [q9C, FrSel, BlkSel, AV.ren, renL, AV.ok, okL, Option.some.injEq, exists_eq_left', List.length_cons, List.length_nil, Nat.reduceAdd, Nat.reduceLT, reduceCtorEq, implies_true, exists_eq', fo2, hf1, fid, q0, aw, ao1, ao2])
  ·cases e
 ·cases e
end Go.Proofs.YtfaccliekejngaaGreat
end
section
namespace Go.Proofs.YtfaccliekejngaaGreat
set_option maxRecDepth 100000
set_option maxHeartbeats 4000000
def Jqd : Dots → Int × Int → Nat
 | [], _ => 0
 | x :: l, d => if ZwT x d then Jqd l d + 1 else 0
theorem Z47 : ∀ (l : Dots) (d : Int × Int), Jqd l d ≤ l.length
 | [], _ => Nat.zero_le _
 | x :: l, d => by
  have := Z47 l d
  unfold Jqd
  show _ ≤ l.length + 1
  split <;> omega
theorem YgH : ∀ (l : Dots) (d y : Int × Int) (i : Nat), i ≤ Jqd l d → i < l.length → (ZwT (l.getD i y) d ↔ i + 1 ≤ Jqd l d)
 | [], _, _, _, _, h => absurd h (Nat.not_lt_zero _)
 | x :: l, d, y, 0, _, _ => by
  unfold Jqd
  simp only [List.getD_cons_zero]
  split <;> simp_all
 | x :: l, d, y, i + 1, h1, h2 => by
  unfold Jqd at h1 ⊢
  simp only [List.getD_cons_succ]
  split
  ·rename_i h
   rw [if_pos h] at h1
   have := YgH l d y i (by omega) (Nat.lt_of_succ_lt_succ h2)
   rw [this]
   omega
  ·rename_i h
   rw [if_neg h] at h1
   omega
def Qql (l : Dots) (d : Int × Int) : Dots := l.take (Jqd l d) ++ d :: l.drop (Jqd l d)
def YvK (l : Dots) (d : Int × Int) : Prop := Jqd l d < l.length ∧ l.getD (Jqd l d) dotR.d = d
instance (l : Dots) (d : Int × Int) : Decidable (YvK l d) := by unfold YvK; infer_instance
end Go.Proofs.YtfaccliekejngaaGreat
end
section
namespace Go.Proofs.YtfaccliekejngaaGreat
set_option maxRecDepth 100000
set_option maxHeartbeats 4000000
def z5Z (v : List Int) (i : Nat) : List Int := v.take i ++ List.replicate (16 - i) 0
theorem zf6 (v : List Int) {i : Nat} (h : i ≤ v.length) (h2 : v.length ≤ 16) : (z5Z v i).length = 16 := by
 simp only [z5Z, List.length_append, List.length_take, List.length_replicate]
 omega
def layS (l : Dots) (d : Int × Int) : Dots := if YvK l d then l else Qql l d
def layR (ds : Dots) : Dots := ds.foldl layS []
theorem Ydl (l : Dots) (d : Int × Int) : (layS l d).length ≤ l.length + 1 := by
 unfold layS
 split
 ·omega
 ·unfold Qql
  have := Z47 l d
  simp only [List.length_append, List.length_cons, List.length_take, List.length_drop]
  omega
theorem Zeg {l : Dots} {d x : Int × Int} (h : x ∈ layS l d) : x ∈ l ∨ x = d := by
 unfold layS at h
 split at h
 ·exact .inl h
 ·unfold Qql at h
  rcases List.mem_append.1 h with h | h
  ·exact .inl (List.mem_of_mem_take h)
  ·rcases List.mem_cons.1 h with h | h
   ·exact .inr h
   ·exact .inl (List.mem_of_mem_drop h)
theorem XTx (ds : Dots) : ∀ x ∈ layR ds, x ∈ ds := by
 have : ∀ (ds l : Dots), ∀ x ∈ ds.foldl layS l, x ∈ l ∨ x ∈ ds := fun ds => by
  induction ds with
  | nil => exact fun l x h => .inl h
  | cons d ds ih =>
   intro l x h
   rcases ih _ x h with h | h
   ·exact (Zeg h).imp (fun z => z) fun q => by rw [q]; exact List.mem_cons_self
   ·exact .inr (List.mem_cons_of_mem _ h)
 exact fun x h => (this ds [] x h).elim (fun h => by cases h) id
theorem Xl7 (ds : Dots) : (layR ds).length ≤ ds.length := by
 have : ∀ (ds l : Dots), (ds.foldl layS l).length ≤ l.length + ds.length := fun ds => by
  induction ds with
  | nil => exact fun l => Nat.le_refl _
  | cons d ds ih =>
   intro l
   have h1 := ih (layS l d)
   have h2 := Ydl l d
   simp only [List.foldl_cons, List.length_cons]
   omega
 have := this ds []
 simp only [List.length_nil] at this
 unfold layR
 omega
def fmD (s : List Int × Dots) (d : Int × Int) : List Int × Dots :=
 if d.2 = s.1.getD (d.1 - 1).toNat 0 + 1 then (s.1.set (d.1 - 1).toNat (s.1.getD (d.1 - 1).toNat 0 + 1), s.2)
 else if s.1.getD (d.1 - 1).toNat 0 < d.2 then (s.1, s.2 ++ [d]) else s
def fmR (v : List Int) (l : Dots) : List Int × Dots := l.foldl fmD (z5Z v v.length, [])
theorem Jez (v : List Int) {l : Dots} {i : Nat} (h : i < l.length) : fmR v (l.take (i + 1)) = fmD (fmR v (l.take i)) (l.getD i dotR.d) := by
 unfold fmR
 rw [List.take_succ_eq_append_getElem h, List.foldl_append, List.getD_eq_getElem?_getD, List.getElem?_eq_getElem h]
 rfl
def topI (sn : List Int) : Nat → Nat
 | 0 => 0
 | n + 1 => if sn.getD n 0 = 0 then topI sn n else n + 1
theorem ZGW (sn : List Int) : ∀ n, topI sn n ≤ n
 | 0 => Nat.le_refl _
 | n + 1 => by
  have := ZGW sn n
  unfold topI
  split <;> omega
theorem X1c (s : List Int × Dots) {d : Int × Int} (hd : KG5 d) (h1 : s.1.length = 16) (h2 : ∀ k, 0 ≤ s.1.getD k 0 ∧ s.1.getD k 0 ≤ 1048576) : (fmD s d).1.length = 16 ∧ (fmD s d).2.length ≤ s.2.length + 1 ∧ ∀ k, 0 ≤ (fmD s d).1.getD k 0 ∧ (fmD s d).1.getD k 0 ≤ 1048576 := by
 unfold fmD
 obtain ⟨a1, a2, a3, a4⟩ := hd
 split
 ·rename_i e
  refine ⟨by simp only [List.length_set, h1], by dsimp only; omega, fun k => ?_⟩
  dsimp only
  rw [List.getD_eq_getElem?_getD, List.getElem?_set]
  split
  ·have := h2 (d.1 - 1).toNat
   rw [if_pos (by omega), Option.getD_some]
   omega
  ·rw [← List.getD_eq_getElem?_getD]
   exact h2 k
 ·split
  ·exact ⟨h1, by simp, h2⟩
  ·exact ⟨h1, by omega, h2⟩
theorem Jnn (v : List Int) (i k : Nat) (h : ∀ n ∈ v, 0 ≤ n ∧ n ≤ 1048576) : 0 ≤ (z5Z v i).getD k 0 ∧ (z5Z v i).getD k 0 ≤ 1048576 := by
 rw [List.getD_eq_getElem?_getD]
 cases e : (z5Z v i)[k]? with
 | none => simp
 | some x =>
  have hx := List.mem_of_getElem? e
  unfold z5Z at hx
  rcases List.mem_append.1 hx with hx | hx
  ·exact h x (List.mem_of_mem_take hx)
  ·have := (List.mem_replicate.1 hx).2
   subst this
   simp
theorem Jyu (v : List Int) (hv : v.length ≤ 16) (hr : ∀ n ∈ v, 0 ≤ n ∧ n ≤ 1048576) {l : Dots} (hl : ∀ d ∈ l, KG5 d) : ∀ {i : Nat}, i ≤ l.length → (fmR v (l.take i)).1.length = 16 ∧ (fmR v (l.take i)).2.length ≤ i ∧ ∀ k, 0 ≤ (fmR v (l.take i)).1.getD k 0 ∧ (fmR v (l.take i)).1.getD k 0 ≤ 1048576
 | 0, _ => ⟨zf6 v (Nat.le_refl _) hv, Nat.le_refl _, fun k => Jnn v _ k hr⟩
 | i + 1, h => by
  obtain ⟨h1, h2, h3⟩ := Jyu v hv hr hl (Nat.le_of_succ_le h)
  rw [Jez v h]
  obtain ⟨b1, b2, b3⟩ := X1c (fmR v (l.take i)) (hl (l.getD i dotR.d) (by rw [List.getD_eq_getElem?_getD, List.getElem?_eq_getElem h]; exact List.getElem_mem h)) h1 h3
  exact ⟨b1, by omega, b3⟩
theorem WkL.get : ∀ {l' l : List AV}, WkL l' l → l'.length = l.length ∧ ∀ (j : Nat) (a' a : AV), l'[j]? = some a' → l[j]? = some a → Wk a' a
 | [], [], _ => ⟨rfl, fun j a' a h _ => by simp at h⟩
 | b' :: l', b :: l, h => by
  obtain ⟨h1, h2⟩ := WkL.get h.2
  refine ⟨by simp [h1], fun j a' a e1 e2 => ?_⟩
  cases j with
  | zero =>
   cases e1
   cases e2
   exact h.1
  | succ j => exact h2 j a' a (by simpa using e1) (by simpa using e2)
 | [], _ :: _, h => h.elim
 | _ :: _, [], h => h.elim
theorem JEJ {l' l : List AV} (h : WkL l' l) : Wk (.ag l') (.ag l) := fun ρ c v => by
 cases v with
 | ag _ cs hn hv =>
  obtain ⟨h1, h2⟩ := h.get
  refine .ag l' cs (by rw [h1]; exact hn) fun j a' c e1 e2 => ?_
  have hj : j < l.length := by rw [← h1]; exact (List.getElem?_eq_some_iff.1 e1).1
  exact h2 j a' l[j] e1 (List.getElem?_eq_getElem hj) ρ c (hv j _ c (List.getElem?_eq_getElem hj) e2)
theorem QOX {α : Type} {r : Row α} {h : List AB} (L : List AB) (k : Nat) (l : List α) (e : ownR r l L k) (hl : l.length ≤ maxLen) : getS r (h ++ L) (apS r (h.length + k) l) = some l := by
 by_cases h0 : l.length = 0
 ·have : l = [] := List.eq_nil_of_length_eq_zero h0
  subst this
  exact zlS r _
 ·rw [J0z _ h0]
  exact YaF L k l e hl
end Go.Proofs.YtfaccliekejngaaGreat
end
section
namespace Go.Proofs.YtfaccliekejngaaGreat
set_option maxRecDepth 100000
set_option maxHeartbeats 4000000
def fmO (v : List Int) (ds : Dots) : List Int × Dots := ((fmR v (layR ds)).1.take (topI (fmR v (layR ds)).1 16), (fmR v (layR ds)).2)
theorem zDF {α : Type} {r : Row α} {h L : List AB} {k c n : Nat} {kk : Option Nat} {l : List α} (hb : ownC L k = some (r.cells l)) (hl : l.length ≤ maxLen) (hn : n ≤ l.length) : Rd r (h ++ L) (.sl (h.length + k) 0 n c kk) (l.take n) := by
 have e : (l.take n).length = n := by rw [List.length_take]; omega
 refine Rd.mk_sl (xs := r.cells l) (by rw [Q4R]; exact hb) e.symm ?_ ?_ (by omega)
 ·rw [e, r.cells_len, Nat.zero_add]
  exact Nat.mul_le_mul_right _ hn
 ·rw [e, List.drop_zero, r.cells_take]
def KXy (v : List Int) (ds : Dots) : Int := if ¬ J6E v ds then 3 else if 4096 < ds.length then 10 else if fmO v ds = (v, ds) then 0 else 2
end Go.Proofs.YtfaccliekejngaaGreat
end
section
namespace Go.Proofs.YtfaccliekejngaaGreat
theorem qnp (a b : Int × Int) : cmpD a b < 0 ↔ ZwT a b := by
 obtain ⟨a1, a2⟩ := a
 obtain ⟨b1, b2⟩ := b
 simp only [cmpD, cmpI, ZwT]
 repeat' split
 all_goals omega
theorem Yf9 (a b : Int × Int) : cmpD a b = 0 ↔ a = b := by
 obtain ⟨a1, a2⟩ := a
 obtain ⟨b1, b2⟩ := b
 simp only [cmpD, cmpI, Prod.mk.injEq]
 repeat' split
 all_goals omega
theorem zng (a : Int × Int) : ¬ ZwT a a := by simp [ZwT]
theorem YKM {a b c : Int × Int} (h : ZwT a b) (k : ZwT b c) : ZwT a c := by simp only [ZwT] at *; omega
theorem Y5F (a b : Int × Int) : ZwT a b ∨ a = b ∨ ZwT b a := by
 obtain ⟨a1, a2⟩ := a
 obtain ⟨b1, b2⟩ := b
 simp only [ZwT, Prod.mk.injEq]
 omega
def srtD (l : Dots) : Dots := l.mergeSort fun x y => !(decide (cmpD y x < 0))
theorem q0B (l : Dots) : (srtD l).Perm l := List.mergeSort_perm l _
theorem Qlc (l : Dots) (d : Int × Int) : d ∈ srtD l ↔ d ∈ l := (q0B l).mem_iff
theorem Q0e (l : Dots) : (srtD l).length = l.length := (q0B l).length_eq
def QdO (l : Dots) : Prop := l.Pairwise fun a b => ¬ ZwT b a
def Rise (l : Dots) : Prop := l.Pairwise ZwT
theorem QKr (l : Dots) : QdO (srtD l) := by
 have h := List.pairwise_mergeSort (le := fun x y : Int × Int => !(decide (cmpD y x < 0))) (fun a b c h1 h2 => ?_) (fun a b => ?_) l
 ·exact h.imp fun {a b} q => by simpa [qnp] using q
 ·simp only [Bool.not_eq_true', decide_eq_false_iff_not, qnp] at h1 h2 ⊢
  intro h3
  rcases Y5F a b with q | q | q
  ·exact h2 (YKM h3 q)
  ·subst q; exact h2 h3
  ·exact h1 q
 ·simp only [Bool.or_eq_true, Bool.not_eq_true', decide_eq_false_iff_not, qnp]
  by_cases h1 : ZwT b a
  ·exact .inr fun h2 => zng _ (YKM h1 h2)
  ·exact .inl h1
theorem ZYJ : ∀ {l l' : Dots}, Rise l → Rise l' → (∀ d, d ∈ l ↔ d ∈ l') → l = l'
 | [], [], _, _, _ => rfl
 | [], b :: l', _, _, h => absurd ((h b).2 (.head _)) (by simp)
 | a :: l, [], _, _, h => absurd ((h a).1 (.head _)) (by simp)
 | a :: l, b :: l', h1, h2, h => by
  have r1 := List.pairwise_cons.1 h1
  have r2 := List.pairwise_cons.1 h2
  have e : a = b := by
   rcases List.mem_cons.1 ((h a).1 (.head _)) with q | q
   ·exact q
   ·rcases List.mem_cons.1 ((h b).2 (.head _)) with z | z
    ·exact z.symm
    ·exact absurd (YKM (r2.1 a q) (r1.1 b z)) (zng _)
  subst e
  congr 1
  refine ZYJ r1.2 r2.2 fun d => ⟨fun hd => ?_, fun hd => ?_⟩
  ·rcases List.mem_cons.1 ((h d).1 (.tail _ hd)) with q | q
   ·subst q; exact absurd (r1.1 _ hd) (zng _)
   ·exact q
  ·rcases List.mem_cons.1 ((h d).2 (.tail _ hd)) with q | q
   ·subst q; exact absurd (r2.1 _ hd) (zng _)
   ·exact q
def zAX : Dots → Dots
 | [] => []
 | x :: l => if l.head? = some x then zAX l else x :: zAX l
theorem KKt : ∀ (l : Dots) (d : Int × Int), d ∈ zAX l ↔ d ∈ l
 | [], d => Iff.rfl
 | x :: l, d => by
  unfold zAX
  split
  ·rename_i h
   rw [KKt l d]
   have hx : x ∈ l := List.mem_of_mem_head? (by simpa using h)
   exact ⟨fun q => .tail _ q, fun q => by rcases List.mem_cons.1 q with rfl | q; exact hx; exact q⟩
  ·rw [List.mem_cons, List.mem_cons, KKt l d]
theorem qBQ : ∀ {l : Dots}, QdO l → Rise (zAX l)
 | [], _ => List.Pairwise.nil
 | x :: l, h => by
  have r := List.pairwise_cons.1 h
  unfold zAX
  split
  ·exact qBQ r.2
  ·rename_i hx
   refine List.pairwise_cons.2 ⟨fun d hd => ?_, qBQ r.2⟩
   have hd' := (KKt l d).1 hd
   rcases Y5F x d with q | q | q
   ·exact q
   ·subst q
    cases l with
    | nil => cases hd'
    | cons y l' =>
     have hy : y ≠ x := fun e => hx (by rw [e]; rfl)
     rcases List.mem_cons.1 hd' with z | z
     ·exact absurd z.symm hy
     ·have h1 := (List.pairwise_cons.1 r.2).1 x z
      have h2 := r.1 y (.head _)
      rcases Y5F x y with q | q | q
      ·exact absurd q h1
      ·exact absurd q.symm hy
      ·exact absurd q h2
   ·exact absurd q (r.1 d hd')
theorem qaw : ∀ (l : Dots) (d : Int × Int) (i : Nat), i < Jqd l d → ZwT (l.getD i dotR.d) d
 | l, d, i, h => (YgH l d dotR.d i (by omega) (by have := Z47 l d; omega)).2 h
theorem Qzb (l : Dots) (d : Int × Int) (h : Jqd l d < l.length) : ¬ ZwT (l.getD (Jqd l d) dotR.d) d := fun q => by
 have := (YgH l d dotR.d _ (Nat.le_refl _) h).1 q
 omega
theorem YPr {l : Dots} (d x : Int × Int) : x ∈ layS l d ↔ x ∈ l ∨ x = d := by
 unfold layS
 split
 ·rename_i h
  refine ⟨.inl, fun q => q.elim id fun e => ?_⟩
  subst e
  have := h.2
  rw [List.getD_eq_getElem?_getD, List.getElem?_eq_getElem h.1] at this
  have hm := List.getElem_mem h.1
  simp only [Option.getD_some] at this
  rw [this] at hm
  exact hm
 ·unfold Qql
  conv => rhs; rw [← List.take_append_drop (Jqd l d) l]
  simp only [List.mem_append, List.mem_cons]
  constructor
  ·rintro (q | q | q)
   ·exact .inl (.inl q)
   ·exact .inr q
   ·exact .inl (.inr q)
  ·rintro ((q | q) | q)
   ·exact .inl q
   ·exact .inr (.inr q)
   ·exact .inr (.inl q)
theorem zx3 {l : Dots} (h : Rise l) (d : Int × Int) : Rise (layS l d) := by
 unfold layS
 split
 ·exact h
 ·rename_i hn
  unfold Qql
  have h' := h
  rw [← List.take_append_drop (Jqd l d) l] at h'
  have h2 := List.pairwise_append.1 h'
  have a : ∀ x ∈ l.take (Jqd l d), ZwT x d := fun x hx => by
   obtain ⟨i, hi, rfl⟩ := List.getElem_of_mem hx
   rw [List.length_take] at hi
   have := qaw l d i (by omega)
   rw [List.getD_eq_getElem?_getD, List.getElem?_eq_getElem (by omega)] at this
   simpa using this
  have b : ∀ y ∈ l.drop (Jqd l d), ZwT d y := fun y hy => by
   have hlt : Jqd l d < l.length := by
    rcases Nat.lt_or_ge (Jqd l d) l.length with q | q
    ·exact q
    ·rw [List.drop_eq_nil_of_le q] at hy; cases hy
   have hz := Qzb l d hlt
   have hz2 : l.getD (Jqd l d) dotR.d ≠ d := fun e => hn ⟨hlt, e⟩
   have hz3 : ZwT d (l.getD (Jqd l d) dotR.d) := by
    rcases Y5F (l.getD (Jqd l d) dotR.d) d with q | q | q
    ·exact absurd q hz
    ·exact absurd q hz2
    ·exact q
   rw [List.drop_eq_getElem_cons hlt] at hy
   have e : l.getD (Jqd l d) dotR.d = l[Jqd l d] := by rw [List.getD_eq_getElem?_getD, List.getElem?_eq_getElem hlt]; rfl
   rw [e] at hz3
   rcases List.mem_cons.1 hy with rfl | hy
   ·exact hz3
   ·have := h2.2.1
    rw [List.drop_eq_getElem_cons hlt] at this
    exact YKM hz3 ((List.pairwise_cons.1 this).1 y hy)
  refine List.pairwise_append.2 ⟨h2.1, List.pairwise_cons.2 ⟨b, h2.2.1⟩, fun x hx y hy => ?_⟩
  rcases List.mem_cons.1 hy with rfl | hy
  ·exact a x hx
  ·exact YKM (a x hx) (b y hy)
theorem Xh8 : ∀ (ds l : Dots), Rise l → Rise (ds.foldl layS l) ∧ ∀ d, d ∈ ds.foldl layS l ↔ d ∈ l ∨ d ∈ ds
 | [], l, h => ⟨h, fun d => by simp⟩
 | x :: ds, l, h => by
  obtain ⟨h1, h2⟩ := Xh8 ds (layS l x) (zx3 h x)
  refine ⟨h1, fun d => ?_⟩
  rw [List.foldl_cons, h2 d, YPr, List.mem_cons, or_assoc]
theorem Jwr (ds : Dots) : Rise (layR ds) := (Xh8 ds [] List.Pairwise.nil).1
theorem YHT (ds : Dots) (d : Int × Int) : d ∈ layR ds ↔ d ∈ ds := by
 unfold layR
 simpa using (Xh8 ds [] List.Pairwise.nil).2 d
theorem qD3 (ds : Dots) : zAX (srtD ds) = layR ds :=
 ZYJ (qBQ (QKr ds)) (Jwr ds) fun d => by rw [KKt, Qlc, YHT]
theorem YTI (l : Dots) (d x : Int × Int) : (l ++ [d]).getD ((l ++ [d]).length - 1) x = d := by
 rw [List.getD_eq_getElem?_getD, List.length_append, List.length_singleton, Nat.add_sub_cancel, List.getElem?_append_right (Nat.le_refl _), Nat.sub_self]
 rfl
theorem KDp (s : AbS) {d : Int × Int} (hd : KG5 d) : absD (absD s d) d = absD s d := by
 by_cases h1 : d.2 ≤ vAt s.1 d.1
 ·have e : absD s d = s := by unfold absD; rw [if_pos h1]
  rw [e, e]
 ·by_cases h2 : d.2 = vAt s.1 d.1 + 1
  ·have e : absD s d = (YpI s.1 d, s.2) := by unfold absD; rw [if_neg h1, if_pos h2]
   rw [e]
   unfold absD
   rw [if_pos]
   rw [YXx s.1 hd (by omega), if_pos rfl]
   exact Int.le_refl _
  ·by_cases h3 : s.2.length = 0 ∨ s.2.getD (s.2.length - 1) dotR.d ≠ d
   ·have e : absD s d = (s.1, s.2 ++ [d]) := by unfold absD; rw [if_neg h1, if_neg h2, if_pos h3]
    rw [e]
    unfold absD
    rw [if_neg h1, if_neg h2, if_neg]
    rw [YTI]
    simp
   ·have e : absD s d = s := by unfold absD; rw [if_neg h1, if_neg h2, if_neg h3]
    rw [e, e]
theorem qcV : ∀ (l : Dots) (s : AbS), (∀ d ∈ l, KG5 d) → absR s l = absR s (zAX l)
 | [], s, _ => rfl
 | x :: l, s, h => by
  unfold zAX
  have hl := fun d hd => h d (.tail _ hd)
  split
  ·rename_i hx
   cases l with
   | nil => cases hx
   | cons y l' =>
    have : y = x := by simpa using hx
    subst this
    rw [← qcV _ s hl]
    simp only [absR, List.foldl_cons, KDp s (h y (.head _))]
  ·have := qcV l (absD s x) hl
   simp only [absR, List.foldl_cons] at this ⊢
   exact this
def SimV (xs sn : List Int) : Prop := sn.length = 16 ∧ xs.length ≤ 16 ∧ ∀ i : Nat, i < 16 → vAt xs ((i + 1 : Nat) : Int) = sn.getD i 0
theorem simD {s : AbS} {t : List Int × Dots} (hv : SimV s.1 t.1) (h2 : s.2 = t.2) {d : Int × Int} (hd : KG5 d) (hr : ∀ x ∈ s.2, ZwT x d) : SimV (absD s d).1 (fmD t d).1 ∧ (absD s d).2 = (fmD t d).2 := by
 obtain ⟨i, hi⟩ : ∃ i : Nat, d.1 = ((i + 1 : Nat) : Int) := ⟨(d.1 - 1).toNat, by have := hd.1; omega⟩
 have hi2 : i < 16 := by have := hd.2.1; omega
 have e1 : (d.1 - 1).toNat = i := by omega
 have e2 := hv.2.2 i hi2
 unfold absD fmD
 rw [e1, ← e2, hi]
 by_cases h1 : d.2 ≤ vAt s.1 ((i + 1 : Nat) : Int)
 ·rw [if_pos h1, if_neg (by omega), if_neg (by omega)]
  exact ⟨hv, h2⟩
 ·rw [if_neg h1]
  by_cases h3 : d.2 = vAt s.1 ((i + 1 : Nat) : Int) + 1
  ·rw [if_pos h3, if_pos h3]
   refine ⟨⟨by simp [hv.1], ?_, fun j hj => ?_⟩, h2⟩
   ·have := XKw s.1 d
    have := hv.2.1
    simp only
    omega
   ·simp only
    rw [YXx s.1 hd (by rw [hi]; omega), hi]
    rw [List.getD_eq_getElem?_getD, List.getElem?_set]
    by_cases hij : i = j
    ·subst hij
     rw [if_pos rfl, if_pos rfl, if_pos (by rw [hv.1]; exact hj)]
     exact h3
    ·rw [if_neg (by omega), if_neg hij, ← List.getD_eq_getElem?_getD]
     exact hv.2.2 j hj
  ·have h4 : s.2.length = 0 ∨ s.2.getD (s.2.length - 1) dotR.d ≠ d := by
    by_cases h0 : s.2.length = 0
    ·exact .inl h0
    ·refine .inr fun q => ?_
     have hlt : s.2.length - 1 < s.2.length := by omega
     rw [List.getD_eq_getElem?_getD, List.getElem?_eq_getElem hlt] at q
     have := hr _ (List.getElem_mem hlt)
     rw [show s.2[s.2.length - 1] = d from q] at this
     exact zng _ this
   rw [if_neg h3, if_neg h3, if_pos h4, if_pos (show vAt s.1 ((i + 1 : Nat) : Int) < d.2 by omega)]
   exact ⟨hv, by simp only [h2]⟩
theorem QZR (s : AbS) (d : Int × Int) : ∀ x ∈ (absD s d).2, x ∈ s.2 ∨ x = d := fun x hx => by
 unfold absD at hx
 split at hx
 ·exact .inl hx
 ·split at hx
  ·exact .inl hx
  ·split at hx
   ·simpa using hx
   ·exact .inl hx
theorem simR : ∀ (l : Dots) (s : AbS) (t : List Int × Dots), SimV s.1 t.1 → s.2 = t.2 → (∀ d ∈ l, KG5 d) → Rise l → (∀ x ∈ s.2, ∀ d ∈ l, ZwT x d) → SimV (absR s l).1 (l.foldl fmD t).1 ∧ (absR s l).2 = (l.foldl fmD t).2
 | [], s, t, hv, h2, _, _, _ => ⟨hv, h2⟩
 | d :: l, s, t, hv, h2, hd, hr, hx => by
  obtain ⟨q1, q2⟩ := simD hv h2 (hd d (.head _)) fun x h => hx x h d (.head _)
  have r := List.pairwise_cons.1 hr
  have := simR l (absD s d) (fmD t d) q1 q2 (fun y hy => hd y (.tail _ hy)) r.2 fun x h y hy => by
   rcases QZR s d x h with z | z
   ·exact hx x z y (.tail _ hy)
   ·subst z; exact r.1 y hy
  simpa only [absR, List.foldl_cons] using this
def Trim (xs : List Int) : Prop := xs.length = 0 ∨ xs.getD (xs.length - 1) 0 ≠ 0
theorem z6s : ∀ (xs : List Int) (n : Nat), n ≤ xs.length → Trim (xs.take (topI xs n))
 | xs, 0, _ => .inl (by simp [topI])
 | xs, n + 1, h => by
  unfold topI
  split
  ·exact z6s xs n (by omega)
  ·rename_i hx
   refine .inr ?_
   have e : (xs.take (n + 1)).length = n + 1 := by rw [List.length_take]; omega
   rw [e, Nat.add_sub_cancel, List.getD_eq_getElem?_getD, List.getElem?_take, if_pos (by omega), ← List.getD_eq_getElem?_getD]
   exact hx
theorem J0Z : ∀ (xs : List Int) (n i : Nat), topI xs n ≤ i → i < n → xs.getD i 0 = 0
 | xs, 0, i, _, h => absurd h (Nat.not_lt_zero _)
 | xs, n + 1, i, h1, h2 => by
  unfold topI at h1
  split at h1
  ·rename_i hx
   by_cases hi : i = n
   ·subst hi; exact hx
   ·exact J0Z xs n i h1 (by omega)
  ·omega
theorem X0i (xs : List Int) : ∀ n, n ≤ xs.length → K29 xs n = xs.take (topI xs n)
 | 0, _ => by simp [K29, topI]
 | n + 1, h => by
  unfold K29 topI
  rw [show intR.d = (0 : Int) from rfl]
  split
  ·exact X0i xs n (by omega)
  ·rfl
theorem Yz9 (xs : List Int) (r : Int) : vAt (xs.take (topI xs xs.length)) r = vAt xs r := by
 have ht := ZGW xs xs.length
 have hl : (xs.take (topI xs xs.length)).length = topI xs xs.length := by rw [List.length_take]; omega
 by_cases h : r < 1 ∨ (xs.length : Int) < r
 ·rw [J4U _ _ h, J4U _ _ (by rw [hl]; omega)]
 ·obtain ⟨i, rfl⟩ : ∃ i : Nat, r = ((i + 1 : Nat) : Int) := ⟨(r - 1).toNat, by omega⟩
  rw [YAu xs i (by omega)]
  by_cases hi : i < topI xs xs.length
  ·rw [YAu _ i (by omega), List.getD_eq_getElem?_getD, List.getElem?_take, if_pos hi, ← List.getD_eq_getElem?_getD]
  ·rw [J4U _ _ (by rw [hl]; omega), J0Z xs xs.length i (by omega) (by omega)]
   rfl
theorem XXo {xs ys : List Int} (hx : ∀ n ∈ xs, 0 ≤ n) (hy : ∀ n ∈ ys, 0 ≤ n) (tx : Trim xs) (ty : Trim ys) (h : ∀ r, vAt xs r = vAt ys r) : xs = ys := by
 have key : ∀ {xs ys : List Int}, (∀ n ∈ xs, 0 ≤ n) → Trim xs → (∀ r, vAt xs r = vAt ys r) → xs.length ≤ ys.length := fun {xs ys} hx tx h => by
  rcases Nat.lt_or_ge ys.length xs.length with q | q
  ·have h0 : xs.length ≠ 0 := by omega
   rcases tx with t | t
   ·exact absurd t h0
   ·have := h (((xs.length - 1) + 1 : Nat) : Int)
    rw [YAu xs _ (by omega), J4U ys _ (by omega)] at this
    have hm : xs.getD (xs.length - 1) 0 ∈ xs := by
     rw [List.getD_eq_getElem?_getD, List.getElem?_eq_getElem (by omega : xs.length - 1 < xs.length)]
     exact List.getElem_mem _
    have := hx _ hm
    omega
  ·exact q
 have l1 := key hx tx h
 have l2 := key hy ty fun r => (h r).symm
 refine List.ext_getElem (by omega) fun i h1 h2 => ?_
 have := h ((i + 1 : Nat) : Int)
 rw [YAu xs i h1, YAu ys i h2, List.getD_eq_getElem?_getD, List.getD_eq_getElem?_getD, List.getElem?_eq_getElem h1, List.getElem?_eq_getElem h2] at this
 have := hx _ (List.getElem_mem h1)
 have := hy _ (List.getElem_mem h2)
 simp only [Option.getD_some] at *
 omega
theorem KDU (xs ys : List Int) : ∀ n ∈ qIk xs ys, 0 ≤ n := fun n hn => by
 simp only [qIk, jn, List.mem_map, List.mem_range] at hn
 obtain ⟨i, _, rfl⟩ := hn
 have := KJL xs ((i + 1 : Nat) : Int)
 omega
theorem Ku4 (xs : List Int) (d : Int × Int) : ∀ n ∈ YpI xs d, 0 ≤ n := by
 unfold YpI
 split <;> exact KDU _ _
theorem K8K : ∀ (l : Dots) (s : AbS), (∀ n ∈ s.1, 0 ≤ n) → ∀ n ∈ (absR s l).1, 0 ≤ n
 | [], s, h => h
 | d :: l, s, h => by
  have := K8K l (absD s d) (by
   unfold absD
   split
   ·exact h
   ·split
    ·exact Ku4 _ _
    ·split <;> exact h)
  simpa only [absR, List.foldl_cons] using this
def bldO (v : List Int) (ds : Dots) : AbS := (K29 (absR (v, []) (srtD ds)).1 (absR (v, []) (srtD ds)).1.length, (absR (v, []) (srtD ds)).2)
theorem sim0 {v : List Int} (hl : v.length ≤ 16) (hp : ∀ n ∈ v, 0 ≤ n) {x : List Int} (hx : x.length ≤ 16) (hxv : ∀ r, vAt x r = vAt v r) : SimV x (z5Z v v.length) := by
 refine ⟨zf6 v (Nat.le_refl _) hl, hx, fun i hi => ?_⟩
 rw [hxv]
 unfold z5Z
 rw [List.take_length]
 by_cases h : i < v.length
 ·rw [YAu v i h, List.getD_eq_getElem?_getD, List.getD_eq_getElem?_getD, List.getElem?_append_left h, List.getElem?_eq_getElem h]
  have := hp _ (List.getElem_mem h)
  simp only [Option.getD_some]
  omega
 ·rw [J4U v _ (by omega), List.getD_eq_getElem?_getD, List.getElem?_append_right (by omega), List.getElem?_replicate]
  split <;> rfl
theorem QXY {v x : List Int} {ds : Dots} (hr : J6E v ds) (hx : x.length ≤ 16) (hp : ∀ n ∈ x, 0 ≤ n) (hxv : ∀ r, vAt x r = vAt v r) : bldO x ds = fmO v ds := by
 have hd : ∀ d ∈ srtD ds, KG5 d := fun d hd => hr.2.2 d ((Qlc ds d).1 hd)
 have e := qcV (srtD ds) (x, []) hd
 rw [qD3] at e
 have hd2 : ∀ d ∈ layR ds, KG5 d := fun d hd => hr.2.2 d (XTx ds d hd)
 obtain ⟨q1, q2⟩ := simR (layR ds) (x, []) (z5Z v v.length, []) (sim0 hr.1 (fun n hn => (hr.2.1 n hn).1) hx hxv) rfl hd2 (Jwr ds) (fun y hy => by cases hy)
 have inv := Jyu v hr.1 hr.2.1 hd2 (Nat.le_refl (layR ds).length)
 rw [List.take_length] at inv
 unfold bldO fmO
 rw [e]
 refine Prod.ext ?_ q2
 simp only
 have hpos := K8K (layR ds) (x, []) hp
 generalize hA : absR (x, []) (layR ds) = A at *
 have hF : (layR ds).foldl fmD (z5Z v v.length, []) = fmR v (layR ds) := rfl
 rw [hF] at q1
 generalize fmR v (layR ds) = F at *
 rw [X0i _ _ (Nat.le_refl _)]
 have t16 : topI F.1 16 = topI F.1 F.1.length := by rw [q1.1]
 rw [t16]
 refine XXo (fun n hn => hpos n (List.mem_of_mem_take hn)) (fun n hn => ?_) (z6s _ _ (Nat.le_refl _)) (z6s _ _ (Nat.le_refl _)) fun r => ?_
 ·obtain ⟨k, hk, rfl⟩ := List.getElem_of_mem (List.mem_of_mem_take hn)
  have := (inv.2.2 k).1
  rw [List.getD_eq_getElem?_getD, List.getElem?_eq_getElem hk] at this
  exact this
 ·rw [Yz9, Yz9]
  by_cases h : r < 1 ∨ 16 < r
  ·rw [J4U _ _ (by have := q1.2.1; omega), J4U _ _ (by rw [q1.1]; omega)]
  ·obtain ⟨i, rfl⟩ : ∃ i : Nat, r = ((i + 1 : Nat) : Int) := ⟨(r - 1).toNat, by omega⟩
   rw [q1.2.2 i (by omega), YAu _ i (by rw [q1.1]; omega)]
   have := (inv.2.2 i).1
   omega
end Go.Proofs.YtfaccliekejngaaGreat
end
