/- Part 23 of what the laws' proofs rest on. No condition. -/
import Derived.Test.YtcncpbcbedfakaaGreatRp22
set_option linter.all false
section
namespace Go.Proofs.YtcncpbcbedfakaaGreat
set_option maxRecDepth 100000
set_option maxHeartbeats 4000000
abbrev jH (h : List AB) (s t s' t' sa sb : AV) (l : Dots) : List AB := h ++ jL h.length s t s' t' (apS dotR (h.length + 7) l) sa sb (resB dotR true l)
theorem Z4H {h : List AB} {s t s' t' sa sb sa' sb' : AV} {l l' : Dots} (e : jH h s t s' t' sa sb l = jH h s t s' t' sa' sb' l') : sa = sa' ∧ sb = sb' ∧ l = l' := by
 replace e := List.append_cancel_left e
 simp only [jL, List.cons.injEq, AB.blk.injEq, and_true, true_and] at e
 obtain ⟨e1, e2, e3, e4⟩ := e
 exact ⟨e2, e3, XVA e1 e4⟩
def zeZ (h : List AB) (s t s' t' sa sb : AV) (la lb l : Dots) (x : AV × List AB) : Prop :=
 if QPf la lb then ∃ sb', Prt h sb' (lb.drop 1) ∧ x = (.ag (dotR.f (lb.getD 0 dotR.d)), jH h s t s' t' sa sb' l)
 else ∃ sa', Prt h sa' (la.drop 1) ∧ x = (.ag (dotR.f (la.getD 0 dotR.d)), jH h s t s' t' sa' sb l)
def XEI (h : List AB) (s t s' t' : AV) (hh : List AB) (x : AV × List AB) : Prop :=
 ∃ sa sb la lb l, Prt h sa la ∧ Prt h sb lb ∧ hh = jH h s t s' t' sa sb l ∧ zeZ h s t s' t' sa sb la lb l x ∧ FnAt Tryz.prog 116 [.p (h.length + 4) 0, .p (h.length + 5) 0] hh x.1 x.2
open Classical in
noncomputable def ZaH (h : List AB) (s t s' t' : AV) : List AV → List AB → Option (AV × List AB) := fun args hh =>
 if c : args = [.p (h.length + 4) 0, .p (h.length + 5) 0] ∧ ∃ x, XEI h s t s' t' hh x then some (Classical.choose c.2) else none
theorem YHU (h : List AB) (s t s' t' : AV) : Spec Tryz.prog 116 (ZaH h s t s' t') := by
 intro args hh v h' e
 unfold ZaH at e
 split at e
 ·rename_i c
  obtain ⟨rfl, hx⟩ := c
  obtain ⟨sa, sb, la, lb, l, _, _, _, _, q⟩ := Classical.choose_spec hx
  have e' := Option.some.inj e
  rw [e'] at q
  exact q.c
 ·cases e
theorem Y6d {h : List AB} {s t s' t' sa sb : AV} {la lb l : Dots} (pa : Prt h sa la) (pb : Prt h sb lb) (hx : ∃ x, zeZ h s t s' t' sa sb la lb l x ∧ FnAt Tryz.prog 116 [.p (h.length + 4) 0, .p (h.length + 5) 0] (jH h s t s' t' sa sb l) x.1 x.2) :
  ∃ x, ZaH h s t s' t' [.p (h.length + 4) 0, .p (h.length + 5) 0] (jH h s t s' t' sa sb l) = some x ∧ zeZ h s t s' t' sa sb la lb l x := by
 obtain ⟨x, hr, hf⟩ := hx
 have c : ([.p (h.length + 4) 0, .p (h.length + 5) 0] : List AV) = [.p (h.length + 4) 0, .p (h.length + 5) 0] ∧ ∃ x, XEI h s t s' t' (jH h s t s' t' sa sb l) x := ⟨rfl, x, sa, sb, la, lb, l, pa, pb, rfl, hr, hf⟩
 refine ⟨Classical.choose c.2, by unfold ZaH; rw [dif_pos c], ?_⟩
 obtain ⟨sa2, sb2, la2, lb2, l2, pa2, pb2, e, hr2, _⟩ := Classical.choose_spec c.2
 obtain ⟨rfl, rfl, rfl⟩ := Z4H e
 have e1 := pa.rd.inj pa2.rd
 have e2 := pb.rd.inj pb2.rd
 subst e1 e2
 exact hr2
def J9S (h : List AB) (s t s' t' sa sb : AV) (l : Dots) (a b : Int) : List AB := h ++ (jL h.length s t s' t' (.sl (h.length + 10) 0 (l.length + 1) (l.length + 1) (some 2)) sa sb .dead ++ [.blk true true [.i .i64 a, .i .i64 b], .blk true true [.i .i64 a, .i .i64 b], .blk true true (dotR.cells l ++ [.i .i64 a, .i .i64 b])])
def XNe (h : List AB) (s t s' t' : AV) (a b : Int) (hh r : List AB) : Prop := ∃ sa sb l, l.length ≤ 1000000 ∧ hh = jH h s t s' t' sa sb l ∧ r = J9S h s t s' t' sa sb l a b
open Classical in
noncomputable def XtU (h : List AB) (s t s' t' : AV) : List AV → List AB → Option (AV × List AB)
 | [.ag [.i .i64 a, .i .i64 b]], hh => if c : ∃ r, XNe h s t s' t' a b hh r then some (.b true, c.choose) else none
 | _, _ => none
theorem Q6C (h : List AB) (s t s' t' sa sb : AV) (l : Dots) (a b : Int) (hl : l.length ≤ 1000000) : XtU h s t s' t' [.ag [.i .i64 a, .i .i64 b]] (jH h s t s' t' sa sb l) = some (.b true, J9S h s t s' t' sa sb l a b) := by
 have hc : ∃ r, XNe h s t s' t' a b (jH h s t s' t' sa sb l) r := ⟨_, sa, sb, l, hl, rfl, rfl⟩
 obtain ⟨sa', sb', l', _, e, e5⟩ := hc.choose_spec
 obtain ⟨rfl, rfl, rfl⟩ := Z4H e
 simp only [XtU]
 rw [dif_pos hc, e5]
theorem z2w (h : List AB) (s t s' t' : AV) : XrH Tryz.prog (h.length + 6) (XtU h s t s' t') := by
 intro args hh v h' e
 unfold XtU at e
 split at e
 ·rename_i a b
  split at e
  ·rename_i hc
   cases e
   obtain ⟨sa, sb, l, h1, h2, h3⟩ := hc.choose_spec
   rw [h3, h2]
   exact JXM h s t s' t' sa sb l a b h1
  ·cases e
 ·cases e
theorem zPX (la lb : Dots) (h : la.length + lb.length = 0) : mrgD (la.length + lb.length) la lb = [] := by rw [h]; rfl
theorem Z1a (la lb : Dots) (h : la.length + lb.length ≠ 0) (c : QPf la lb) : 0 < lb.length ∧ mrgD (la.length + lb.length) la lb = lb.getD 0 dotR.d :: mrgD (la.length + (lb.drop 1).length) la (lb.drop 1) := by
 have hb : 0 < lb.length := by rcases c with q | q <;> omega
 refine ⟨hb, ?_⟩
 obtain ⟨n, hn⟩ : ∃ n, la.length + lb.length = n + 1 := ⟨la.length + lb.length - 1, by omega⟩
 rw [hn, show la.length + (lb.drop 1).length = n by rw [List.length_drop]; omega]
 conv => lhs; unfold mrgD
 rw [if_pos c]
theorem KEv (la lb : Dots) (h : la.length + lb.length ≠ 0) (c : ¬ QPf la lb) : 0 < la.length ∧ mrgD (la.length + lb.length) la lb = la.getD 0 dotR.d :: mrgD ((la.drop 1).length + lb.length) (la.drop 1) lb := by
 have ha : 0 < la.length := by
  rcases Nat.eq_zero_or_pos la.length with q | q
  ·exact absurd (.inl q) c
  ·exact q
 refine ⟨ha, ?_⟩
 obtain ⟨n, hn⟩ : ∃ n, la.length + lb.length = n + 1 := ⟨la.length + lb.length - 1, by omega⟩
 rw [hn, show (la.drop 1).length + lb.length = n by rw [List.length_drop]; omega]
 conv => lhs; unfold mrgD
 rw [if_neg c]
theorem XBS (h : List AB) (hz : h.map AB.freeze = h) (hh : HOk h) {s t s' t' : AV} {v v' : List Int} {ds ds' : Dots} (hs : Rd intR h s v) (hs' : Rd intR h s' v') (pt : Prt h t ds) (pt' : Prt h t' ds')
  (os : s.ok (fun i => decide (i < h.length)) = true) (os' : s'.ok (fun i => decide (i < h.length)) = true) (hl : ds.length + ds'.length ≤ 20000) :
  FnAt Tryz.prog 115 [.y (h.length + 6), .p (h.length + 4) 0, .p (h.length + 5) 0] (h ++ [.blk false true [s, t], .blk false true [s', t'], .blk false true [.ns, .ns], .blk false true [.ns], .blk false true [t], .blk false true [t'], .lp .ready .n (jFr h.length s t s' t') [21] jA jB]) (.tu [])
   (h ++ [.blk false true [s, t], .blk false true [s', t'], .blk false true [.ns, .ns], .blk false true [apS dotR (h.length + 7) (mrgD (ds.length + ds'.length) ds ds')], .dead, .dead, .lp .ready .n (jFr h.length s t s' t') [21] jA jB, resB dotR true (mrgD (ds.length + ds'.length) ds ds')]) := by
 refine FnAt.run (by kernel_rfl) (T := ⟨[⟨116, ZaH h s t s' t', fun _ => []⟩], [⟨h.length + 6, XtU h s t s' t', fun _ => []⟩]⟩) ⟨⟨YHU h s t s' t', trivial⟩, ⟨z2w h s t s' t', trivial⟩⟩ Tryz.func115 XUp fun _ _ => ?_
 have f1 := hs.fx os (sz := 1) rfl
 have f2 := pt.rd.fx pt.ok (sz := 2) rfl
 have f3 := hs'.fx os' (sz := 1) rfl
 have f4 := pt'.rd.fx pt'.ok (sz := 2) rfl
 unfold w115
 simp only [X7f, KtR, YUa, XuN, simprocAttr]
 refine QZo (S := AV × AV × Dots × Dots × Dots) (fun x => x.2.2.1.length + x.2.2.2.1.length) (fun _ => [.y (h.length + 6), .p (h.length + 4) 0, .p (h.length + 5) 0] ++ tp 1 ++ [.f (.func 116) [] [.p (h.length + 4) 0, .p (h.length + 5) 0]] ++ tp 12) (fun x => jH h s t s' t' x.1 x.2.1 x.2.2.2.2)
  (fun x => Prt h x.1 x.2.2.1 ∧ Prt h x.2.1 x.2.2.2.1 ∧ x.2.2.2.2 ++ mrgD (x.2.2.1.length + x.2.2.2.1.length) x.2.2.1 x.2.2.2.1 = mrgD (ds.length + ds'.length) ds ds' ∧ x.2.2.1.length + x.2.2.2.1.length + x.2.2.2.2.length ≤ 20000) (t, t', ds, ds', []) ⟨pt, pt', rfl, by simp only [List.length_nil]; omega⟩ ?_ fun x hx => ?_
 ·have e : jH h s t s' t' t t' [] = h ++ [.blk false true [s, t], .blk false true [s', t'], .blk false true [.ns, .ns], .blk false true [.ns], .blk false true [t], .blk false true [t'], .lp .ready .n (jFr h.length s t s' t') [21] jA jB] ++ List.replicate 1 .dead := by
   rw [List.append_assoc]
   rfl
  rw [e]
  refine Bt.trans (Bt.wk ?_) (Bt.pad _ _ 1)
  simp only [YUa, XuN, simprocAttr]
 ·obtain ⟨sa, sb, la, lb, l⟩ := x
  obtain ⟨pa, pb, hM, hlen⟩ := hx
  dsimp only at pa pb hM hlen ⊢
  have f5 := pa.rd.fx pa.ok (sz := 2) rfl
  have f6 := pb.rd.fx pb.ok (sz := 2) rfl
  have ew : IntKind.i64.wrap ((la.length : Int) + (lb.length : Int)) = (la.length : Int) + (lb.length : Int) := ZPn (by unfold In64; omega)
  by_cases hn : la.length + lb.length = 0
  ·have hg : ((0 : Int) < (la.length : Int) + (lb.length : Int)) = False := eq_false (by omega)
   simp only [jL, jFr, jA, jB, YUa, XuN, simprocAttr, f1, f2, f3, f4, f5, f6, ew, hg, false_implies]
   have hl0 : l = mrgD (ds.length + ds'.length) ds ds' := by rw [← hM, zPX la lb hn, List.append_nil]
   rw [← hl0]
   have l1 := Bt.less (P := Tryz.prog) (p := h.length + 7) (fr := [.tu []]) (h := jH h s t s' t' sa sb l) (i := h.length + 4) (B := .blk false true [sa]) (B' := .dead) (by rw [Qzu]; rfl) (fun _ _ _ _ _ _ => trivial) (fun q => by cases q) (fun q => by cases q)
   have l2 := Bt.less (P := Tryz.prog) (p := h.length + 7) (fr := [.tu []]) (h := (jH h s t s' t' sa sb l).set (h.length + 4) .dead) (i := h.length + 5) (B := .blk false true [sb]) (B' := .dead) (by rw [qIW, Qzu]; rfl) (fun _ _ _ _ _ _ => trivial) (fun q => by cases q) (fun q => by cases q)
   have l3 := l1.trans l2
   rw [qIW, qIW] at l3
   exact l3
  ·have hg : ((0 : Int) < (la.length : Int) + (lb.length : Int)) = True := eq_true (by omega)
   have hleast := JLa h hz hh hs pt.rd hs' pt'.rd os pt.ok os' pt'.ok pa pb l hn
   have gl : l.length ≤ 1000000 := by omega
   have w1 : ∀ sel, Wk (s.ren (selN h.length sel)) s = True := fun sel => eq_true (Wk.ren (fun i hi => q8q hi) os)
   have w2 : ∀ sel, Wk (t.ren (selN h.length sel)) t = True := fun sel => eq_true (Wk.ren (fun i hi => q8q hi) pt.ok)
   have w3 : ∀ sel, Wk (s'.ren (selN h.length sel)) s' = True := fun sel => eq_true (Wk.ren (fun i hi => q8q hi) os')
   have w4 : ∀ sel, Wk (t'.ren (selN h.length sel)) t' = True := fun sel => eq_true (Wk.ren (fun i hi => q8q hi) pt'.ok)
   have w5 : ∀ sel, Wk (.ag [s.ren (selN h.length sel), t.ren (selN h.length sel)]) (.ag [s, t]) = True := fun sel => eq_true (zBJ ⟨of_eq_true (w1 sel), of_eq_true (w2 sel), trivial⟩)
   have w6 : ∀ sel, Wk (.ag [s'.ren (selN h.length sel), t'.ren (selN h.length sel)]) (.ag [s', t']) = True := fun sel => eq_true (zBJ ⟨of_eq_true (w3 sel), of_eq_true (w4 sel), trivial⟩)
   by_cases hc : QPf la lb
   ·obtain ⟨hb, hm⟩ := Z1a la lb hn hc
    rw [if_pos hc] at hleast
    obtain ⟨sb0, pb0, fa⟩ := hleast
    obtain ⟨x, e1, e2⟩ := Y6d pa pb ⟨(_, _), by unfold zeZ; rw [if_pos hc]; exact ⟨sb0, pb0, rfl⟩, fa⟩
    unfold zeZ at e2
    rw [if_pos hc] at e2
    obtain ⟨sb', pb', rfl⟩ := e2
    have w7 : ∀ sel, Wk (sa.ren (selN h.length sel)) sa = True := fun sel => eq_true (Wk.ren (fun i hi => q8q hi) pa.ok)
    have w8 : ∀ sel, Wk (sb'.ren (selN h.length sel)) sb' = True := fun sel => eq_true (Wk.ren (fun i hi => q8q hi) pb'.ok)
    have f7 := pb'.rd.fx pb'.ok (sz := 2) rfl
    have e3 := Q6C h s t s' t' sa sb' l (lb.getD 0 dotR.d).1 (lb.getD 0 dotR.d).2 gl
    simp only [X5J] at e1
    simp only [jL, jFr, jA, jB, YUa, XuN, simprocAttr, f1, f2, f3, f4, f5, f6, ew, hg, false_implies, e1, e3]
    refine ⟨(sa, sb', la, lb.drop 1, l ++ [lb.getD 0 dotR.d]), ⟨pa, pb', ?_, ?_⟩, ?_, ?_⟩
    ·dsimp only
     rw [← hM, hm, List.append_assoc]
     rfl
    ·dsimp only
     rw [List.length_append, List.length_drop, List.length_singleton]
     omega
    ·dsimp only
     rw [List.length_drop]
     omega
    ·dsimp only
     simp only [J9S, jH, jL, jFr, jA, jB, zfM, XJF, zLh, JVd]
     refine Bt.selL 7 [0, 1, 2, 3, 4, 5, 6, 10] hh (by decide) (by decide) (by decide) (by decide) ?_ ?_
     ·simp only [qpr, FrSel, BlkSel, AV.ren, renL, AV.ok, okL, Option.some.injEq, exists_eq_left', List.length_cons, List.length_nil, Nat.reduceAdd, Nat.reduceLT, reduceCtorEq, implies_true, exists_eq', f1, f2, f3, f4, f5, f6, f7, w1, w2, w3, w4, w5, w6, w7, w8]
     ·simp only [qpr, FrSel, BlkSel, AV.ren, renL, AV.ok, okL, Option.some.injEq, exists_eq_left', List.length_cons, List.length_nil, Nat.reduceAdd, Nat.reduceLT, reduceCtorEq, implies_true, exists_eq', f1, f2, f3, f4, f5, f6, f7, w1, w2, w3, w4, w5, w6, w7, w8]
   ·obtain ⟨ha, hm⟩ := KEv la lb hn hc
    rw [if_neg hc] at hleast
    obtain ⟨sa0, pa0, fa⟩ := hleast
    obtain ⟨x, e1, e2⟩ := Y6d pa pb ⟨(_, _), by unfold zeZ; rw [if_neg hc]; exact ⟨sa0, pa0, rfl⟩, fa⟩
    unfold zeZ at e2
    rw [if_neg hc] at e2
    obtain ⟨sa', pa', rfl⟩ := e2
    have w7 : ∀ sel, Wk (sa'.ren (selN h.length sel)) sa' = True := fun sel => eq_true (Wk.ren (fun i hi => q8q hi) pa'.ok)
    have w8 : ∀ sel, Wk (sb.ren (selN h.length sel)) sb = True := fun sel => eq_true (Wk.ren (fun i hi => q8q hi) pb.ok)
    have f7 := pa'.rd.fx pa'.ok (sz := 2) rfl
    have e3 := Q6C h s t s' t' sa' sb l (la.getD 0 dotR.d).1 (la.getD 0 dotR.d).2 gl
    simp only [X5J] at e1
    simp only [jL, jFr, jA, jB, YUa, XuN, simprocAttr, f1, f2, f3, f4, f5, f6, ew, hg, false_implies, e1, e3]
    refine ⟨(sa', sb, la.drop 1, lb, l ++ [la.getD 0 dotR.d]), ⟨pa', pb, ?_, ?_⟩, ?_, ?_⟩
    ·dsimp only
     rw [← hM, hm, List.append_assoc]
     rfl
    ·dsimp only
     rw [List.length_append, List.length_drop, List.length_singleton]
     omega
    ·dsimp only
     rw [List.length_drop]
     omega
    ·dsimp only
     simp only [J9S, jH, jL, jFr, jA, jB, zfM, XJF, zLh, JVd]
     refine Bt.selL 7 [0, 1, 2, 3, 4, 5, 6, 10] hh (by decide) (by decide) (by decide) (by decide) ?_ ?_
     ·simp only [qpr, FrSel, BlkSel, AV.ren, renL, AV.ok, okL, Option.some.injEq, exists_eq_left', List.length_cons, List.length_nil, Nat.reduceAdd, Nat.reduceLT, reduceCtorEq, implies_true, exists_eq', f1, f2, f3, f4, f5, f6, f7, w1, w2, w3, w4, w5, w6, w7, w8]
     ·simp only [qpr, FrSel, BlkSel, AV.ren, renL, AV.ok, okL, Option.some.injEq, exists_eq_left', List.length_cons, List.length_nil, Nat.reduceAdd, Nat.reduceLT, reduceCtorEq, implies_true, exists_eq', f1, f2, f3, f4, f5, f6, f7, w1, w2, w3, w4, w5, w6, w7, w8]
end Go.Proofs.YtcncpbcbedfakaaGreat
end
section
namespace Go.Proofs.YtcncpbcbedfakaaGreat
set_option maxRecDepth 100000
set_option maxHeartbeats 4000000
def Z0A : List AV → List AB → Option (AV × List AB)
 | [a, b], h => if a.isSl = true ∧ b.isSl = true then some (.f (.func 115) [] [.p (h.length + 0) 0, .p (h.length + 1) 0], h ++ [.blk false true [a], .blk false true [b]]) else none
 | _, _ => none
theorem JMf : Spec Tryz.prog 82 Z0A := by
 intro args h v h' e
 unfold Z0A at e
 split at e
 ·rename_i a b
  split at e
  ·rename_i hs
   cases e
   refine FnAt.c (FnAt.run (by kernel_rfl) (T := ⟨[], []⟩) ⟨trivial, trivial⟩ Tryz.func82 sw82 fun ho hh => ?_)
   unfold w82
   simp only [X7f, KtR, YUa, XuN, simprocAttr, YOD hs.1, YOD hs.2, qLb hs.1, qLb hs.2]
   exact Bt.eq rfl rfl
  ·cases e
 ·cases e
def ws1 : List AV → List Nat
 | .p id _ :: _ => [id]
 | _ => []
theorem Z5C (id o : Nat) (l : List AV) : ws1 (.p id o :: l) = [id] := _root_.id rfl
def Zjt (v v' : List Int) (ds ds' : Dots) : List Int × Dots := fmO (K3Q v v' 16) (ds ++ ds')
noncomputable def YK0 : List AV → List AB → Option (AV × List AB)
 | [.ag [s, t], .ag [s', t']], h => (getS intR h s).bind fun v => (getS dotR h t).bind fun ds => (getS intR h s').bind fun v' => (getS dotR h t').bind fun ds' =>
   if t.capOk = true ∧ t'.capOk = true then
    if Zmz v ds ≠ 0 then some (.tu [.ag [.ns, .ns], .i .i64 (Zmz v ds)], h)
    else if Zmz v' ds' ≠ 0 then some (.tu [.ag [.ns, .ns], .i .i64 (Zmz v' ds')], h)
    else if (Zjt v v' ds ds').2.length ≤ 4096 then some (.tu [.ag [rsl intR h.length (Zjt v v' ds ds').1, apS dotR (h.length + 1) (Zjt v v' ds ds').2], .i .i64 0], h ++ [resB intR true (Zjt v v' ds ds').1, resB dotR true (Zjt v v' ds ds').2])
    else some (.tu [.ag [.ns, .ns], .i .i64 10], h)
   else none
 | _, _ => none
theorem YDb : Spec Tryz.prog 48 YK0 := by
 intro args h v h' e
 unfold YK0 at e
 split at e
 ·rename_i s t s' t'
  obtain ⟨vs, hs, e⟩ := Ksw e
  obtain ⟨ds, ht, e⟩ := Ksw e
  obtain ⟨vs', hs', e⟩ := Ksw e
  obtain ⟨ds', ht', e⟩ := Ksw e
  split at e
  ·rename_i hcap
   by_cases hq : Zmz vs ds = 0 ∧ Zmz vs' ds' = 0
   ·obtain ⟨c1, c2⟩ := hq
    obtain ⟨a1, a2, a3⟩ := Ym2 c1
    obtain ⟨b1, b2, b3⟩ := Ym2 c2
    obtain ⟨j1, j2⟩ := JKC c1 c2
    rw [if_neg (not_not_intro c1), if_neg (not_not_intro c2)] at e
    have cb : (if Zmz vs ds = 0 then Zmz vs' ds' else Zmz vs ds) = 0 := by rw [if_pos c1]; exact c2
    have main : ∀ h : List AB, h.map AB.freeze = h → Rd intR h s vs → Rd dotR h t ds → Rd intR h s' vs' → Rd dotR h t' ds' → ∀ x : AV × List AB, (if (Zjt vs vs' ds ds').2.length ≤ 4096 then x = (.tu [.ag [rsl intR h.length (Zjt vs vs' ds ds').1, apS dotR (h.length + 1) (Zjt vs vs' ds ds').2], .i .i64 0], h ++ [resB intR true (Zjt vs vs' ds ds').1, resB dotR true (Zjt vs vs' ds ds').2]) else x = (.tu [.ag [.ns, .ns], .i .i64 10], h)) → FnAt Tryz.prog 48 [.ag [s, t], .ag [s', t']] h x.1 x.2 := by
     intro h hz hs ht hs' ht' x hx
     refine FnAt.run (by kernel_rfl) (T := ⟨[⟨76, J9w Zmz, fun _ => []⟩, ⟨82, Z0A, fun _ => []⟩, ⟨83, zrS, ws1⟩, ⟨84, zOE, ws1⟩, ⟨85, Jur, ws1⟩, ⟨86, Qvw, ws1⟩], []⟩) ⟨⟨zOv Zmz zjL, JMf, XUw, Xde, Ztx, q5U, trivial⟩, trivial⟩ Tryz.func48 sw48 fun ho hh => ?_
     simp only [Xto, J9P, Bool.and_eq_true] at ho
     have f1 := hs.fx ho.1.1 (sz := 1) rfl
     have f2 := ht.fx ho.1.2.1 (sz := 2) rfl
     have f3 := hs'.fx ho.2.1.1 (sz := 1) rfl
     have f4 := ht'.fx ho.2.1.2.1 (sz := 2) rfl
     unfold w48
     simp only [X7f, KtR, YUa, XuN, simprocAttr, f1, f2, f3, f4, J9w, Z0A, cb, ht.isSl, ht'.isSl, false_implies, decide_false]
     refine W_rf rfl (by simp only [YUa, XuN, simprocAttr]) rfl (by simp only [YUa, XuN, simprocAttr]; rfl) (XBS h hz hh hs hs' ⟨ht, hcap.1, ho.1.2.1⟩ ⟨ht', hcap.2, ho.2.1.2.1⟩ ho.1.1 ho.2.1.1 (by omega)) (by rw [Qzu]; rfl) (by decide) ?_
     have hM := (KvI _ ds ds' rfl)
     have lM : (mrgD (ds.length + ds'.length) ds ds').length = ds.length + ds'.length := by rw [hM.length_eq, List.length_append]
     obtain ⟨n1, n2, n3⟩ := ZMM a1
     have lW : (qjt (qjt [] vs) vs').length ≤ 16 := by rw [KY5]; have := b1.1; omega
     have nW : ∀ n ∈ qjt (qjt [] vs) vs', n ≤ 1048576 := fun n hn => by
      simp only [qjt, jn, List.mem_map, List.mem_range] at hn
      obtain ⟨i, _, rfl⟩ := hn
      have q1 := KV3 vs' (fun n hn => (b1.2.1 n hn).2) ((i + 1 : Nat) : Int)
      have q2 := KV3 (qjt [] vs) n1 ((i + 1 : Nat) : Int)
      simp only [qjt, jn] at q2
      omega
     have l1 := a1.1
     have l2 := b1.1
     have g0 : (([] : List Int).length ≤ 1000000) = True := eq_true (Nat.zero_le _)
     have g1 : (vs.length ≤ 1000000) = True := eq_true (by omega)
     have g2 : (vs'.length ≤ 1000000) = True := eq_true (by omega)
     have g3 : ((qjt [] vs).length ≤ 1000000) = True := eq_true (by omega)
     have g4 : ((qjt [] vs).length ≤ maxLen) = True := eq_true (by unfold maxLen; omega)
     have g5 : ((qjt (qjt [] vs) vs').length ≤ maxLen) = True := eq_true (by unfold maxLen; omega)
     have g7 : ((mrgD (ds.length + ds'.length) ds ds').length ≤ maxLen) = True := eq_true (by rw [lM]; unfold maxLen; omega)
     have gc : ((qjt (qjt [] vs) vs').length ≤ 100000 ∧ (mrgD (ds.length + ds'.length) ds ds').length ≤ 100000 ∧ (∀ n ∈ qjt (qjt [] vs) vs', n ≤ 1048576) ∧ ∀ d ∈ mrgD (ds.length + ds'.length) ds ds', qu1 d) = True :=
      eq_true ⟨by omega, by rw [lM]; omega, nW, fun d hd => (List.mem_append.1 (hM.mem_iff.1 hd)).elim (a1.2.2 d) (b1.2.2 d)⟩
     have hA := KyC (mrgD (ds.length + ds'.length) ds ds') (qjt (qjt [] vs) vs', [])
     have hfm : Zjt vs vs' ds ds' = bldO (qjt (qjt [] vs) vs') (ds ++ ds') := j1.symm
     unfold bldO at hfm
     rw [← j2] at hfm
     generalize mrgD (ds.length + ds'.length) ds ds' = M at *
     generalize hW0 : qjt (qjt [] vs) vs' = W0 at *
     generalize hR : absR (W0, []) M = R at *
     have hfm1 : (Zjt vs vs' ds ds').1 = R.1.take (topI R.1 R.1.length) := by rw [hfm]; exact qDf _ _ (Nat.le_refl _)
     have hfm2 : (Zjt vs vs' ds ds').2 = R.2 := by rw [hfm]
     have htr := qDf R.1 R.1.length (Nat.le_refl _)
     have hti := ZsX R.1 R.1.length
     have hlen : (YsG R.1 R.1.length).length = topI R.1 R.1.length := by
      rw [htr, List.length_take]
      omega
     simp only [List.length_nil] at hA
     have gA : (R.1.length ≤ maxLen) = True := eq_true (by unfold maxLen; omega)
     have gB : (R.2.length ≤ maxLen) = True := eq_true (by rw [lM] at hA; unfold maxLen; omega)
     rw [hfm1, hfm2] at hx
     by_cases hq : R.1 = W0
     ·have gq := eq_true hq
      by_cases h6 : R.2.length ≤ 4096
      ·have g6 : ((4096 : Int) < (R.2.length : Int)) = False := eq_false (by omega)
       rw [if_pos h6] at hx
       subst hx
       simp only [YUa, zc6, XuN, simprocAttr, CO.tmps, Opd.tmps, optT, Nat.reducePow, Nat.reduceDiv, Nat.reduceMod, f1, f2, f3, f4, zrS, zOE, Jur, Qvw, g0, g1, g2, g3, g4, g5, g7, gc, hW0, hR, gq, gA, gB, g6, zN5 hh, qFZ hz, Zke, JeL, qI1, QlX, zn7, Ju5, ZTF, JMH, AV.isNs, Ycd, nsSl, JFr, Z5C, Qgp, YhC, JfS, QF1, Yv1]
       rw [hq] at hlen hti ⊢
       rw [hlen]
       refine KLx (a := 10) (b := 11) hh hti ?_ (fun _ => ?_) (by decide) ?_ ?_ <;> rfl
      ·have g6 : ((4096 : Int) < (R.2.length : Int)) = True := eq_true (by omega)
       rw [if_neg h6] at hx
       subst hx
       simp only [YUa, zc6, XuN, simprocAttr, CO.tmps, Opd.tmps, optT, Nat.reducePow, Nat.reduceDiv, Nat.reduceMod, f1, f2, f3, f4, zrS, zOE, Jur, Qvw, g0, g1, g2, g3, g4, g5, g7, gc, hW0, hR, gq, gA, gB, g6, zN5 hh, qFZ hz, Zke, JeL, qI1, QlX, zn7, Ju5, ZTF, JMH, AV.isNs, Ycd, nsSl, JFr, Z5C, Qgp, YhC, JfS, QF1, Yv1]
       exact Bt.drop _ hh rfl (by simp [AV.ok, okL])
     ·have gq := eq_false hq
      by_cases h6 : R.2.length ≤ 4096
      ·have g6 : ((4096 : Int) < (R.2.length : Int)) = False := eq_false (by omega)
       rw [if_pos h6] at hx
       subst hx
       simp only [YUa, zc6, XuN, simprocAttr, CO.tmps, Opd.tmps, optT, Nat.reducePow, Nat.reduceDiv, Nat.reduceMod, f1, f2, f3, f4, zrS, zOE, Jur, Qvw, g0, g1, g2, g3, g4, g5, g7, gc, hW0, hR, gq, gA, gB, g6, zN5 hh, qFZ hz, Zke, JeL, qI1, QlX, zn7, Ju5, ZTF, JMH, AV.isNs, Ycd, nsSl, JFr, Z5C, Qgp, YhC, JfS, QF1, Yv1]
       rw [hlen]
       refine KLx (a := 11) (b := 12) hh hti ?_ (fun _ => ?_) (by decide) ?_ ?_ <;> rfl
      ·have g6 : ((4096 : Int) < (R.2.length : Int)) = True := eq_true (by omega)
       rw [if_neg h6] at hx
       subst hx
       simp only [YUa, zc6, XuN, simprocAttr, CO.tmps, Opd.tmps, optT, Nat.reducePow, Nat.reduceDiv, Nat.reduceMod, f1, f2, f3, f4, zrS, zOE, Jur, Qvw, g0, g1, g2, g3, g4, g5, g7, gc, hW0, hR, gq, gA, gB, g6, zN5 hh, qFZ hz, Zke, JeL, qI1, QlX, zn7, Ju5, ZTF, JMH, AV.isNs, Ycd, nsSl, JFr, Z5C, Qgp, YhC, JfS, QF1, Yv1]
       exact Bt.drop _ hh rfl (by simp [AV.ok, okL])
    by_cases h6 : (Zjt vs vs' ds ds').2.length ≤ 4096
    ·rw [if_pos h6] at e
     cases e
     refine FnAt.c (FnAt.frz fun hz => ?_)
     rw [show h.length = (h.map AB.freeze).length from (List.length_map _).symm]
     exact main _ hz hs.frz ht.frz hs'.frz ht'.frz (_, _) (by rw [if_pos h6])
    ·rw [if_neg h6] at e
     cases e
     refine FnAt.c (FnAt.frz0 fun hz => ?_)
     exact main _ hz hs.frz ht.frz hs'.frz ht'.frz (_, _) (by rw [if_neg h6])
   ·have hn : (if Zmz vs ds = 0 then Zmz vs' ds' else Zmz vs ds) ≠ 0 := by
     split
     ·rename_i c1
      exact fun c2 => hq ⟨c1, c2⟩
     ·assumption
    have he : v = .tu [.ag [.ns, .ns], .i .i64 (if Zmz vs ds = 0 then Zmz vs' ds' else Zmz vs ds)] ∧ h' = h := by
     by_cases c1 : Zmz vs ds = 0
     ·have c2 : Zmz vs' ds' ≠ 0 := fun c2 => hq ⟨c1, c2⟩
      rw [if_neg (not_not_intro c1), if_pos c2] at e
      cases e
      rw [if_pos c1]
      exact ⟨rfl, rfl⟩
     ·rw [if_pos c1] at e
      cases e
      rw [if_neg c1]
      exact ⟨rfl, rfl⟩
    obtain ⟨rfl, rfl⟩ := he
    clear e
    refine FnAt.c (FnAt.run (by kernel_rfl) (T := ⟨[⟨76, J9w Zmz, fun _ => []⟩], []⟩) ⟨⟨zOv Zmz zjL, trivial⟩, trivial⟩ Tryz.func48 sw48 fun ho hh => ?_)
    simp only [Xto, J9P, Bool.and_eq_true] at ho
    have f1 := hs.fx ho.1.1 (sz := 1) rfl
    have f2 := ht.fx ho.1.2.1 (sz := 2) rfl
    have f3 := hs'.fx ho.2.1.1 (sz := 1) rfl
    have f4 := ht'.fx ho.2.1.2.1 (sz := 2) rfl
    have cb := eq_false hn
    unfold w48
    simp only [X7f, KtR, YUa, XuN, simprocAttr, f1, f2, f3, f4, J9w, cb, false_implies]
    exact Bt.drop _ hh rfl (by simp [AV.ok, okL])
  ·cases e
 ·cases e
noncomputable def Xm0 : List AV → List AB → Option (AV × List AB)
 | [.ag [s, t], .ag [s', t']], h => (getS intR h s).bind fun v => (getS dotR h t).bind fun ds => (getS intR h s').bind fun v' => (getS dotR h t').bind fun ds' =>
   if t.capOk = true ∧ t'.capOk = true then
    if Zmz v ds ≠ 0 then some (.tu [.ag [.ns, .ns], .i .i64 (Zmz v ds)], h)
    else if Zmz v' ds' ≠ 0 then some (.tu [.ag [.ns, .ns], .i .i64 (Zmz v' ds')], h)
    else if (Zjt v v' ds ds').2.length ≤ 4096 then some (.tu [.ag [rsl intR h.length (Zjt v v' ds ds').1, rsl dotR (h.length + 1) (Zjt v v' ds ds').2], .i .i64 0], h ++ [resB intR true (Zjt v v' ds ds').1, resB dotR true (Zjt v v' ds ds').2])
    else some (.tu [.ag [.ns, .ns], .i .i64 10], h)
   else none
 | _, _ => none
theorem Q2Z : Spec Tryz.prog 48 Xm0 := by
 intro args h v h' e
 unfold Xm0 at e
 split at e
 ·rename_i s t s' t'
  obtain ⟨vs, hs, e⟩ := Ksw e
  obtain ⟨ds, ht, e⟩ := Ksw e
  obtain ⟨vs', hs', e⟩ := Ksw e
  obtain ⟨ds', ht', e⟩ := Ksw e
  split at e
  ·rename_i hcap
   have key : ∀ v h', YK0 [.ag [s, t], .ag [s', t']] h = some (v, h') → FnC Tryz.prog 48 [.ag [s, t], .ag [s', t']] h v h' := fun v h' q => YDb _ _ _ _ q
   simp only [YK0, hs.get, ht.get, hs'.get, ht'.get, Option.bind_some] at key
   rw [if_pos hcap] at key
   split at e
   ·rename_i c
    cases e
    exact key _ _ (by rw [if_pos c])
   ·rename_i c
    split at e
    ·rename_i c2
     cases e
     exact key _ _ (by rw [if_neg c, if_pos c2])
    ·rename_i c2
     split at e
     ·rename_i c3
      cases e
      exact (key _ _ (by rw [if_neg c, if_neg c2, if_pos c3])).bt QnP
     ·rename_i c3
      cases e
      exact key _ _ (by rw [if_neg c, if_neg c2, if_neg c3])
  ·cases e
 ·cases e
end Go.Proofs.YtcncpbcbedfakaaGreat
end
section
namespace Go.Proofs.YtcncpbcbedfakaaGreat
theorem chk0 (v : List Int) (ds : Dots) (c : Zmz v ds = 0) : YoS v ds ∧ ds.length ≤ 4096 := ⟨(Ym2 c).1, (Ym2 c).2.1⟩
theorem q69 : Spec Tryz.prog 39 JH2 := by
 intro args h v h' e
 unfold JH2 at e
 split at e
 ·rename_i s t a b
  refine ZEY Zmz chk0 zjL _ h v h' ?_
  simp only [KOy]
  rw [← e]
  congr 1
  funext v
  congr 1
  funext ds
  rw [decide_eq_decide.2 (and_congr_right fun c => ziC c (a, b))]
 ·cases e
end Go.Proofs.YtcncpbcbedfakaaGreat
end
section
namespace Go.Proofs.YtcncpbcbedfakaaGreat
set_option maxRecDepth 100000
set_option maxHeartbeats 4000000
noncomputable def Kpc : List AV → List AB → Option (AV × List AB)
 | [a, b], h => (getH a).bind fun x => (getH b).bind fun y => some (.i .i64 (cmpD x.1 y.1), h)
 | _, _ => none
theorem qkk : Spec Tryz.prog 50 Kpc := by
 intro args h v h' e
 unfold Kpc at e
 split at e
 ·rename_i a b
  obtain ⟨x, hx, e2⟩ := zZj e
  obtain ⟨y, hy, e3⟩ := zZj e2
  clear e e2
  subst hx hy
  cases e3
  refine FnAt.c (FnAt.frz0 fun hz => ?_)
  generalize h.map AB.freeze = h at *
  refine FnAt.run (by kernel_rfl) (T := ⟨[⟨90, KUf, fun _ => []⟩, ⟨89, T_Or, fun _ => []⟩], []⟩) ⟨⟨K52, zLX, trivial⟩, trivial⟩ Tryz.func50 sw50 fun ho hh => ?_
  unfold w50
  have k0 : ∀ z : Hd, (Qv2.f z)[0]? = some (.i .i64 z.1.1) := fun _ => rfl
  have k1 : ∀ z : Hd, (Qv2.f z)[1]? = some (.i .i64 z.1.2) := fun _ => rfl
  simp only [X7f, KtR, YUa, YOR, XuN, simprocAttr, CO.tmps, Opd.tmps, optT, Nat.reducePow, Nat.reduceDiv, Nat.reduceMod, KUf, T_Or, k0, k1, zqp, zso, zN5 hh, X9l hz, Zf1 hz, QwP hz]
  exact Bt.dropI _ hh (by simp only [orI, cmpD]; by_cases h1 : cmpI x.1.1 y.1.1 = 0 <;> by_cases h2 : cmpI x.1.2 y.1.2 = 0 <;> simp [h1, h2])
 ·cases e
noncomputable def qI6 : List AV → List AB → Option (AV × List AB)
 | [a, b], h => (getH a).bind fun x => (getH b).bind fun y => some (.b (decide (x.1 = y.1)), h)
 | _, _ => none
theorem Xle : Spec Tryz.prog 111 qI6 := by
 intro args h v h' e
 unfold qI6 at e
 split at e
 ·rename_i a b
  obtain ⟨x, hx, e2⟩ := zZj e
  obtain ⟨y, hy, e3⟩ := zZj e2
  clear e e2
  subst hx hy
  cases e3
  refine FnAt.c (FnAt.run (by kernel_rfl) (T := ⟨[], []⟩) ⟨trivial, trivial⟩ Tryz.func111 ZSB fun ho hh => ?_)
  unfold w111
  have kd : ∀ z : Hd, (Qv2.f z).take 2 = [.i .i64 z.1.1, .i .i64 z.1.2] := fun _ => rfl
  simp only [X7f, KtR, YUa, YOR, XuN, simprocAttr, CO.tmps, Opd.tmps, optT, Nat.reducePow, Nat.reduceDiv, Nat.reduceMod, kd, zqp, zso, eqcG]
  exact Bt.dropB _ hh (decide_eq_decide.2 ⟨fun q => Prod.ext q.1 q.2, fun q => by rw [q]; exact ⟨rfl, rfl⟩⟩)
 ·cases e
end Go.Proofs.YtcncpbcbedfakaaGreat
end
section
namespace Go.Proofs.YtcncpbcbedfakaaGreat
set_option maxRecDepth 100000
set_option maxHeartbeats 4000000
noncomputable def X0k : List AV → List AB → Option (AV × List AB)
 | [x, .p i 0], h => match KFh h i with
  | some [_, s, t] => (getH x).bind fun y => (getS intR h s).bind fun v => (getS dotR h t).bind fun ds => some (.b (decide (¬ (Zmz v ds = 0 ∧ YC0 v ds y.1))), h)
  | _ => none
 | _, _ => none
theorem qYW : Spec Tryz.prog 70 X0k := by
 intro args h v h' e
 unfold X0k at e
 split at e
 ·rename_i x i
  split at e
  ·rename_i l s t hb
   obtain ⟨y, hx, e2⟩ := zZj e
   clear e
   subst hx
   obtain ⟨vs, hs, e3⟩ := Ksw e2
   obtain ⟨ds, ht, e4⟩ := Ksw e3
   cases e4
   refine FnAt.c (FnAt.run (by kernel_rfl) (T := ⟨[⟨39, JH2, fun _ => []⟩], []⟩) ⟨⟨q69, trivial⟩, trivial⟩ Tryz.func70 sw70 fun ho hh => ?_)
   have fb : ∀ x, ldV (h ++ x) (some 2) (.p i 1) = some (.ag [s, t]) := fun x => by
    have hi := Jv4 hb
    have h2 : KFh (h ++ x) i = some [l, s, t] := by
     unfold KFh at hb ⊢
     rw [List.getElem?_append_left hi]
     exact hb
    simp only [ldV, h2, Option.bind_some]
    rfl
   unfold w70
   have k1 : ∀ x, getS intR (h ++ x) s = some vs := fun x => (hs.app x).get
   have k2 : ∀ x, getS dotR (h ++ x) t = some ds := fun x => (ht.app x).get
   have kd : ∀ z : Hd, (Qv2.f z).take 2 = [.i .i64 z.1.1, .i .i64 z.1.2] := fun _ => rfl
   simp only [X7f, KtR, YUa, YOR, XuN, simprocAttr, CO.tmps, Opd.tmps, optT, Nat.reducePow, Nat.reduceDiv, Nat.reduceMod, fb, k1, k2, kd, zqp, zso, JH2]
   exact Bt.dropB _ hh rfl
  ·cases e
 ·cases e
def rswP (l : List Hd) (i : Nat) : Prop := ∀ k, i ≤ k → 0 < k → k < l.length → ¬ cmpD (l.getD k Qv2.d).1 (l.getD (k - 1) Qv2.d).1 < 0
noncomputable instance (l : List Hd) (i : Nat) : Decidable (rswP l i) := Classical.propDecidable _
noncomputable def qsJ : List AV → List AB → Option (AV × List AB)
 | [s, .f (.func 50) [] []], h => (getS Qv2 h s).bind fun l => some (.b (decide (rswP l 0)), h)
 | _, _ => none
theorem X2c : Spec Tryz.prog 108 qsJ := by
 intro args h v h' e
 unfold qsJ at e
 split at e
 ·rename_i s
  obtain ⟨l, hl, e⟩ := Ksw e
  cases e
  refine FnAt.c (FnAt.frz0 fun hz => ?_)
  replace hl := hl.frz
  generalize h.map AB.freeze = h at *
  refine FnAt.run (by kernel_rfl) (T := ⟨[⟨50, Kpc, fun _ => []⟩], []⟩) ⟨⟨qkk, trivial⟩, trivial⟩ Tryz.func108 XJZ fun ho hh => ?_
  simp only [Xto, Bool.and_eq_true] at ho
  have f1 := hl.fx ho.1 (sz := 34) rfl
  have w0 : IntKind.i64.wrap ((l.length : Int) - 1) = (l.length : Int) - 1 := ZPn (by have := hl.2; unfold maxLen at this; unfold In64; omega)
  unfold w108
  simp only [X7f, KtR, YUa, YOR, XuN, simprocAttr, CO.tmps, Opd.tmps, optT, Nat.reducePow, Nat.reduceDiv, Nat.reduceMod, f1, w0]
  refine KUy (S := Nat) (fun m => m) (fun m => [s, .f (.func 50) [] []] ++ tp 3 ++ [.i .i64 ((m : Int) - 1)] ++ tp 19) (fun m => m ≤ l.length ∧ rswP l m) l.length ⟨Nat.le_refl _, fun k h1 _ h3 => absurd h3 (by omega)⟩ (by simp only [YUa, XuN, simprocAttr]) fun m hm => ?_
  by_cases g : 1 < m
  ·obtain ⟨j, rfl⟩ : ∃ j, m = j + 1 := ⟨m - 1, by omega⟩
   have e0 : (((j + 1 : Nat) : Int) - 1) = (j : Int) := by omega
   have g1 : ((0 : Int) < (j : Int)) = True := eq_true (by omega)
   have g2 : (j < l.length) = True := eq_true (by omega)
   have g3 : (j - 1 < l.length) = True := eq_true (by omega)
   have e1 : IntKind.i64.wrap ((j : Int) - 1) = ((j - 1 : Nat) : Int) := by
    have : (j : Int) - 1 = ((j - 1 : Nat) : Int) := by omega
    rw [this]
    exact ZPn (by have := hl.2; unfold maxLen at this; unfold In64; omega)
   simp only [e0, YUa, YOR, XuN, simprocAttr, CO.tmps, Opd.tmps, optT, Nat.reducePow, Nat.reduceDiv, Nat.reduceMod, f1, g1, g2, g3, e1, Kpc, XMh, YiS, zN5 hh, X9l hz, Zf1 hz, QwP hz]
   refine ⟨fun q => Bt.dropB _ hh (decide_eq_false fun z => z j (Nat.zero_le _) (by omega) (by omega) q).symm, fun q => ⟨j, ⟨by omega, fun k h1 h2 h3 => ?_⟩, by omega, ?_⟩⟩
   ·rcases Nat.eq_or_lt_of_le h1 with z | z
    ·subst z; exact q
    ·exact hm.2 k z h2 h3
   ·have : ((j - 1 : Nat) : Int) = (j : Int) - 1 := by omega
    rw [this]
    exact Wk.refl _
  ·have g1 : ((0 : Int) < (m : Int) - 1) = False := eq_false (by omega)
   simp only [YUa, YOR, XuN, simprocAttr, CO.tmps, Opd.tmps, optT, Nat.reducePow, Nat.reduceDiv, Nat.reduceMod, f1, g1]
   have hT : rswP l 0 := fun k _ h2 h3 => hm.2 k (by omega) h2 h3
   exact Bt.dropB _ hh (decide_eq_true hT).symm
 ·cases e
end Go.Proofs.YtcncpbcbedfakaaGreat
end
section
namespace Go.Proofs.YtcncpbcbedfakaaGreat
set_option maxRecDepth 100000
set_option maxHeartbeats 4000000
def Z54 (v : List Int) (ds : List (Int × Int)) (y : Hd) : Prop := ¬ (Zmz v ds = 0 ∧ YC0 v ds y.1)
noncomputable instance (v : List Int) (ds : List (Int × Int)) (y : Hd) : Decidable (Z54 v ds y) := Classical.propDecidable _
noncomputable def q3w : List AV → List AB → Option (AV × List AB)
 | [s, .f (.func 70) [] [.p i 0]], h => match KFh h i with
  | some [_, sb, tb] => (getS intR h sb).bind fun v => (getS dotR h tb).bind fun ds => (getS Qv2 h s).bind fun l => some (.i .i64 (idx (Z54 v ds) l), h)
  | _ => none
 | _, _ => none
theorem Z3r : Spec Tryz.prog 43 q3w := by
 intro args h v h' e
 unfold q3w at e
 split at e
 ·rename_i s i
  split at e
  ·rename_i lb sb tb hb
   obtain ⟨vs, hs, e⟩ := Ksw e
   obtain ⟨ds, ht, e⟩ := Ksw e
   obtain ⟨l, hx, e⟩ := Ksw e
   cases e
   refine FnAt.c (FnAt.run (by kernel_rfl) (T := ⟨[⟨70, X0k, fun _ => []⟩], []⟩) ⟨⟨qYW, trivial⟩, trivial⟩ Tryz.func43 sw43 fun ho hh => ?_)
   simp only [Xto, Bool.and_eq_true] at ho
   have f1 := hx.fx ho.1 (sz := 34) rfl
   have k0 : ∀ x, KFh (h ++ x) i = some [lb, sb, tb] := (YMj hb).1
   have k1 : ∀ x, getS intR (h ++ x) sb = some vs := fun x => (hs.app x).get
   have k2 : ∀ x, getS dotR (h ++ x) tb = some ds := fun x => (ht.app x).get
   have kp : ∀ y : Hd, decide (¬ (Zmz vs ds = 0 ∧ YC0 vs ds y.1)) = decide (Z54 vs ds y) := fun y => decide_eq_decide.2 Iff.rfl
   unfold w43
   simp only [X7f, KtR, YUa, XuN, simprocAttr, f1]
   refine KUy (S := Nat) (fun j => l.length - j) (fun j => [s, .f (.func 70) [] [.p i 0]] ++ tp 5 ++ [.i .i64 l.length, .i .i64 j] ++ tp 10) (fun j => j ≤ l.length ∧ idx (Z54 vs ds) l = qVz (Z54 vs ds) (l.drop j) j) 0 ⟨Nat.zero_le _, rfl⟩ (by simp only [YUa, XuN, simprocAttr]) fun j hj => ?_
   simp only [YUa, XuN, simprocAttr, f1]
   refine ⟨fun h2 => ?_, fun h2 => ?_⟩
   ·have e1 : IntKind.i64.wrap ((j : Int) + 1) = ((j + 1 : Nat) : Int) := ZPn (by have := hx.2; unfold maxLen at this; unfold In64; omega)
    have e2 := JXX (Z54 vs ds) Qv2.d j h2
    simp only [YUa, XuN, simprocAttr, f1, h2, e1, X0k, XMh, k0, k1, k2, kp]
    refine ⟨fun h3 => Bt.eq (by rw [hj.2, e2, if_pos h3]) (List.append_nil h), fun h3 => ⟨j + 1, ⟨h2, ?_⟩, by omega, Wk.refl _⟩⟩
    rw [hj.2, e2, if_neg h3]
   ·exact Bt.eq (by rw [hj.2, List.drop_eq_nil_of_le (by omega)]; rfl) (List.append_nil h)
  ·cases e
 ·cases e
noncomputable def XKU : List AV → List AB → Option (AV × List AB)
 | [s, .f (.func 70) [] [.p i 0]], h => match KFh h i with
  | some [_, sb, tb] => (getS intR h sb).bind fun v => (getS dotR h tb).bind fun ds => (getS Qv2 h s).bind fun l => some (.b (decide (∃ x ∈ l, Z54 v ds x)), h)
  | _ => none
 | _, _ => none
theorem q1H : Spec Tryz.prog 72 XKU := by
 intro args h v h' e
 unfold XKU at e
 split at e
 ·rename_i s i
  split at e
  ·rename_i lb sb tb hb
   obtain ⟨vs, hs, e⟩ := Ksw e
   obtain ⟨ds, ht, e⟩ := Ksw e
   obtain ⟨l, hx, e⟩ := Ksw e
   cases e
   refine FnAt.c (FnAt.run (by kernel_rfl) (T := ⟨[⟨43, q3w, fun _ => []⟩], []⟩) ⟨⟨Z3r, trivial⟩, trivial⟩ Tryz.func72 sw72 fun ho hh => ?_)
   simp only [Xto, Bool.and_eq_true] at ho
   have f1 := hx.fx ho.1 (sz := 34) rfl
   have k0 : ∀ x, KFh (h ++ x) i = some [lb, sb, tb] := (YMj hb).1
   have k1 : ∀ x, getS intR (h ++ x) sb = some vs := fun x => (hs.app x).get
   have k2 : ∀ x, getS dotR (h ++ x) tb = some ds := fun x => (ht.app x).get
   unfold w72
   simp only [X7f, KtR, YUa, XuN, simprocAttr, f1, q3w, k0, k1, k2]
   exact Bt.eq (by simp only [AV.b.injEq, decide_eq_decide]; exact J0H (Z54 vs ds) l) (List.append_nil h)
  ·cases e
 ·cases e
end Go.Proofs.YtcncpbcbedfakaaGreat
end
section
namespace Go.Proofs.YtcncpbcbedfakaaGreat
section
variable {α : Type} (q : α → α → Prop) [DecidableRel q]
def cmps : α → List α → List α
 | _, [] => []
 | p, x :: l => if q x p then cmps x l else x :: cmps x l
def cmpL : List α → List α
 | [] => []
 | x :: l => x :: cmps q x l
theorem ZUB : ∀ (l : List α) (p x : α), cmps q p (l ++ [x]) = if q x ((p :: l).getLast (by simp)) then cmps q p l else cmps q p l ++ [x]
 | [], p, x => rfl
 | y :: l, p, x => by
  have e := ZUB l y x
  simp only [List.cons_append, cmps, e, List.getLast_cons_cons]
  split <;> split <;> simp
theorem qZy (l : List α) (d : α) {n : Nat} (h0 : 0 < n) (h : n < l.length) : cmpL q (l.take (n + 1)) = if q (l.getD n d) (l.getD (n - 1) d) then cmpL q (l.take n) else cmpL q (l.take n) ++ [l.getD n d] := by
 cases l with
 | nil => cases h
 | cons a l =>
  obtain ⟨m, rfl⟩ : ∃ m, n = m + 1 := ⟨n - 1, by omega⟩
  have hm : m < l.length := by simpa using h
  have e1 : l.take (m + 1) = l.take m ++ [l.getD m d] := by
   rw [List.take_succ_eq_append_getElem hm, List.getD_eq_getElem?_getD, List.getElem?_eq_getElem hm]
   rfl
  have e2 : (a :: l).getD (m + 1) d = l.getD m d := by simp [List.getD_eq_getElem?_getD]
  have e3 : (a :: l).getD (m + 1 - 1) d = (a :: l.take m).getLast (by simp) := by
   rw [List.getLast_eq_getElem, Nat.add_sub_cancel, List.getD_eq_getElem?_getD]
   have hlen : (a :: l.take m).length - 1 = m := by simp; omega
   have : (a :: l.take m)[(a :: l.take m).length - 1]? = (a :: l)[m]? := by
    rw [hlen]
    cases m with
    | zero => rfl
    | succ m => simp
   rw [← this, List.getElem?_eq_getElem (by simp)]
   rfl
  rw [List.take_succ_cons, List.take_succ_cons, e1, e2, e3]
  simp only [cmpL]
  rw [ZUB]
  split <;> simp
theorem q5T : ∀ (l : List α) (p : α), (cmps q p l).length ≤ l.length
 | [], _ => Nat.le_refl _
 | x :: l, p => by
  have := q5T l x
  simp only [cmps]
  split <;> simp <;> omega
theorem XVQ : ∀ l : List α, (cmpL q l).length ≤ l.length
 | [] => Nat.le_refl _
 | x :: l => by have := q5T q l x; simp only [cmpL, List.length_cons]; omega
theorem Kyk (l : List α) (d : α) : ∀ n, n ≤ l.length → (∀ k, 0 < k → k < n → ¬ q (l.getD k d) (l.getD (k - 1) d)) → cmpL q (l.take n) = l.take n
 | 0, _, _ => by simp [cmpL]
 | n + 1, h, hk => by
  by_cases h0 : n = 0
  ·subst h0
   cases l with
   | nil => rfl
   | cons a l => rfl
  ·rw [qZy q l d (by omega) (by omega), if_neg (hk n (by omega) (by omega)), Kyk l d n (by omega) fun k h1 h2 => hk k h1 (by omega)]
   rw [List.take_succ_eq_append_getElem (by omega : n < l.length), List.getD_eq_getElem?_getD, List.getElem?_eq_getElem (by omega)]
   rfl
structure CmpSt (l L : List α) (m i : Nat) : Prop where
 len : L.length = l.length
 pos : 0 < i
 lt : i < m
 le : m ≤ l.length
 hd : L.take i = cmpL q (l.take m)
 tl : L.drop (m - 1) = l.drop (m - 1)
theorem CmpSt.first (l : List α) (d : α) {k : Nat} (h0 : 0 < k) (h : k < l.length) (hk : ∀ j, 0 < j → j < k → ¬ q (l.getD j d) (l.getD (j - 1) d)) (hq : q (l.getD k d) (l.getD (k - 1) d)) : CmpSt q l l (k + 1) k :=
 ⟨rfl, h0, Nat.lt_succ_self _, h, by rw [qZy q l d h0 h, if_pos hq, Kyk q l d k (by omega) hk], rfl⟩
theorem CmpSt.getD {l L : List α} {m i : Nat} (s : CmpSt q l L m i) (d : α) {j : Nat} (h : m - 1 ≤ j) : L.getD j d = l.getD j d := by
 have e := congrArg (fun z => z[j - (m - 1)]?) s.tl
 simp only [List.getElem?_drop] at e
 have : m - 1 + (j - (m - 1)) = j := by omega
 rw [this] at e
 rw [List.getD_eq_getElem?_getD, List.getD_eq_getElem?_getD, e]
theorem CmpSt.skip {l L : List α} {m i : Nat} (s : CmpSt q l L m i) (d : α) (h : m < l.length) (hq : q (l.getD m d) (l.getD (m - 1) d)) : CmpSt q l L (m + 1) i :=
 ⟨s.len, s.pos, Nat.lt_succ_of_lt s.lt, h, by rw [qZy q l d (by have := s.lt; omega) h, if_pos hq]; exact s.hd, by
  have e := congrArg (List.drop 1) s.tl
  rw [List.drop_drop, List.drop_drop] at e
  have h1 : m - 1 + 1 = m + 1 - 1 := by have := s.lt; omega
  rw [h1] at e
  exact e⟩
theorem CmpSt.keep {l L : List α} {m i : Nat} (s : CmpSt q l L m i) (d : α) (h : m < l.length) (hq : ¬ q (l.getD m d) (l.getD (m - 1) d)) : CmpSt q l (L.set i (l.getD m d)) (m + 1) (i + 1) := by
 have hl := s.len
 have hi := s.lt
 refine ⟨by rw [List.length_set]; exact hl, Nat.succ_pos _, by omega, h, ?_, ?_⟩
 ·rw [qZy q l d (by omega) h, if_neg hq, ← s.hd, List.take_succ_eq_append_getElem (by rw [List.length_set]; omega), List.getElem_set_self, List.take_set_of_le (Nat.le_refl _)]
 ·have e := congrArg (List.drop 1) s.tl
  rw [List.drop_drop, List.drop_drop] at e
  have h1 : m - 1 + 1 = m + 1 - 1 := by omega
  rw [h1] at e
  rw [List.drop_set_of_lt (by omega)]
  exact e
end
end Go.Proofs.YtcncpbcbedfakaaGreat
end
section
namespace Go.Proofs.YtcncpbcbedfakaaGreat
section
variable {α : Type} {r : Row α}
theorem Q2n (l l' : List α) : r.cells (l ++ l') = r.cells l ++ r.cells l' := List.flatMap_append
theorem XZf (l : List α) (i : Nat) (x : α) (h : i < l.length) : over (r.cells l) (i * r.sz) (r.f x) = r.cells (l.set i x) := by
 have e : i * r.sz + r.sz = (i + 1) * r.sz := (Nat.succ_mul i r.sz).symm
 unfold over
 rw [r.len, e, r.cells_take, r.cells_drop, List.set_eq_take_append_cons_drop, if_pos h, Q2n, List.append_assoc]
 rfl
theorem Zzi (n : Nat) (z : α) : r.cells (List.replicate n z) = (List.replicate n (r.f z)).flatten := by
 induction n with
 | zero => rfl
 | succ n ih =>
  rw [List.replicate_succ, List.replicate_succ, List.flatten_cons, ← ih]
  rfl
theorem K5p (l : List α) (i n : Nat) (z : α) (h : i + n = l.length) : over (r.cells l) (i * r.sz) (List.replicate n (r.f z)).flatten = r.cells (l.take i ++ List.replicate n z) := by
 have hl : (List.replicate n (r.f z)).flatten.length = n * r.sz := by rw [← Zzi, r.cells_len, List.length_replicate]
 unfold over
 rw [hl, ← Nat.add_mul, h, r.cells_take, r.cells_drop, List.drop_length, Q2n, Zzi]
 exact List.append_nil _
theorem Qdc {h : List AB} {id : Nat} {l : List α} (hi : h[id]? = some (resB r true l)) {i : Nat} {x : α} (hl : i < l.length) (hx : (r.f x).all AV.flat = true) : stB h id (i * r.sz) (r.f x) = some (h.set id (resB r true (l.set i x))) := by
 have hle : i * r.sz + r.sz ≤ l.length * r.sz := by rw [← Nat.succ_mul]; exact Nat.mul_le_mul_right _ hl
 unfold resB at hi
 rw [if_neg (by omega)] at hi
 unfold stB
 rw [hi]
 dsimp only
 rw [if_pos ⟨by rw [r.len, r.cells_len]; exact hle, hx⟩, XZf l i x hl]
 unfold resB
 rw [List.length_set, if_neg (by omega)]
theorem qwG {h : List AB} {id : Nat} {l : List α} (hi : h[id]? = some (resB r true l)) {i n : Nat} {z : α} (hl : i + n = l.length) (hn : 0 < n) (hz : (r.f z).all AV.flat = true) : stB h id (i * r.sz) (List.replicate n (r.f z)).flatten = some (h.set id (resB r true (l.take i ++ List.replicate n z))) := by
 have hlen : (List.replicate n (r.f z)).flatten.length = n * r.sz := by rw [← Zzi, r.cells_len, List.length_replicate]
 unfold resB at hi
 rw [if_neg (by omega)] at hi
 unfold stB
 rw [hi]
 dsimp only
 have hall : (List.replicate n (r.f z)).flatten.all (wrOk true) = true := by
  rw [List.all_eq_true]
  intro x hx
  rw [List.mem_flatten] at hx
  obtain ⟨k, hk, hxk⟩ := hx
  rw [(List.mem_replicate.1 hk).2] at hxk
  exact List.all_eq_true.1 hz x hxk
 rw [if_pos ⟨by rw [hlen, ← Nat.add_mul, hl, r.cells_len]; exact Nat.le_refl _, hall⟩, K5p l i n z hl]
 unfold resB
 have e : (l.take i ++ List.replicate n z).length = l.length := by rw [List.length_append, List.length_take, List.length_replicate]; omega
 rw [e, if_neg (by omega)]
theorem qXp {h : List AB} {id : Nat} {m : Bool} {l : List α} (hi : h[id]? = some (resB r m l)) (h0 : 0 < l.length) (x : List AB) : KFh (h ++ x) id = some (r.cells l) := by
 unfold KFh
 rw [List.getElem?_append_left (List.getElem?_eq_some_iff.1 hi).1, hi]
 unfold resB
 rw [if_neg (by omega)]
theorem Zt8 {h : List AB} {id o j : Nat} {m : Bool} {l : List α} (hi : h[id]? = some (resB r m l)) (hj : j < l.length) (ho : o = j * r.sz) (x : List AB) : ldV (h ++ x) (some r.sz) (.p id o) = some (.ag (r.f (l.getD j r.d))) := by
 subst ho
 have hle : j * r.sz + r.sz ≤ l.length * r.sz := by rw [← Nat.succ_mul]; exact Nat.mul_le_mul_right _ hj
 simp only [ldV, qXp hi (by omega : 0 < l.length), Option.bind_some]
 rw [if_pos (by rw [r.cells_len]; exact hle), r.cells_drop, List.drop_eq_getElem_cons hj, List.getD_eq_getElem?_getD, List.getElem?_eq_getElem hj]
 congr 2
 exact (List.take_left' (r.len _) : (r.f l[j] ++ r.cells (l.drop (j + 1))).take r.sz = r.f l[j])
theorem z4E {h : List AB} {id o j : Nat} {l : List α} (hi : h[id]? = some (resB r true l)) (hj : j < l.length) (ho : o = j * r.sz) {y : α} (hy : (r.f y).all AV.flat = true) (x : List AB) : stV (h ++ x) (some r.sz) (.p id o) (.ag (r.f y)) = some (h.set id (resB r true (l.set j y)) ++ x) := by
 subst ho
 have hlt := (List.getElem?_eq_some_iff.1 hi).1
 have hi2 : (h ++ x)[id]? = some (resB r true l) := by rw [List.getElem?_append_left hlt]; exact hi
 simp only [stV]
 rw [if_pos (r.len y), Qdc hi2 hj hy, List.set_append_left _ _ hlt]
end
end Go.Proofs.YtcncpbcbedfakaaGreat
end
section
namespace Go.Proofs.YtcncpbcbedfakaaGreat
set_option maxRecDepth 100000
set_option maxHeartbeats 4000000
def clrV (h : List AB) (z : List AV) : AV → Option (AV × List AB)
 | .ns => some (.tu [], h)
 | .se => some (.tu [], h)
 | .sl id off n _ _ => if n = 0 then some (.tu [], h) else (stB h id off ((List.replicate n z).flatten)).map (.tu [], ·)
 | _ => none
theorem Ztl {T : Env} {fr : List AV} {h : List AB} (z : List AV) (x : Opd) : opR T (.clr z x) fr h = clrV h z (x.ev fr) := by
 show (match x.ev fr with | .ns => _ | .se => _ | .sl id off n _ _ => _ | _ => _) = _
 unfold clrV
 split <;> rfl
theorem ZfT {h : List AB} {id i n : Nat} {l : List Dg} (hi : h[id]? = some (resB idR true l)) (hl : i + n = l.length) (hn : 0 < n) (c : Nat) (x : List AB) : clrV (h ++ x) (idR.f ZxU) (.sl id (0 + i * 32) n c (some 32)) = some (.tu [], h.set id (resB idR true (l.take i ++ List.replicate n ZxU)) ++ x) := by
 have hlt := (List.getElem?_eq_some_iff.1 hi).1
 have hi2 : (h ++ x)[id]? = some (resB idR true l) := by rw [List.getElem?_append_left hlt]; exact hi
 have := qwG (r := idR) hi2 hl hn (XRx ZxU)
 simp only [clrV]
 rw [if_neg (by omega), Nat.zero_add, show i * 32 = i * idR.sz from rfl, this, List.set_append_left _ _ hlt]
 rfl
theorem JC3 {h : List AB} {id i n : Nat} {L m : List Dg} (hlt : id < h.length) (hL : L.length = n) (hi : i ≤ n) (h0 : 0 < n) (ht : L.take i = m) : Bt Tryz.prog h.length [.sl id 0 i n (some 32)] (h.set id (resB idR true L) ++ []) [rsl idR id m] (h.set id (resB idR true m)) := by
 subst ht hL
 rw [List.append_nil]
 have hb := Bt.take (P := Tryz.prog) (p := h.length) (fr := [.sl id 0 i L.length (some 32)]) (h := h.set id (resB idR true L)) (i := id) (n := i) (m := true) (l := L) (List.getElem?_set_self hlt) hi
 rw [List.set_set] at hb
 refine hb.trans (Bt.wk ⟨?_, trivial⟩)
 have e : AV.sl id 0 i L.length (some 32) = cutS (rsl idR id L) i := by
  unfold rsl
  rw [if_neg (by omega)]
  rfl
 rw [e]
 exact Q64 id hi
def cpI (l : List Dg) : List Dg := cmpL Eq l
theorem XUQ {h : List AB} {id : Nat} {B : AB} (e : h[id]? = some B) : h.set id B = h := by
 apply List.ext_getElem?
 intro j
 rw [List.getElem?_set]
 split
 ·rename_i hij
  subst hij
  first | rw [if_pos (List.getElem?_eq_some_iff.1 e).1, e] | rw [e]
 ·rfl
open Classical in
noncomputable def qiC : List AV → List AB → Option (AV × List AB)
 | [s], h => (getS idR h s).bind fun l => match idOf s with
   | [id] => if s = rsl idR id l ∧ h[id]? = some (resB idR true l) ∧ 2 ≤ l.length ∧ l.length ≤ 1000000 then some (rsl idR id (cpI l), h.set id (resB idR true (cpI l))) else none
   | _ => none
 | _, _ => none
theorem JFD : Spec Tryz.prog 68 qiC := by
 intro args h v h' e
 unfold qiC at e
 split at e
 ·rename_i s
  obtain ⟨l, hs, e⟩ := Ksw e
  split at e
  ·rename_i id hid
   split at e
   ·rename_i hc
    cases e
    obtain ⟨h1, h2, h0, h3⟩ := hc
    have hlt := (List.getElem?_eq_some_iff.1 h2).1
    have hS : rsl idR id l = .sl id 0 l.length l.length (some 32) := by unfold rsl; rw [if_neg (by omega)]; rfl
    rw [h1, hS]
    refine FnAt.c (FnAt.run (by kernel_rfl) (T := ⟨[], []⟩) ⟨trivial, trivial⟩ Tryz.func68 sw68 fun ho hh => ?_)
    have ld := fun (x : List AB) (o j : Nat) (hj : j < l.length) (q : o = j * 32) => Zt8 (r := idR) h2 hj q x
    have g0 : ((l.length : Int) < 2) = False := eq_false (by omega)
    unfold w68
    simp only [X7f, KtR, YUa, XuN, simprocAttr, lenV, g0, false_implies, true_and]
    refine KUy (S := Nat) (fun k => l.length - k) (fun k => [.sl id 0 l.length l.length (some 32)] ++ tp 2 ++ [.i .i64 k] ++ tp 57) (fun k => 0 < k ∧ k ≤ l.length ∧ ∀ j, 0 < j → j < k → ¬ l.getD j idR.d = l.getD (j - 1) idR.d) 1 ⟨Nat.one_pos, by omega, fun j a b => absurd a (by omega)⟩ (by simp only [YUa, XuN, simprocAttr]) fun k hk => ?_
    obtain ⟨hk0, hk1, hk2⟩ := hk
    by_cases hkl : k < l.length
    ·have g1 : ((k : Int) < (l.length : Int)) = True := eq_true (by omega)
     have g2 : (k - 1 < l.length) = True := eq_true (by omega)
     have e1 : IntKind.i64.wrap ((k : Int) + 1) = ((k + 1 : Nat) : Int) := ZPn (by unfold In64; omega)
     have e2 : IntKind.i64.wrap ((k : Int) - 1) = ((k - 1 : Nat) : Int) := by
      have : (k : Int) - 1 = ((k - 1 : Nat) : Int) := by omega
      rw [this]
      exact ZPn (by unfold In64; omega)
     have l1 := fun x => ld x (0 + k * 32) k hkl (by omega)
     have l2 := fun x => ld x (0 + (k - 1) * 32) (k - 1) (by omega) (by omega)
     simp only [qYM] at l1 l2
     have sK : slL 32 (.sl id 0 l.length l.length (some 32)) (some (.i .i64 (k : Int))) none none = some (.sl id (0 + k * 32) (l.length - k) (l.length - k) (some 32)) := by
      simp [slL, bnd, kcut, hkl, Nat.le_of_lt hkl, Nat.ne_of_gt hk0]
     simp only [YUa, YOR, XuN, simprocAttr, CO.tmps, Opd.tmps, optT, Nat.reducePow, Nat.reduceDiv, Nat.reduceMod, lenV, g1, g2, hkl, iadV, e1, e2, l1, l2, Y6p, AV.ok, z1J, Jmb, hlt, Nat.add_zero, if_true, true_and, decide_true, sK]
     refine ⟨fun q => ?_, fun q => ⟨k + 1, ⟨by omega, by omega, fun j a b => ?_⟩, by omega, Wk.refl _⟩⟩
     ·have hset : h.set id (resB idR true l) = h := XUQ h2
      refine QZo (S := Nat × Nat × List Dg) (fun s => l.length - s.1) (fun s => [.sl id 0 l.length l.length (some 32)] ++ tp 2 ++ [.i .i64 s.2.1, .sl id (0 + k * 32) (l.length - k) (l.length - k) (some 32), .i .i64 s.1] ++ tp 55) (fun s => h.set id (resB idR true s.2.2) ++ []) (fun s => 0 < s.1 ∧ CmpSt Eq l s.2.2 (k + s.1) s.2.1) (1, k, l) ⟨Nat.one_pos, CmpSt.first Eq l idR.d hk0 hkl hk2 q⟩ (by rw [hset]; exact Bt.wk (by simp only [YUa, XuN, simprocAttr])) fun s hs => ?_
      obtain ⟨j, i, L⟩ := s
      obtain ⟨hj0, st⟩ := hs
      dsimp only at hj0 st ⊢
      have hL := st.len
      have hi := st.lt
      have hle := st.le
      have hi2 : (h.set id (resB idR true L))[id]? = some (resB idR true L) := List.getElem?_set_self hlt
      by_cases hjl : k + j < l.length
      ·have g3 : ((j : Int) < ((l.length - k : Nat) : Int)) = True := eq_true (by omega)
       have g4 : (j < l.length - k) = True := eq_true (by omega)
       have g5 : (j - 1 < l.length - k) = True := eq_true (by omega)
       have e3 : IntKind.i64.wrap ((j : Int) + 1) = ((j + 1 : Nat) : Int) := ZPn (by unfold In64; omega)
       have e4 : IntKind.i64.wrap ((j : Int) - 1) = ((j - 1 : Nat) : Int) := by
        have : (j : Int) - 1 = ((j - 1 : Nat) : Int) := by omega
        rw [this]
        exact ZPn (by unfold In64; omega)
       have e5 : IntKind.i64.wrap ((i : Int) + 1) = ((i + 1 : Nat) : Int) := ZPn (by unfold In64; omega)
       have q1 := fun x => Zt8 (r := idR) (o := 0 + (k * 32 + j * 32)) (j := k + j) hi2 (by omega) (by rw [qYM]; omega) x
       have q2 := fun x => Zt8 (r := idR) (o := 0 + (k * 32 + (j - 1) * 32)) (j := k + j - 1) hi2 (by omega) (by rw [qYM]; omega) x
       simp only [qYM, st.getD Eq idR.d (show k + j - 1 ≤ k + j by omega), st.getD Eq idR.d (Nat.le_refl (k + j - 1))] at q1 q2
       simp only [YUa, YOR, XuN, simprocAttr, CO.tmps, Opd.tmps, optT, Nat.reducePow, Nat.reduceDiv, Nat.reduceMod, lenV, g3, g4, g5, iadV, e3, e4, e5, q1, q2, Y6p, AV.ok, z1J, Jmb, hlt, List.length_set, Nat.add_zero, if_true, true_and, decide_true]
       have q3 := fun x => z4E (r := idR) (o := 0 + i * 32) (j := i) (y := l.getD (k + j) idR.d) hi2 (by omega) (by rw [qYM]; omega) (XRx _) x
       have g6 : (i < l.length) = True := eq_true (by omega)
       simp only [qYM, List.set_set] at q3
       simp only [YUa, YOR, XuN, simprocAttr, CO.tmps, Opd.tmps, optT, Nat.reducePow, Nat.reduceDiv, Nat.reduceMod, lenV, g4, g6, iadV, q1, q3, e3, e5, false_implies]
       exact ⟨fun q => ⟨(j + 1, i + 1, L.set i (l.getD (k + j) idR.d)), ⟨Nat.succ_pos _, st.keep Eq idR.d hjl q⟩, by dsimp only; omega, Bt.wk (by simp only [YUa, XuN, simprocAttr])⟩, fun q => ⟨(j + 1, i, L), ⟨Nat.succ_pos _, st.skip Eq idR.d hjl (Classical.not_not.1 q)⟩, by dsimp only; omega, Bt.wk (by simp only [YUa, XuN, simprocAttr])⟩⟩
      ·have g3 : ((j : Int) < ((l.length - k : Nat) : Int)) = False := eq_false (by omega)
       simp only [YUa, XuN, simprocAttr, lenV, g3, false_implies, true_and]
       have g6 : (i < l.length) = True := eq_true (by omega)
       have sI : slL 32 (.sl id 0 l.length l.length (some 32)) (some (.i .i64 (i : Int))) none none = some (.sl id (0 + i * 32) (l.length - i) (l.length - i) (some 32)) := by
        have i0 : i < l.length := by omega
        simp [slL, bnd, kcut, i0, Nat.le_of_lt i0, Nat.ne_of_gt st.pos]
       have sJ : slL 32 (.sl id 0 l.length l.length (some 32)) none (some (.i .i64 (i : Int))) none = some (.sl id 0 i l.length (some 32)) := by
        have i0 : i ≤ l.length := by omega
        simp [slL, bnd, kcut, i0]
       have zi : ∀ (zl : List AV), zl = idR.f ZxU → ∀ x, clrV (h.set id (resB idR true L) ++ x) zl (.sl id (0 + i * 32) (l.length - i) (l.length - i) (some 32)) = some (.tu [], h.set id (resB idR true (L.take i ++ List.replicate (l.length - i) ZxU)) ++ x) := fun zl hz x => by
        rw [hz, ZfT hi2 (by omega) (by omega), List.set_set]
       have zj := zi _ (show (List.replicate 32 (AV.i .u8 0)) = idR.f ZxU from rfl)
       simp only [List.replicate] at zj
       simp only [YUa, XuN, simprocAttr, sI, sJ, Ztl, zj]
       have hm : (L.take i ++ List.replicate (l.length - i) ZxU).take i = cpI l := by
        rw [List.take_left' (by rw [List.length_take]; omega), st.hd]
        have : k + j = l.length := by omega
        rw [this, List.take_length]
        rfl
       exact JC3 hlt (by rw [List.length_append, List.length_take, List.length_replicate]; omega) (by omega) (by omega) hm
     ·rcases Nat.eq_or_lt_of_le (Nat.le_of_lt_succ b) with z | z
      ·subst z; exact q
      ·exact hk2 j a z
    ·have g1 : ((k : Int) < (l.length : Int)) = False := eq_false (by omega)
     simp only [YUa, XuN, simprocAttr, lenV, g1, false_implies, true_and]
     have hk3 : k = l.length := by omega
     have ha : cpI l = l := by
      unfold cpI
      have := Kyk Eq l idR.d l.length (Nat.le_refl _) (by rw [← hk3]; exact hk2)
      rwa [List.take_length] at this
     rw [ha, hS, XUQ h2]
     exact Bt.eq rfl (List.append_nil h)
   ·cases e
  ·cases e
 ·cases e
end Go.Proofs.YtcncpbcbedfakaaGreat
end
