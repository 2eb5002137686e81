/- Part 18 of what the laws' proofs rest on. No condition. -/
import Derived.Test.YtfaccliekejngaaGreatOl17
set_option linter.all false
section
namespace Go.Proofs.YtfaccliekejngaaGreat
set_option maxRecDepth 100000
set_option maxHeartbeats 4000000
open Classical in
noncomputable def KAP : List AV → List AB → Option (AV × List AB)
 | [s, .f (.func 119) [] []], h => (getS dotR h s).bind fun l => match idOf s with
   | [id] => if l.length ≤ 1000000 ∧ s = rsl dotR id l ∧ h[id]? = some (resB dotR true l) then some (.tu [], h.set id (resB dotR true (srtD l))) else none
   | _ => none
 | _, _ => none
def boxL : List AB → Nat → Option (AV × AV)
 | .blk false true [v, d] :: _, 0 => if v.isSl = true ∧ d.isSl = true then some (v, d) else none
 | _, 0 => none
 | [], _ => none
 | _ :: L, k + 1 => boxL L k
theorem JeN (v d : AV) (L : List AB) : boxL (.blk false true [v, d] :: L) 0 = if v.isSl = true ∧ d.isSl = true then some (v, d) else none := _root_.id rfl
theorem qI1 (B : AB) (L : List AB) (k : Nat) : boxL (B :: L) (k + 1) = boxL L k := by
 cases B with
 | blk fl m xs => cases fl <;> cases m <;> (match xs with | [] => rfl | [_] => rfl | [_, _] => rfl | _ :: _ :: _ :: _ => rfl)
 | _ => rfl
theorem znF : ∀ (L : List AB) (k : Nat), YzY L k = boxL L k
 | [], k => by cases k <;> simp [YzY, boxL]
 | B :: L, 0 => by
  unfold YzY boxL
  simp only [List.getElem?_cons_zero]
  split <;> split <;> simp_all
 | B :: L, k + 1 => by
  rw [qI1, ← znF L k]
  unfold YzY
  simp only [List.getElem?_cons_succ]
theorem Zkg (h L : List AB) (k : Nat) : YzY (h ++ L) (h.length + k) = boxL L k := by
 rw [← znF]
 unfold YzY
 rw [List.getElem?_append_right (by omega), Nat.add_sub_cancel_left]
theorem QlZ (h L : List AB) (k : Nat) (v d : AV) : bx2 (h ++ L) (h.length + k) v d = h ++ L.set k (.blk false true [v, d]) := by
 unfold bx2
 rw [List.set_append_right _ _ (by omega), Nat.add_sub_cancel_left]
theorem zn7 (h L : List AB) (k : Nat) : (h ++ L)[h.length + k]? = L[k]? := by rw [List.getElem?_append_right (by omega), Nat.add_sub_cancel_left]
noncomputable def Q04 : List AV → List AB → Option (AV × List AB)
 | [s, t], h => (getS intR h s).bind fun v => (getS dotR h t).bind fun ds => if ds.length ≤ 100000 then
   if YoU v ds then
    if (fmO v ds).2.length ≤ 4096 then some (.tu [.ag [rsl intR h.length (fmO v ds).1, rsl dotR (h.length + 1) (fmO v ds).2], .i .i64 0], h ++ [resB intR true (fmO v ds).1, resB dotR true (fmO v ds).2])
    else some (.tu [.ag [.ns, .ns], .i .i64 10], h)
   else some (.tu [.ag [.ns, .ns], .i .i64 3], h)
  else none
 | _, _ => none
theorem KLz {h L : List AB} {a b : Nat} {V : List Int} {D : Dots} {e : AV} {n : Nat} (hh : HOk h) (hn : n ≤ V.length) (he : e.ok (fun i => decide (i < h.length + 2)) = true) (hre : ∀ f, e.ren f = e) (hab : a ≠ b) (ha : L[a]? = some (resB intR true V)) (hb : L[b]? = some (resB dotR true D)) :
  Bt Tryz.prog h.length [.tu [.ag [cutS (rsl intR (h.length + a) V) n, apS dotR (h.length + b) D], e]] (h ++ L) [.tu [.ag [rsl intR h.length (V.take n), apS dotR (h.length + 1) D], e]] (h ++ [resB intR true (V.take n), resB dotR true D]) := by
 have s1 : Bt Tryz.prog h.length [.tu [.ag [cutS (rsl intR (h.length + a) V) n, apS dotR (h.length + b) D], e]] (h ++ L) [.tu [.ag [cutS (rsl intR (h.length + 0) V) n, apS dotR (h.length + 1) D], e]] (h ++ [resB intR true V, resB dotR true D]) := by
  refine Bt.sel [a, b] hh (by simp [hab]) (by simp only [BlkSel, ha, hb, zOX, Option.some.injEq, exists_eq_left', and_true]) ?_
  refine ⟨.inr ⟨?_, ?_⟩, trivial⟩
  ·simp only [AV.ok, okL, Bool.and_eq_true, Bool.and_true]
   exact ⟨⟨Yv3 _ _ _ (by simp), X9u _ _ _ (by simp)⟩, he⟩
  ·simp only [AV.ren, renL, Qnq, Qfy, hre]
   rw [XLJ, XLJ]
   exact Wk.refl _
 refine s1.trans ?_
 have s2 := Bt.take (P := Tryz.prog) (p := h.length) (fr := [.tu [.ag [cutS (rsl intR (h.length + 0) V) n, apS dotR (h.length + 1) D], e]]) (h := h ++ [resB intR true V, resB dotR true D]) (i := h.length + 0) (n := n) (m := true) (l := V) (by rw [zn7]; rfl) hn
 rw [List.set_append_right _ _ (by omega), Nat.add_sub_cancel_left] at s2
 refine s2.trans (Bt.wk ⟨?_, trivial⟩)
 intro ρ c hv
 cases hv with
 | tu l cs hl hv =>
  refine .tu _ cs hl fun j x c hx hc => ?_
  match j, hx with
  | 0, hx =>
   cases hx
   have h0 := hv 0 _ c rfl hc
   cases h0 with
   | ag l2 cs2 hl2 hv2 =>
    refine .ag _ cs2 hl2 fun j x c hx hc => ?_
    match j, hx with
    | 0, hx => cases hx; exact Q66 (r := intR) _ hn _ _ (hv2 0 _ c rfl hc)
    | 1, hx => cases hx; exact hv2 1 _ c rfl hc
  | 1, hx => cases hx; exact hv 1 _ c rfl hc
theorem QnR {h : List AB} {H : List AB} {V : AV} {id : Nat} {D : Dots} {e : AV} : Bt Tryz.prog h.length [.tu [.ag [V, apS dotR id D], e]] H [.tu [.ag [V, rsl dotR id D], e]] H := Bt.wk ⟨by
 intro ρ c hv
 cases hv with
 | tu l cs hl hv =>
  refine .tu _ cs hl fun j x c hx hc => ?_
  match j, hx with
  | 0, hx =>
   cases hx
   have h0 := hv 0 _ c rfl hc
   cases h0 with
   | ag l2 cs2 hl2 hv2 =>
    refine .ag _ cs2 hl2 fun j x c hx hc => ?_
    match j, hx with
    | 0, hx => cases hx; exact hv2 0 _ c rfl hc
    | 1, hx => cases hx; exact qEC (r := dotR) _ _ _ _ (hv2 1 _ c rfl hc)
  | 1, hx => cases hx; exact hv 1 _ c rfl hc, trivial⟩
theorem YHV {h L : List AB} {a b : Nat} {V : List Int} {D : Dots} {e : AV} {n : Nat} (hh : HOk h) (hn : n ≤ V.length) (he : e.ok (fun i => decide (i < h.length + 2)) = true) (hre : ∀ f, e.ren f = e) (hab : a ≠ b) (ha : L[a]? = some (resB intR true V)) (hb : L[b]? = some (resB dotR true D)) :
  Bt Tryz.prog h.length [.tu [.ag [cutS (rsl intR (h.length + a) V) n, apS dotR (h.length + b) D], e]] (h ++ L) [.tu [.ag [rsl intR h.length (V.take n), rsl dotR (h.length + 1) D], e]] (h ++ [resB intR true (V.take n), resB dotR true D]) := (KLz hh hn he hre hab ha hb).trans QnR
theorem ZMO {v : List Int} {ds : Dots} (h : YoU v ds) : (∀ n ∈ qjv [] v, n ≤ 1048576) ∧ (qjv [] v).length ≤ 16 ∧ (∀ r, vAt (qjv [] v) r = vAt v r) := by
 refine ⟨fun n hn => ?_, by rw [KY7]; have := h.1; simp; omega, fun r => ?_⟩
 ·simp only [qjv, jn, List.mem_map, List.mem_range] at hn
  obtain ⟨i, _, rfl⟩ := hn
  rw [qjp]
  have := KV5 v (fun n hn => (h.2.1 n hn).2) ((i + 1 : Nat) : Int)
  omega
 ·rw [J8E, qjp]
  have := YFV v r
  omega
theorem KyE : ∀ (l : Dots) (s : AbS), (absR s l).1.length ≤ max s.1.length 16 ∧ (absR s l).2.length ≤ s.2.length + l.length
 | [], s => ⟨by simp only [absR, List.foldl_nil]; omega, by simp only [absR, List.foldl_nil]; omega⟩
 | d :: l, s => by
  have h1 := KCj s d
  have h2 := KyE l (absD s d)
  simp only [absR, List.foldl_cons, List.length_cons] at h2 ⊢
  omega
theorem YG2 (hS : Spec Tryz.prog 118 KAP) : Spec Tryz.prog 71 Q04 := by
 intro args h v h' e
 unfold Q04 at e
 split at e
 ·rename_i s t
  obtain ⟨vs, hs, e⟩ := Ksy e
  obtain ⟨ds, ht, e⟩ := Ksy e
  split at e
  ·rename_i hl
   by_cases hr : YoU vs ds
   ·rw [if_pos hr] at e
    have gr : YoU vs ds = True := eq_true hr
    obtain ⟨n1, n2, n3⟩ := ZMO hr
    have hfm := QpE (x := qjv [] vs) (ds := ds) hr n2 (K9b [] vs) n3
    have l16 := hr.1
    have gd : ∀ d ∈ srtD ds, qu3 d := fun d hd => hr.2.2 d ((K3H ds d).1 hd)
    have gc : ((qjv [] vs).length ≤ 100000 ∧ (srtD ds).length ≤ 100000 ∧ (∀ n ∈ qjv [] vs, n ≤ 1048576) ∧ ∀ d ∈ srtD ds, qu3 d) = True := eq_true ⟨by omega, by rw [Xcg]; exact hl, n1, gd⟩
    have g1 : (ds.length ≤ 1000000) = True := eq_true (by omega)
    have g2 : (vs.length ≤ 1000000) = True := eq_true (by omega)
    have g3 : (ds.length ≤ maxLen) = True := eq_true (by unfold maxLen; omega)
    have g4 : ((srtD ds).length ≤ maxLen) = True := eq_true (by rw [Xcg]; unfold maxLen; omega)
    have g5 : ((qjv [] vs).length ≤ maxLen) = True := eq_true (by unfold maxLen; omega)
    have hfm1 : (fmO vs ds).1 = (absR (qjv [] vs, []) (srtD ds)).1.take (topI (absR (qjv [] vs, []) (srtD ds)).1 (absR (qjv [] vs, []) (srtD ds)).1.length) := by
     rw [← hfm]
     exact qDh _ _ (Nat.le_refl _)
    have hfm2 : (fmO vs ds).2 = (absR (qjv [] vs, []) (srtD ds)).2 := by rw [← hfm]; rfl
    have htr := qDh (absR (qjv [] vs, []) (srtD ds)).1 (absR (qjv [] vs, []) (srtD ds)).1.length (Nat.le_refl _)
    have hti := ZsZ (absR (qjv [] vs, []) (srtD ds)).1 (absR (qjv [] vs, []) (srtD ds)).1.length
    rw [hfm1, hfm2] at e
    have g0 : (([] : List Int).length ≤ 1000000) = True := eq_true (Nat.zero_le _)
    have gsr : ∀ id, rsl dotR id ds = rsl dotR id (srtD ds) := fun id => by unfold rsl; rw [Xcg]
    have gA : ((absR (qjv [] vs, []) (srtD ds)).1.length ≤ maxLen) = True := eq_true (by have := (KyE (srtD ds) (qjv [] vs, [])).1; simp only at this; unfold maxLen; omega)
    have gB : ((absR (qjv [] vs, []) (srtD ds)).2.length ≤ maxLen) = True := eq_true (by have := (KyE (srtD ds) (qjv [] vs, [])).2; rw [Xcg] at this; simp only [List.length_nil] at this; unfold maxLen; omega)
    have hlen : (YsI (absR (qjv [] vs, []) (srtD ds)).1 (absR (qjv [] vs, []) (srtD ds)).1.length).length = topI (absR (qjv [] vs, []) (srtD ds)).1 (absR (qjv [] vs, []) (srtD ds)).1.length := by
     rw [htr, List.length_take]
     omega
    have FA : FnAt Tryz.prog 71 [s, t] h v h' := by
     refine FnAt.run (by kernel_rfl) (T := ⟨[⟨92, KNU, fun _ => []⟩, ⟨72, Q8q, fun _ => []⟩, ⟨118, KAP, fun _ => []⟩, ⟨101, zrS, fun _ => []⟩, ⟨102, zOG, fun _ => []⟩, ⟨103, Jut, fun _ => []⟩, ⟨104, Qvy, fun _ => []⟩], []⟩) ⟨⟨QkU, XKA, hS, XUy, Xdg, Ztz, q5U, trivial⟩, trivial⟩ Tryz.func71 sw71 fun ho hh => ?_
     simp only [Xtq, J9R, Bool.and_eq_true] at ho
     have f1 := hs.fx ho.1 (sz := 1) rfl
     have f2 := ht.fx ho.2.1 (sz := 2) rfl
     unfold w71
     by_cases hq : (absR (qjv [] vs, []) (srtD ds)).1 = qjv [] vs
     ·have gq := eq_true hq
      simp only [X7h, KtT, YUc, XuP, simprocAttr, f1, f2, KNU, gr, Q8q, KAP, zrS, g1, g2, g3, g4, g5, gc, gq, gA, gB, g0, Zkg, JeN, qI1, QlZ, zn7, Ju7, ZTH, JMJ, AV.isNs, Ycf, nsSl, JFt]
      simp only [YUc, XuP, simprocAttr, gsr, zOG, Jut, Qvy, g1, g2, g3, g4, g5, gc, gq, gA, gB, Zkg, JeN, qI1, QlZ, zn7, Ju7, ZTH, JMJ, AV.isNs, Ycf, nsSl, JFt]
      refine ⟨fun q => q.elim, ?_⟩
      by_cases h6 : (fmO vs ds).2.length ≤ 4096
      ·have g6 : ((4096 : Int) < ((absR (qjv [] vs, []) (srtD ds)).2.length : Int)) = False := eq_false (by rw [← hfm2]; omega)
       rw [hfm2] at h6
       rw [if_pos h6] at e
       cases e
       simp only [YUc, XuP, simprocAttr, g6, YhE, JfU, QF3]
       rw [hq] at hlen hti ⊢
       rw [hlen]
       refine YHV (a := 3) (b := 4) hh hti ?_ (fun _ => ?_) (by decide) ?_ ?_ <;> rfl
      ·have g6 : ((4096 : Int) < ((absR (qjv [] vs, []) (srtD ds)).2.length : Int)) = True := eq_true (by rw [← hfm2]; omega)
       rw [hfm2] at h6
       rw [if_neg h6] at e
       cases e
       simp only [YUc, XuP, simprocAttr, g6, YhE, JfU, QF3]
       exact Bt.drop _ hh rfl (by simp [AV.ok, okL])
     ·have gq := eq_false hq
      simp only [X7h, KtT, YUc, XuP, simprocAttr, f1, f2, KNU, gr, Q8q, KAP, zrS, g1, g2, g3, g4, g5, gc, gq, gA, gB, g0, Zkg, JeN, qI1, QlZ, zn7, Ju7, ZTH, JMJ, AV.isNs, Ycf, nsSl, JFt]
      simp only [YUc, XuP, simprocAttr, gsr, zOG, Jut, Qvy, g1, g2, g3, g4, g5, gc, gq, gA, gB, Zkg, JeN, qI1, QlZ, zn7, Ju7, ZTH, JMJ, AV.isNs, Ycf, nsSl, JFt]
      refine ⟨fun q => q.elim, ?_⟩
      by_cases h6 : (fmO vs ds).2.length ≤ 4096
      ·have g6 : ((4096 : Int) < ((absR (qjv [] vs, []) (srtD ds)).2.length : Int)) = False := eq_false (by rw [← hfm2]; omega)
       rw [hfm2] at h6
       rw [if_pos h6] at e
       cases e
       simp only [YUc, XuP, simprocAttr, g6, YhE, JfU, QF3]
       rw [hlen]
       refine YHV (a := 4) (b := 5) hh hti ?_ (fun _ => ?_) (by decide) ?_ ?_ <;> rfl
      ·have g6 : ((4096 : Int) < ((absR (qjv [] vs, []) (srtD ds)).2.length : Int)) = True := eq_true (by rw [← hfm2]; omega)
       rw [hfm2] at h6
       rw [if_neg h6] at e
       cases e
       simp only [YUc, XuP, simprocAttr, g6, YhE, JfU, QF3]
       exact Bt.drop _ hh rfl (by simp [AV.ok, okL])
    exact FA.c
   ·rw [if_neg hr] at e
    have gr : YoU vs ds = False := eq_false hr
    cases e
    refine FnAt.c (FnAt.run (by kernel_rfl) (T := ⟨[⟨92, KNU, fun _ => []⟩], []⟩) ⟨⟨QkU, trivial⟩, trivial⟩ Tryz.func71 sw71 fun ho hh => ?_)
    simp only [Xtq, J9R, Bool.and_eq_true] at ho
    have f1 := hs.fx ho.1 (sz := 1) rfl
    have f2 := ht.fx ho.2.1 (sz := 2) rfl
    unfold w71
    simp only [X7h, KtT, YUc, XuP, simprocAttr, f1, f2, KNU, gr]
    exact ⟨Bt.drop _ hh rfl (by simp [AV.ok, okL]), fun q => q⟩
  ·cases e
 ·cases e
end Go.Proofs.YtfaccliekejngaaGreat
end
section
namespace Go.Proofs.YtfaccliekejngaaGreat
set_option maxRecDepth 100000
set_option maxHeartbeats 4000000
noncomputable def zad : List AV → List AB → Option (AV × List AB)
 | [a, b], h => (getS Qv4 h a).bind fun xs => (getS Qv4 h b).bind fun ys => some (.b (decide (xs = ys)), h)
 | _, _ => none
theorem z9C : Spec Tryz.prog 64 zad := by
 intro args h v h' e
 unfold zad at e
 split at e
 ·rename_i a b
  obtain ⟨xs, ha, e⟩ := Ksy e
  obtain ⟨ys, hb, e⟩ := Ksy e
  cases e
  refine FnAt.c (FnAt.frz0 fun hz => ?_)
  replace ha := ha.frz
  replace hb := hb.frz
  generalize h.map AB.freeze = h at *
  refine FnAt.run (by kernel_rfl) (T := ⟨[], []⟩) ⟨trivial, trivial⟩ Tryz.func64 sw64 fun ho hh => ?_
  simp only [Xtq, Bool.and_eq_true] at ho
  have fa := ha.fx ho.1 (sz := 34) rfl
  have fb := hb.fx ho.2.1 (sz := 34) rfl
  unfold w64
  simp only [X7h, KtT, YUc, XuP, simprocAttr, fa, fb]
  refine KUA (S := Nat) (fun i => xs.length - i) (fun i => [a, b] ++ tp 3 ++ [.b (decide (xs.length = ys.length ∧ xs.take i = ys.take i)), .i .i64 i] ++ tp 24) (fun i => xs.length = ys.length → i ≤ xs.length) 0 (fun _ => Nat.zero_le _) (by simp only [YUc, XuP, simprocAttr, List.take_zero]) fun i hi => ?_
  simp only [YUc, XuP, simprocAttr, fa, fb]
  refine ⟨fun h1 => ⟨fun h2 => ?_, fun h2 => ?_⟩, fun h1 => ?_⟩
  ·have h3 : i < ys.length := by omega
   have e1 : IntKind.i64.wrap ((i : Int) + 1) = ((i + 1 : Nat) : Int) := ZPp (by have := ha.2; unfold maxLen at this; unfold In64; omega)
   simp only [YUc, YOT, XuP, simprocAttr, CO.tmps, Opd.tmps, optT, Nat.reducePow, Nat.reduceDiv, Nat.reduceMod, fa, fb, h2, h3, XjA, YiU, Nat.zero_lt_one, e1]
   refine ⟨i + 1, fun _ => h2, by omega, ?_, Wk.refl _⟩
   have e2 : (xs.length = ys.length ∧ xs.take (i + 1) = ys.take (i + 1)) = (xs.getD i Qv4.d = ys.getD i Qv4.d) := propext (by rw [and_iff_right h1.1]; exact KPP _ h2 h3 h1.2)
   simp only [e2, Khe]
  ·exact Bt.eq (by simp only [AV.b.injEq, decide_eq_decide]; exact q1W (by omega)) (List.append_nil h)
  ·exact Bt.eq (by simp only [AV.b.injEq, decide_eq_decide]; exact iff_of_false h1 (Qn7 h1)) (List.append_nil h)
 ·cases e
noncomputable def XSZ : List AV → List AB → Option (AV × List AB)
 | [a, b], h => (getS idR h a).bind fun xs => (getS idR h b).bind fun ys => some (.b (decide (xs = ys)), h)
 | _, _ => none
theorem qb7 : Spec Tryz.prog 29 XSZ := by
 intro args h v h' e
 unfold XSZ at e
 split at e
 ·rename_i a b
  obtain ⟨xs, ha, e⟩ := Ksy e
  obtain ⟨ys, hb, e⟩ := Ksy e
  cases e
  refine FnAt.c (FnAt.frz0 fun hz => ?_)
  replace ha := ha.frz
  replace hb := hb.frz
  generalize h.map AB.freeze = h at *
  refine FnAt.run (by kernel_rfl) (T := ⟨[], []⟩) ⟨trivial, trivial⟩ Tryz.func29 sw29 fun ho hh => ?_
  simp only [Xtq, Bool.and_eq_true] at ho
  have fa := ha.fx ho.1 (sz := 32) rfl
  have fb := hb.fx ho.2.1 (sz := 32) rfl
  unfold w29
  simp only [X7h, KtT, YUc, XuP, simprocAttr, fa, fb]
  refine KUA (S := Nat) (fun i => xs.length - i) (fun i => [a, b] ++ tp 3 ++ [.b (decide (xs.length = ys.length ∧ xs.take i = ys.take i)), .i .i64 i] ++ tp 24) (fun i => xs.length = ys.length → i ≤ xs.length) 0 (fun _ => Nat.zero_le _) (by simp only [YUc, XuP, simprocAttr, List.take_zero]) fun i hi => ?_
  simp only [YUc, XuP, simprocAttr, fa, fb]
  refine ⟨fun h1 => ⟨fun h2 => ?_, fun h2 => ?_⟩, fun h1 => ?_⟩
  ·have h3 : i < ys.length := by omega
   have e1 : IntKind.i64.wrap ((i : Int) + 1) = ((i + 1 : Nat) : Int) := ZPp (by have := ha.2; unfold maxLen at this; unfold In64; omega)
   simp only [YUc, YOT, XuP, simprocAttr, CO.tmps, Opd.tmps, optT, Nat.reducePow, Nat.reduceDiv, Nat.reduceMod, fa, fb, h2, h3, Y6r, Jmd, Nat.zero_lt_one, e1]
   refine ⟨i + 1, fun _ => h2, by omega, ?_, Wk.refl _⟩
   have e2 : (xs.length = ys.length ∧ xs.take (i + 1) = ys.take (i + 1)) = (xs.getD i idR.d = ys.getD i idR.d) := propext (by rw [and_iff_right h1.1]; exact KPP _ h2 h3 h1.2)
   simp only [e2, Khe]
  ·exact Bt.eq (by simp only [AV.b.injEq, decide_eq_decide]; exact q1W (by omega)) (List.append_nil h)
  ·exact Bt.eq (by simp only [AV.b.injEq, decide_eq_decide]; exact iff_of_false h1 (Qn7 h1)) (List.append_nil h)
 ·cases e
noncomputable def QWD : List AV → List AB → Option (AV × List AB)
 | [.ag [l, v, d], .ag [l', v', d']], h => (getS Qv4 h l).bind fun hs => (getS intR h v).bind fun xs => (getS dotR h d).bind fun ds => (getS Qv4 h l').bind fun hs' => (getS intR h v').bind fun xs' => (getS dotR h d').bind fun ds' =>
   some (.b (decide (hs = hs' ∧ xs = xs' ∧ ds = ds')), h)
 | _, _ => none
noncomputable def YkE : List AV → List AB → Option (AV × List AB)
 | [.ag [l, v, d]], h => (getS Qv4 h l).bind fun hs => (getS intR h v).bind fun xs => (getS dotR h d).bind fun ds => if hs.length ≤ 1000000 ∧ xs.length ≤ 1000000 ∧ ds.length ≤ 1000000 then
   some (.ag [rsl Qv4 h.length hs, rsl intR (h.length + 1) xs, rsl dotR (h.length + 2) ds], h ++ [resB Qv4 true hs, resB intR true xs, resB dotR true ds]) else none
 | _, _ => none
noncomputable def Zje : List AV → List AB → Option (AV × List AB)
 | [.ag [l, s, t]], h => (getS Qv4 h l).bind fun hs => (getS intR h s).bind fun v => (getS dotR h t).bind fun ds => some (.b (decide (20 < hs.length ∨ 20 < v.length ∨ 30 < ds.length)), h)
 | _, _ => none
end Go.Proofs.YtfaccliekejngaaGreat
end
section
namespace Go.Proofs.YtfaccliekejngaaGreat
set_option maxRecDepth 100000
set_option maxHeartbeats 4000000
theorem Ygb {α : Type} (r : Row α) (m : Bool) : resB r m [] = .dead := _root_.id rfl
end Go.Proofs.YtfaccliekejngaaGreat
end
section
namespace Go.Proofs.YtfaccliekejngaaGreat
set_option maxRecDepth 100000
set_option maxHeartbeats 4000000
theorem JbQ : Spec Tryz.prog 19 QWD := by
 intro args h v h' e
 unfold QWD at e
 split at e
 ·rename_i l s t l' s' t'
  obtain ⟨hs, hl, e⟩ := Ksy e
  obtain ⟨xs, hv, e⟩ := Ksy e
  obtain ⟨ds, hd, e⟩ := Ksy e
  obtain ⟨hs', hl', e⟩ := Ksy e
  obtain ⟨xs', hv', e⟩ := Ksy e
  obtain ⟨ds', hd', e⟩ := Ksy e
  cases e
  refine FnAt.c (FnAt.run (by kernel_rfl) (T := ⟨[⟨64, zad, fun _ => []⟩, ⟨23, Qd4, fun _ => []⟩], []⟩) ⟨⟨z9C, qVt, trivial⟩, trivial⟩ Tryz.func19 sw19 fun ho hh => ?_)
  simp only [Xtq, J9R, Bool.and_eq_true] at ho
  have f1 := hl.fx ho.1.1 (sz := 34) rfl
  have f2 := hv.fx ho.1.2.1 (sz := 1) rfl
  have f3 := hd.fx ho.1.2.2.1 (sz := 2) rfl
  have f4 := hl'.fx ho.2.1.1 (sz := 34) rfl
  have f5 := hv'.fx ho.2.1.2.1 (sz := 1) rfl
  have f6 := hd'.fx ho.2.1.2.2.1 (sz := 2) rfl
  unfold w19
  simp only [X7h, KtT, YUc, YOT, XuP, simprocAttr, CO.tmps, Opd.tmps, optT, Nat.reducePow, Nat.reduceDiv, Nat.reduceMod, f1, f2, f3, f4, f5, f6, zad, Qd4]
  refine ⟨fun h1 => Bt.dropB _ hh (by simp [h1]), fun h1 => Bt.dropB _ hh (by simp [h1])⟩
 ·cases e
theorem zYU : Spec Tryz.prog 10 Zje := by
 intro args h v h' e
 unfold Zje at e
 split at e
 ·rename_i l s t
  obtain ⟨hs, hl, e⟩ := Ksy e
  obtain ⟨xs, hv, e⟩ := Ksy e
  obtain ⟨ds, hd, e⟩ := Ksy e
  cases e
  refine FnAt.c (FnAt.run (by kernel_rfl) (T := ⟨[⟨11, qBn, fun _ => []⟩], []⟩) ⟨⟨zma, trivial⟩, trivial⟩ Tryz.func10 sw10 fun ho hh => ?_)
  simp only [Xtq, J9R, Bool.and_eq_true] at ho
  have f1 := hl.fx ho.1.1 (sz := 34) rfl
  have f2 := hv.fx ho.1.2.1 (sz := 1) rfl
  have f3 := hd.fx ho.1.2.2.1 (sz := 2) rfl
  unfold w10
  simp only [X7h, KtT, YUc, YOT, XuP, simprocAttr, CO.tmps, Opd.tmps, optT, Nat.reducePow, Nat.reduceDiv, Nat.reduceMod, f1, f2, f3, qBn]
  refine ⟨fun q => Bt.dropB _ hh (decide_eq_true (.inl (by omega))).symm, fun q => Bt.dropB _ hh (decide_eq_decide.2 ?_)⟩
  omega
 ·cases e
end Go.Proofs.YtfaccliekejngaaGreat
end
section
namespace Go.Proofs.YtfaccliekejngaaGreat
set_option maxRecDepth 100000
set_option maxHeartbeats 4000000
noncomputable def KW8 : List AV → List AB → Option (AV × List AB)
 | [.ag [n, k, v, d], .ag [n', k', v', d']], h => (getS Qv4 h n).bind fun hs => (getS dotR h k).bind fun ks => (getS intR h v).bind fun xs => (getS dotR h d).bind fun ds => (getS Qv4 h n').bind fun hs' => (getS dotR h k').bind fun ks' => (getS intR h v').bind fun xs' => (getS dotR h d').bind fun ds' =>
   some (.b (decide (hs = hs' ∧ ks = ks' ∧ xs = xs' ∧ ds = ds')), h)
 | _, _ => none
theorem KQk : Spec Tryz.prog 20 KW8 := by
 intro args h v h' e
 unfold KW8 at e
 split at e
 ·rename_i n k s t n' k' s' t'
  obtain ⟨hs, hl, e⟩ := Ksy e
  obtain ⟨ks, hk, e⟩ := Ksy e
  obtain ⟨xs, hv, e⟩ := Ksy e
  obtain ⟨ds, hd, e⟩ := Ksy e
  obtain ⟨hs', hl', e⟩ := Ksy e
  obtain ⟨ks', hk', e⟩ := Ksy e
  obtain ⟨xs', hv', e⟩ := Ksy e
  obtain ⟨ds', hd', e⟩ := Ksy e
  cases e
  refine FnAt.c (FnAt.run (by kernel_rfl) (T := ⟨[⟨64, zad, fun _ => []⟩, ⟨65, z9v, fun _ => []⟩, ⟨23, Qd4, fun _ => []⟩], []⟩) ⟨⟨z9C, Q1G, qVt, trivial⟩, trivial⟩ Tryz.func20 sw20 fun ho hh => ?_)
  simp only [Xtq, J9R, Bool.and_eq_true] at ho
  have f1 := hl.fx ho.1.1 (sz := 34) rfl
  have f2 := hk.fx ho.1.2.1 (sz := 2) rfl
  have f3 := hv.fx ho.1.2.2.1 (sz := 1) rfl
  have f4 := hd.fx ho.1.2.2.2.1 (sz := 2) rfl
  have f5 := hl'.fx ho.2.1.1 (sz := 34) rfl
  have f6 := hk'.fx ho.2.1.2.1 (sz := 2) rfl
  have f7 := hv'.fx ho.2.1.2.2.1 (sz := 1) rfl
  have f8 := hd'.fx ho.2.1.2.2.2.1 (sz := 2) rfl
  unfold w20
  simp only [X7h, KtT, YUc, YOT, XuP, simprocAttr, CO.tmps, Opd.tmps, optT, Nat.reducePow, Nat.reduceDiv, Nat.reduceMod, f1, f2, f3, f4, f5, f6, f7, f8, zad, z9v, Qd4]
  refine ⟨fun h1 => ⟨fun h2 => ?_, fun h2 => ?_⟩, fun h1 => ?_⟩ <;> exact Bt.dropB _ hh (by simp [*])
 ·cases e
end Go.Proofs.YtfaccliekejngaaGreat
end
section
namespace Go.Proofs.YtfaccliekejngaaGreat
set_option maxRecDepth 100000
set_option maxHeartbeats 4000000
noncomputable def qGH : List AV → List AB → Option (AV × List AB)
 | [.ag [.i .i64 a, .i .i64 b], .p i 0], h => match KFj h i with
  | some [s, t] => (getS intR h s).bind fun v => (getS dotR h t).bind fun ds => if ds.length ≤ 1000000 then some (.b (decide (¬ KOz v ds (a, b))), h) else none
  | _ => none
 | _, _ => none
theorem YCe : Spec Tryz.prog 99 qGH := by
 intro args h v h' e
 unfold qGH at e
 split at e
 ·rename_i a b i
  split at e
  ·rename_i s t hb
   obtain ⟨vs, hs, e⟩ := Ksy e
   obtain ⟨ds, ht, e⟩ := Ksy e
   split at e
   ·rename_i hl
    cases e
    refine FnAt.c (FnAt.run (by kernel_rfl) (T := ⟨[⟨97, zMT, fun _ => []⟩], []⟩) ⟨⟨XDf, trivial⟩, trivial⟩ Tryz.func99 sw99 fun ho hh => ?_)
    have fb : ∀ x, ldV (h ++ x) (some 2) (.p i 0) = some (.ag [s, t]) := fun x => by
     have hi := Jv6 hb
     have h2 : KFj (h ++ x) i = some [s, t] := by
      unfold KFj at hb ⊢
      rw [List.getElem?_append_left hi]
      exact hb
     simp only [ldV, h2, Option.bind_some]
     rfl
    unfold w99
    have k1 : ∀ x, getS intR (h ++ x) s = some vs := fun x => (hs.app x).get
    have k2 : ∀ x, getS dotR (h ++ x) t = some ds := fun x => (ht.app x).get
    simp only [X7h, KtT, YUc, XuP, simprocAttr, fb, k1, k2, hl, zMT]
    exact Bt.dropB _ hh (by simp)
   ·cases e
  ·cases e
 ·cases e
noncomputable def Qeu : List AV → List AB → Option (AV × List AB)
 | [s, .f (.func 99) [] [.p i 0]], h => match KFj h i with
  | some [sb, tb] => (getS intR h sb).bind fun v => (getS dotR h tb).bind fun ds => (getS dotR h s).bind fun l => if ds.length ≤ 1000000 then some (.i .i64 (idx (fun d : Int × Int => ¬ KOz v ds d) l), h) else none
  | _ => none
 | _, _ => none
theorem ZlE : Spec Tryz.prog 136 Qeu := by
 intro args h v h' e
 unfold Qeu at e
 split at e
 ·rename_i s i
  split at e
  ·rename_i sb tb hb
   obtain ⟨vs, hs, e⟩ := Ksy e
   obtain ⟨ds, ht, e⟩ := Ksy e
   obtain ⟨l, hx, e⟩ := Ksy e
   split at e
   ·rename_i hl
    cases e
    refine FnAt.c (FnAt.run (by kernel_rfl) (T := ⟨[⟨99, qGH, fun _ => []⟩], []⟩) ⟨⟨YCe, trivial⟩, trivial⟩ Tryz.func136 Xu1 fun ho hh => ?_)
    simp only [Xtq, Bool.and_eq_true] at ho
    have f1 := hx.fx ho.1 (sz := 2) rfl
    have k0 : ∀ x, KFj (h ++ x) i = some [sb, tb] := (YMl hb).1
    have k1 : ∀ x, getS intR (h ++ x) sb = some vs := fun x => (hs.app x).get
    have k2 : ∀ x, getS dotR (h ++ x) tb = some ds := fun x => (ht.app x).get
    unfold w136
    simp only [X7h, KtT, YUc, XuP, simprocAttr, f1]
    refine KUA (S := Nat) (fun j => l.length - j) (fun j => [s, .f (.func 99) [] [.p i 0]] ++ tp 5 ++ [.i .i64 l.length, .i .i64 j] ++ tp 10) (fun j => j ≤ l.length ∧ idx (fun d : Int × Int => ¬ KOz vs ds d) l = qVz (fun d : Int × Int => ¬ KOz vs ds d) (l.drop j) j) 0 ⟨Nat.zero_le _, rfl⟩ (by simp only [YUc, XuP, simprocAttr]) fun j hj => ?_
    simp only [YUc, XuP, simprocAttr, f1]
    refine ⟨fun h2 => ?_, fun h2 => ?_⟩
    ·have e1 : IntKind.i64.wrap ((j : Int) + 1) = ((j + 1 : Nat) : Int) := ZPp (by have := hx.2; unfold maxLen at this; unfold In64; omega)
     have e2 := JXZ (fun d : Int × Int => ¬ KOz vs ds d) dotR.d j h2
     simp only [YUc, XuP, simprocAttr, f1, h2, X5L, e1, qGH, k0, k1, k2, hl, XWZ]
     refine ⟨fun h3 => Bt.eq (by rw [hj.2, e2, if_pos h3]) (List.append_nil h), fun h3 => ⟨j + 1, ⟨h2, ?_⟩, by omega, Wk.refl _⟩⟩
     rw [hj.2, e2, if_neg h3]
    ·exact Bt.eq (by rw [hj.2, List.drop_eq_nil_of_le (by omega)]; rfl) (List.append_nil h)
   ·cases e
  ·cases e
 ·cases e
noncomputable def ZNR : List AV → List AB → Option (AV × List AB)
 | [s, .f (.func 99) [] [.p i 0]], h => match KFj h i with
  | some [sb, tb] => (getS intR h sb).bind fun v => (getS dotR h tb).bind fun ds => (getS dotR h s).bind fun l => if ds.length ≤ 1000000 then some (.b (decide (∃ d ∈ l, ¬ KOz v ds d)), h) else none
  | _ => none
 | _, _ => none
theorem KsW : Spec Tryz.prog 98 ZNR := by
 intro args h v h' e
 unfold ZNR at e
 split at e
 ·rename_i s i
  split at e
  ·rename_i sb tb hb
   obtain ⟨vs, hs, e⟩ := Ksy e
   obtain ⟨ds, ht, e⟩ := Ksy e
   obtain ⟨l, hx, e⟩ := Ksy e
   split at e
   ·rename_i hl
    cases e
    refine FnAt.c (FnAt.run (by kernel_rfl) (T := ⟨[⟨136, Qeu, fun _ => []⟩], []⟩) ⟨⟨ZlE, trivial⟩, trivial⟩ Tryz.func98 sw98 fun ho hh => ?_)
    simp only [Xtq, Bool.and_eq_true] at ho
    have f1 := hx.fx ho.1 (sz := 2) rfl
    have k0 : ∀ x, KFj (h ++ x) i = some [sb, tb] := (YMl hb).1
    have k1 : ∀ x, getS intR (h ++ x) sb = some vs := fun x => (hs.app x).get
    have k2 : ∀ x, getS dotR (h ++ x) tb = some ds := fun x => (ht.app x).get
    unfold w98
    simp only [X7h, KtT, YUc, XuP, simprocAttr, f1, Qeu, k0, k1, k2, hl]
    exact Bt.eq (by simp only [AV.b.injEq, decide_eq_decide]; exact J0J (fun d : Int × Int => ¬ KOz vs ds d) l) (List.append_nil h)
   ·cases e
  ·cases e
 ·cases e
end Go.Proofs.YtfaccliekejngaaGreat
end
section
namespace Go.Proofs.YtfaccliekejngaaGreat
set_option maxRecDepth 100000
set_option maxHeartbeats 4000000
def rAt (v : List Int) (r : Int) : Int := if r < 1 ∨ (v.length : Int) < r then 0 else v.getD (r - 1).toNat 0
noncomputable def qWH : List AV → List AB → Option (AV × List AB)
 | [.ag [s, t], .i .i64 r], h => (getS intR h s).bind fun v => (getS dotR h t).bind fun _ => some (.i .i64 (rAt v r), h)
 | _, _ => none
def YC2 (v : List Int) (ds : Dots) (d : Int × Int) : Prop := (1 ≤ d.2 ∧ d.2 ≤ rAt v d.1) ∨ d ∈ ds
instance (v : List Int) (ds : Dots) (d : Int × Int) : Decidable (YC2 v ds d) := by unfold YC2; infer_instance
noncomputable def J3z : List AV → List AB → Option (AV × List AB)
 | [.ag [s, t], .ag [.i .i64 a, .i .i64 b]], h => (getS intR h s).bind fun v => (getS dotR h t).bind fun ds => some (.b (decide (YC2 v ds (a, b))), h)
 | _, _ => none
noncomputable def JH4 : List AV → List AB → Option (AV × List AB)
 | [.ag [s, t], .ag [.i .i64 a, .i .i64 b]], h => (getS intR h s).bind fun v => (getS dotR h t).bind fun ds => some (.b (decide (ZmB v ds = 0 ∧ YC2 v ds (a, b))), h)
 | _, _ => none
end Go.Proofs.YtfaccliekejngaaGreat
end
section
namespace Go.Proofs.YtfaccliekejngaaGreat
set_option maxRecDepth 100000
set_option maxHeartbeats 4000000
theorem Jz5 (v : List Int) (h : ∀ n ∈ v, 0 ≤ n ∧ n ≤ 1048576) (r : Int) : 0 ≤ rAt v r ∧ rAt v r ≤ 1048576 := by
 unfold rAt
 split
 ·omega
 ·rw [List.getD_eq_getElem?_getD]
  cases e : v[(r - 1).toNat]? with
  | none => simp
  | some x => exact h x (List.mem_of_getElem? e)
end Go.Proofs.YtfaccliekejngaaGreat
end
section
namespace Go.Proofs.YtfaccliekejngaaGreat
set_option maxRecDepth 100000
set_option maxHeartbeats 4000000
def K3S (v v' : List Int) (n : Nat) : List Int := (List.range n).map fun i => max (rAt v ((i + 1 : Nat) : Int)) (rAt v' ((i + 1 : Nat) : Int))
theorem Yo4 (v v' : List Int) (n : Nat) : (K3S v v' n).length = n := by simp [K3S]
theorem K9R (v v' : List Int) (h : ∀ n ∈ v, 0 ≤ n ∧ n ≤ 1048576) (h' : ∀ n ∈ v', 0 ≤ n ∧ n ≤ 1048576) (n : Nat) : ∀ x ∈ K3S v v' n, 0 ≤ x ∧ x ≤ 1048576 := fun x hx => by
 obtain ⟨i, -, rfl⟩ := List.mem_map.1 hx
 have h1 := Jz5 v h ((i + 1 : Nat) : Int)
 have h2 := Jz5 v' h' ((i + 1 : Nat) : Int)
 omega
theorem JT8 {v v' : List Int} {ds ds' : Dots} (h : YoU v ds) (h' : YoU v' ds') : YoU (K3S v v' 16) (ds ++ ds') :=
 ⟨by rw [Yo4]; omega, K9R v v' h.2.1 h'.2.1 16, fun d hd => (List.mem_append.1 hd).elim (h.2.2 d) (h'.2.2 d)⟩
end Go.Proofs.YtfaccliekejngaaGreat
end
section
namespace Go.Proofs.YtfaccliekejngaaGreat
set_option maxRecDepth 100000
set_option maxHeartbeats 4000000
def QPd (v v' : List Int) (ds' : Dots) (r : Nat) : Prop := ∀ n, vAt v' ((r + 1 : Nat) : Int) < n → n ≤ v.getD r 0 → KOz v' ds' (((r + 1 : Nat) : Int), n)
def leqC (v : List Int) (ds : Dots) (v' : List Int) (ds' : Dots) : Prop := (∀ r, r < v.length → QPd v v' ds' r) ∧ ∀ d ∈ ds, KOz v' ds' d
noncomputable instance (v : List Int) (ds : Dots) (v' : List Int) (ds' : Dots) : Decidable (leqC v ds v' ds') := Classical.propDecidable _
noncomputable def Zvq (chk : List Int → Dots → Int) : List AV → List AB → Option (AV × List AB)
 | [.ag [s, t], .ag [s', t']], h => (getS intR h s).bind fun v => (getS dotR h t).bind fun ds => (getS intR h s').bind fun v' => (getS dotR h t').bind fun ds' =>
   some (.tu [.b (decide (chk v ds = 0 ∧ chk v' ds' = 0 ∧ leqC v ds v' ds')), .i .i64 (if chk v ds = 0 then chk v' ds' else chk v ds)], h)
 | _, _ => none
theorem qnl (chk : List Int → Dots → Int) (h0 : ∀ v ds, chk v ds = 0 → YoU v ds ∧ ds.length ≤ 4096) (hC : Spec Tryz.prog 47 (qVB chk)) : Spec Tryz.prog 48 (Zvq chk) := by
 intro args h v h' e
 unfold Zvq at e
 split at e
 ·rename_i s t s' t'
  obtain ⟨vs, hs, e⟩ := Ksy e
  obtain ⟨ds, ht, e⟩ := Ksy e
  obtain ⟨vs', hs', e⟩ := Ksy e
  obtain ⟨ds', ht', e⟩ := Ksy e
  cases e
  refine FnAt.c (FnAt.run (by kernel_rfl) (T := ⟨[⟨95, J9y chk, fun _ => []⟩, ⟨96, T_At, fun _ => []⟩, ⟨97, zMT, fun _ => []⟩, ⟨98, ZNR, fun _ => []⟩], []⟩) ⟨⟨zOx chk hC, KQ1, XDf, KsW, trivial⟩, trivial⟩ Tryz.func48 sw48 fun ho hh => ?_)
  simp only [Xtq, J9R, Bool.and_eq_true] at ho
  have f1 := hs.fx ho.1.1 (sz := 1) rfl
  have f2 := ht.fx ho.1.2.1 (sz := 2) rfl
  have f3 := hs'.fx ho.2.1.1 (sz := 1) rfl
  have f4 := ht'.fx ho.2.1.2.1 (sz := 2) rfl
  by_cases hq : chk vs ds = 0 ∧ chk vs' ds' = 0
  ·obtain ⟨c1, c2⟩ := hq
   have cb : (if chk vs ds = 0 then chk vs' ds' else chk vs ds) = 0 := by rw [if_pos c1]; exact c2
   obtain ⟨a1, a2⟩ := h0 _ _ c1
   obtain ⟨b1, b2⟩ := h0 _ _ c2
   have hl : (ds'.length ≤ 1000000) = True := eq_true (by omega)
   have yes : leqC vs ds vs' ds' → decide (chk vs ds = 0 ∧ chk vs' ds' = 0 ∧ leqC vs ds vs' ds') = true := fun q => decide_eq_true ⟨c1, c2, q⟩
   have nay : ¬ leqC vs ds vs' ds' → decide (chk vs ds = 0 ∧ chk vs' ds' = 0 ∧ leqC vs ds vs' ds') = false := fun q => decide_eq_false fun z => q z.2.2
   unfold w48
   simp only [X7h, KtT, YUc, XuP, simprocAttr, f1, f2, f3, f4, J9y, T_At, zMT, cb]
   refine ⟨fun q => q.elim, ?_⟩
   refine KUA (S := Nat) (fun k => vs.length - k) (fun k => tp 2 ++ [.p (h.length + 0) 0, .p (h.length + 1) 0] ++ tp 13 ++ [s, .i .i64 vs.length, .i .i64 k] ++ tp 28) (fun k => k ≤ vs.length ∧ ∀ r : Nat, r < k → QPd vs vs' ds' r) 0 ⟨Nat.zero_le _, fun r hr => absurd hr (Nat.not_lt_zero _)⟩ (by simp only [YUc, XuP, simprocAttr]) fun k hk => ?_
   have l16 := a1.1
   have e1 : IntKind.i64.wrap ((k : Int) + 1) = ((k + 1 : Nat) : Int) := ZPp (by have := hk.1; unfold In64; omega)
   have bA := KV5 vs' (fun n hn => (b1.2.1 n hn).2) ((k + 1 : Nat) : Int)
   have bB := JJp vs' ((k + 1 : Nat) : Int)
   by_cases g1 : k < vs.length
   ·have bC : vs.getD k 0 ≤ 1048576 := by
     rw [List.getD_eq_getElem?_getD, List.getElem?_eq_getElem g1]
     exact (a1.2.1 _ (List.getElem_mem g1)).2
    have e2 : IntKind.i64.wrap (vAt vs' ((k + 1 : Nat) : Int) + 1) = vAt vs' ((k + 1 : Nat) : Int) + 1 := ZPp (by unfold In64; omega)
    have e9 : intR.d = (0 : Int) := rfl
    simp only [YUc, XuP, simprocAttr, f1, f2, f3, f4, T_At, g1, e1, e2, e9, ze8]
    refine ⟨?_, fun q => q.elim⟩
    refine KUA (S := Int) (fun n => (1048577 - n).toNat) (fun n => tp 2 ++ [.p (h.length + 0) 0, .p (h.length + 1) 0] ++ tp 3 ++ [.i .i64 k, .i .i64 (vs.getD k 0), .i .i64 n] ++ tp 7 ++ [s, .i .i64 vs.length, .i .i64 k] ++ tp 28) (fun n => vAt vs' ((k + 1 : Nat) : Int) < n ∧ n ≤ 1048577 ∧ ∀ m, vAt vs' ((k + 1 : Nat) : Int) < m → m < n → KOz vs' ds' (((k + 1 : Nat) : Int), m)) (vAt vs' ((k + 1 : Nat) : Int) + 1) ⟨by omega, by omega, fun m h1 h2 => absurd h2 (by omega)⟩ (by simp only [YUc, XuP, simprocAttr]) fun n hn => ?_
    obtain ⟨n1, n2, n3⟩ := hn
    have e3 : IntKind.i64.wrap (n + 1) = n + 1 := ZPp (by unfold In64; omega)
    simp only [YUc, XuP, simprocAttr, f1, f2, f3, f4, T_At, zMT, hl, e1, e3]
    refine ⟨fun g2 => ⟨fun g3 => Bt.drop _ hh (by rw [nay fun q => g3 (q.1 k g1 n n1 g2)]) rfl, fun g3 => ⟨n + 1, ⟨by omega, by omega, fun m h1 h2 => ?_⟩, by omega, Wk.refl _⟩⟩, fun g2 => ⟨k + 1, ⟨g1, fun r hr => ?_⟩, by omega, Wk.refl _⟩⟩
    ·by_cases hm : m = n
     ·rw [hm]
      exact Decidable.not_not.1 g3
     ·exact n3 m h1 (by omega)
    ·by_cases hr2 : r = k
     ·subst hr2
      exact fun m h1 h2 => n3 m h1 (by omega)
     ·exact hk.2 r (by omega)
   ·simp only [YUc, XuP, simprocAttr, f1, f2, f3, f4, T_At, g1, ZNR]
    refine ⟨fun z => z, by omega, Bt.drop _ hh ?_ rfl⟩
    have hrow : ∀ r, r < vs.length → QPd vs vs' ds' r := fun r hr => hk.2 r (by have := hk.1; omega)
    have : (decide ¬∃ d, d ∈ ds ∧ ¬KOz vs' ds' d) = decide (chk vs ds = 0 ∧ chk vs' ds' = 0 ∧ leqC vs ds vs' ds') := decide_eq_decide.2 ⟨fun z => ⟨c1, c2, hrow, fun d hd => Decidable.byContradiction fun q => z ⟨d, hd, q⟩⟩, fun z ⟨d, hd, q⟩ => q (z.2.2.2 d hd)⟩
    rw [this]
  ·have cb : (if chk vs ds = 0 then chk vs' ds' else chk vs ds) ≠ 0 := by
    split
    ·rename_i c1
     exact fun c2 => hq ⟨c1, c2⟩
    ·assumption
   have no := decide_eq_false (p := chk vs ds = 0 ∧ chk vs' ds' = 0 ∧ leqC vs ds vs' ds') fun z => hq ⟨z.1, z.2.1⟩
   unfold w48
   simp only [X7h, KtT, YUc, XuP, simprocAttr, f1, f2, f3, f4, J9y]
   exact ⟨fun _ => Bt.drop _ hh (by rw [no]) rfl, fun z => absurd cb z⟩
 ·cases e
end Go.Proofs.YtfaccliekejngaaGreat
end
section
namespace Go.Proofs.YtfaccliekejngaaGreat
set_option maxRecDepth 100000
set_option maxHeartbeats 4000000
def J0q (v v' : List Int) (ds' : Dots) (r : Int) : Prop := ∀ n, rAt v' r < n → n ≤ rAt v r → YC2 v' ds' (r, n)
def leqP (v : List Int) (ds : Dots) (v' : List Int) (ds' : Dots) : Prop := (∀ r : Nat, r < 16 → J0q v v' ds' ((r + 1 : Nat) : Int)) ∧ ∀ d ∈ ds, YC2 v' ds' d
noncomputable instance (v : List Int) (ds : Dots) (v' : List Int) (ds' : Dots) : Decidable (leqP v ds v' ds') := Classical.propDecidable _
noncomputable def KWD : List AV → List AB → Option (AV × List AB)
 | [.ag [s, t], .ag [s', t']], h => (getS intR h s).bind fun v => (getS dotR h t).bind fun ds => (getS intR h s').bind fun v' => (getS dotR h t').bind fun ds' =>
   some (.tu [.b (decide (ZmB v ds = 0 ∧ ZmB v' ds' = 0 ∧ leqP v ds v' ds')), .i .i64 (if ZmB v ds = 0 then ZmB v' ds' else ZmB v ds)], h)
 | _, _ => none
end Go.Proofs.YtfaccliekejngaaGreat
end
