/- Part 19 of what the laws' proofs rest on. No condition. -/
import Derived.Test.YtcncpbcbedfakaaGreatRp18
set_option linter.all false
section
namespace Go.Proofs.YtcncpbcbedfakaaGreat
set_option maxRecDepth 100000
set_option maxHeartbeats 4000000
open Classical in
noncomputable def KAN : List AV → List AB → Option (AV × List AB)
 | [s, .f (.func 99) [] []], h => (getS dotR h s).bind fun l => match idOf s with
   | [id] => if l.length ≤ 1000000 ∧ s = rsl dotR id l ∧ h[id]? = some (resB dotR true l) then some (.tu [], h.set id (resB dotR true (srtD l))) else none
   | _ => none
 | _, _ => none
def boxL : List AB → Nat → Option (AV × AV)
 | .blk false true [v, d] :: _, 0 => if v.isSl = true ∧ d.isSl = true then some (v, d) else none
 | _, 0 => none
 | [], _ => none
 | _ :: L, k + 1 => boxL L k
theorem JeL (v d : AV) (L : List AB) : boxL (.blk false true [v, d] :: L) 0 = if v.isSl = true ∧ d.isSl = true then some (v, d) else none := _root_.id rfl
theorem qI1 (B : AB) (L : List AB) (k : Nat) : boxL (B :: L) (k + 1) = boxL L k := by
 cases B with
 | blk fl m xs => cases fl <;> cases m <;> (match xs with | [] => rfl | [_] => rfl | [_, _] => rfl | _ :: _ :: _ :: _ => rfl)
 | _ => rfl
theorem znF : ∀ (L : List AB) (k : Nat), YzW L k = boxL L k
 | [], k => by cases k <;> simp [YzW, boxL]
 | B :: L, 0 => by
  unfold YzW boxL
  simp only [List.getElem?_cons_zero]
  split <;> split <;> simp_all
 | B :: L, k + 1 => by
  rw [qI1, ← znF L k]
  unfold YzW
  simp only [List.getElem?_cons_succ]
theorem Zke (h L : List AB) (k : Nat) : YzW (h ++ L) (h.length + k) = boxL L k := by
 rw [← znF]
 unfold YzW
 rw [List.getElem?_append_right (by omega), Nat.add_sub_cancel_left]
theorem QlX (h L : List AB) (k : Nat) (v d : AV) : bx2 (h ++ L) (h.length + k) v d = h ++ L.set k (.blk false true [v, d]) := by
 unfold bx2
 rw [List.set_append_right _ _ (by omega), Nat.add_sub_cancel_left]
theorem zn7 (h L : List AB) (k : Nat) : (h ++ L)[h.length + k]? = L[k]? := by rw [List.getElem?_append_right (by omega), Nat.add_sub_cancel_left]
noncomputable def Q02 : List AV → List AB → Option (AV × List AB)
 | [s, t], h => (getS intR h s).bind fun v => (getS dotR h t).bind fun ds => if ds.length ≤ 100000 then
   if YoS v ds then
    if (fmO v ds).2.length ≤ 4096 then some (.tu [.ag [rsl intR h.length (fmO v ds).1, rsl dotR (h.length + 1) (fmO v ds).2], .i .i64 0], h ++ [resB intR true (fmO v ds).1, resB dotR true (fmO v ds).2])
    else some (.tu [.ag [.ns, .ns], .i .i64 10], h)
   else some (.tu [.ag [.ns, .ns], .i .i64 3], h)
  else none
 | _, _ => none
theorem KLx {h L : List AB} {a b : Nat} {V : List Int} {D : Dots} {e : AV} {n : Nat} (hh : HOk h) (hn : n ≤ V.length) (he : e.ok (fun i => decide (i < h.length + 2)) = true) (hre : ∀ f, e.ren f = e) (hab : a ≠ b) (ha : L[a]? = some (resB intR true V)) (hb : L[b]? = some (resB dotR true D)) :
  Bt Tryz.prog h.length [.tu [.ag [cutS (rsl intR (h.length + a) V) n, apS dotR (h.length + b) D], e]] (h ++ L) [.tu [.ag [rsl intR h.length (V.take n), apS dotR (h.length + 1) D], e]] (h ++ [resB intR true (V.take n), resB dotR true D]) := by
 have s1 : Bt Tryz.prog h.length [.tu [.ag [cutS (rsl intR (h.length + a) V) n, apS dotR (h.length + b) D], e]] (h ++ L) [.tu [.ag [cutS (rsl intR (h.length + 0) V) n, apS dotR (h.length + 1) D], e]] (h ++ [resB intR true V, resB dotR true D]) := by
  refine Bt.sel [a, b] hh (by simp [hab]) (by simp only [BlkSel, ha, hb, zOV, Option.some.injEq, exists_eq_left', and_true]) ?_
  refine ⟨.inr ⟨?_, ?_⟩, trivial⟩
  ·simp only [AV.ok, okL, Bool.and_eq_true, Bool.and_true]
   exact ⟨⟨Yv1 _ _ _ (by simp), X9s _ _ _ (by simp)⟩, he⟩
  ·simp only [AV.ren, renL, Qno, Qfw, hre]
   rw [XLH, XLH]
   exact Wk.refl _
 refine s1.trans ?_
 have s2 := Bt.take (P := Tryz.prog) (p := h.length) (fr := [.tu [.ag [cutS (rsl intR (h.length + 0) V) n, apS dotR (h.length + 1) D], e]]) (h := h ++ [resB intR true V, resB dotR true D]) (i := h.length + 0) (n := n) (m := true) (l := V) (by rw [zn7]; rfl) hn
 rw [List.set_append_right _ _ (by omega), Nat.add_sub_cancel_left] at s2
 refine s2.trans (Bt.wk ⟨?_, trivial⟩)
 intro ρ c hv
 cases hv with
 | tu l cs hl hv =>
  refine .tu _ cs hl fun j x c hx hc => ?_
  match j, hx with
  | 0, hx =>
   cases hx
   have h0 := hv 0 _ c rfl hc
   cases h0 with
   | ag l2 cs2 hl2 hv2 =>
    refine .ag _ cs2 hl2 fun j x c hx hc => ?_
    match j, hx with
    | 0, hx => cases hx; exact Q64 (r := intR) _ hn _ _ (hv2 0 _ c rfl hc)
    | 1, hx => cases hx; exact hv2 1 _ c rfl hc
  | 1, hx => cases hx; exact hv 1 _ c rfl hc
theorem QnP {h : List AB} {H : List AB} {V : AV} {id : Nat} {D : Dots} {e : AV} : Bt Tryz.prog h.length [.tu [.ag [V, apS dotR id D], e]] H [.tu [.ag [V, rsl dotR id D], e]] H := Bt.wk ⟨by
 intro ρ c hv
 cases hv with
 | tu l cs hl hv =>
  refine .tu _ cs hl fun j x c hx hc => ?_
  match j, hx with
  | 0, hx =>
   cases hx
   have h0 := hv 0 _ c rfl hc
   cases h0 with
   | ag l2 cs2 hl2 hv2 =>
    refine .ag _ cs2 hl2 fun j x c hx hc => ?_
    match j, hx with
    | 0, hx => cases hx; exact hv2 0 _ c rfl hc
    | 1, hx => cases hx; exact qEA (r := dotR) _ _ _ _ (hv2 1 _ c rfl hc)
  | 1, hx => cases hx; exact hv 1 _ c rfl hc, trivial⟩
theorem YHT {h L : List AB} {a b : Nat} {V : List Int} {D : Dots} {e : AV} {n : Nat} (hh : HOk h) (hn : n ≤ V.length) (he : e.ok (fun i => decide (i < h.length + 2)) = true) (hre : ∀ f, e.ren f = e) (hab : a ≠ b) (ha : L[a]? = some (resB intR true V)) (hb : L[b]? = some (resB dotR true D)) :
  Bt Tryz.prog h.length [.tu [.ag [cutS (rsl intR (h.length + a) V) n, apS dotR (h.length + b) D], e]] (h ++ L) [.tu [.ag [rsl intR h.length (V.take n), rsl dotR (h.length + 1) D], e]] (h ++ [resB intR true (V.take n), resB dotR true D]) := (KLx hh hn he hre hab ha hb).trans QnP
theorem ZMM {v : List Int} {ds : Dots} (h : YoS v ds) : (∀ n ∈ qjt [] v, n ≤ 1048576) ∧ (qjt [] v).length ≤ 16 ∧ (∀ r, vAt (qjt [] v) r = vAt v r) := by
 refine ⟨fun n hn => ?_, by rw [KY5]; have := h.1; simp; omega, fun r => ?_⟩
 ·simp only [qjt, jn, List.mem_map, List.mem_range] at hn
  obtain ⟨i, _, rfl⟩ := hn
  rw [qjn]
  have := KV3 v (fun n hn => (h.2.1 n hn).2) ((i + 1 : Nat) : Int)
  omega
 ·rw [J8C, qjn]
  have := YFT v r
  omega
theorem KyC : ∀ (l : Dots) (s : AbS), (absR s l).1.length ≤ max s.1.length 16 ∧ (absR s l).2.length ≤ s.2.length + l.length
 | [], s => ⟨by simp only [absR, List.foldl_nil]; omega, by simp only [absR, List.foldl_nil]; omega⟩
 | d :: l, s => by
  have h1 := KCh s d
  have h2 := KyC l (absD s d)
  simp only [absR, List.foldl_cons, List.length_cons] at h2 ⊢
  omega
theorem YG0 (hS : Spec Tryz.prog 98 KAN) : Spec Tryz.prog 58 Q02 := by
 intro args h v h' e
 unfold Q02 at e
 split at e
 ·rename_i s t
  obtain ⟨vs, hs, e⟩ := Ksw e
  obtain ⟨ds, ht, e⟩ := Ksw e
  split at e
  ·rename_i hl
   by_cases hr : YoS vs ds
   ·rw [if_pos hr] at e
    have gr : YoS vs ds = True := eq_true hr
    obtain ⟨n1, n2, n3⟩ := ZMM hr
    have hfm := QpC (x := qjt [] vs) (ds := ds) hr n2 (K89 [] vs) n3
    have l16 := hr.1
    have gd : ∀ d ∈ srtD ds, qu1 d := fun d hd => hr.2.2 d ((K3F ds d).1 hd)
    have gc : ((qjt [] vs).length ≤ 100000 ∧ (srtD ds).length ≤ 100000 ∧ (∀ n ∈ qjt [] vs, n ≤ 1048576) ∧ ∀ d ∈ srtD ds, qu1 d) = True := eq_true ⟨by omega, by rw [Xce]; exact hl, n1, gd⟩
    have g1 : (ds.length ≤ 1000000) = True := eq_true (by omega)
    have g2 : (vs.length ≤ 1000000) = True := eq_true (by omega)
    have g3 : (ds.length ≤ maxLen) = True := eq_true (by unfold maxLen; omega)
    have g4 : ((srtD ds).length ≤ maxLen) = True := eq_true (by rw [Xce]; unfold maxLen; omega)
    have g5 : ((qjt [] vs).length ≤ maxLen) = True := eq_true (by unfold maxLen; omega)
    have hfm1 : (fmO vs ds).1 = (absR (qjt [] vs, []) (srtD ds)).1.take (topI (absR (qjt [] vs, []) (srtD ds)).1 (absR (qjt [] vs, []) (srtD ds)).1.length) := by
     rw [← hfm]
     exact qDf _ _ (Nat.le_refl _)
    have hfm2 : (fmO vs ds).2 = (absR (qjt [] vs, []) (srtD ds)).2 := by rw [← hfm]; rfl
    have htr := qDf (absR (qjt [] vs, []) (srtD ds)).1 (absR (qjt [] vs, []) (srtD ds)).1.length (Nat.le_refl _)
    have hti := ZsX (absR (qjt [] vs, []) (srtD ds)).1 (absR (qjt [] vs, []) (srtD ds)).1.length
    rw [hfm1, hfm2] at e
    have g0 : (([] : List Int).length ≤ 1000000) = True := eq_true (Nat.zero_le _)
    have gsr : ∀ id, rsl dotR id ds = rsl dotR id (srtD ds) := fun id => by unfold rsl; rw [Xce]
    have gA : ((absR (qjt [] vs, []) (srtD ds)).1.length ≤ maxLen) = True := eq_true (by have := (KyC (srtD ds) (qjt [] vs, [])).1; simp only at this; unfold maxLen; omega)
    have gB : ((absR (qjt [] vs, []) (srtD ds)).2.length ≤ maxLen) = True := eq_true (by have := (KyC (srtD ds) (qjt [] vs, [])).2; rw [Xce] at this; simp only [List.length_nil] at this; unfold maxLen; omega)
    have hlen : (YsG (absR (qjt [] vs, []) (srtD ds)).1 (absR (qjt [] vs, []) (srtD ds)).1.length).length = topI (absR (qjt [] vs, []) (srtD ds)).1 (absR (qjt [] vs, []) (srtD ds)).1.length := by
     rw [htr, List.length_take]
     omega
    have FA : FnAt Tryz.prog 58 [s, t] h v h' := by
     refine FnAt.run (by kernel_rfl) (T := ⟨[⟨96, KNS, fun _ => []⟩, ⟨97, Q8o, fun _ => []⟩, ⟨98, KAN, fun _ => []⟩, ⟨83, zrS, fun _ => []⟩, ⟨84, zOE, fun _ => []⟩, ⟨85, Jur, fun _ => []⟩, ⟨86, Qvw, fun _ => []⟩], []⟩) ⟨⟨QkS, XKy, hS, XUw, Xde, Ztx, q5U, trivial⟩, trivial⟩ Tryz.func58 sw58 fun ho hh => ?_
     simp only [Xto, J9P, Bool.and_eq_true] at ho
     have f1 := hs.fx ho.1 (sz := 1) rfl
     have f2 := ht.fx ho.2.1 (sz := 2) rfl
     unfold w58
     by_cases hq : (absR (qjt [] vs, []) (srtD ds)).1 = qjt [] vs
     ·have gq := eq_true hq
      simp only [X7f, KtR, YUa, XuN, simprocAttr, f1, f2, KNS, gr, Q8o, KAN, zrS, g1, g2, g3, g4, g5, gc, gq, gA, gB, g0, Zke, JeL, qI1, QlX, zn7, Ju5, ZTF, JMH, AV.isNs, Ycd, nsSl, JFr]
      simp only [YUa, XuN, simprocAttr, gsr, zOE, Jur, Qvw, g1, g2, g3, g4, g5, gc, gq, gA, gB, Zke, JeL, qI1, QlX, zn7, Ju5, ZTF, JMH, AV.isNs, Ycd, nsSl, JFr]
      refine ⟨fun q => q.elim, ?_⟩
      by_cases h6 : (fmO vs ds).2.length ≤ 4096
      ·have g6 : ((4096 : Int) < ((absR (qjt [] vs, []) (srtD ds)).2.length : Int)) = False := eq_false (by rw [← hfm2]; omega)
       rw [hfm2] at h6
       rw [if_pos h6] at e
       cases e
       simp only [YUa, XuN, simprocAttr, g6, YhC, JfS, QF1]
       rw [hq] at hlen hti ⊢
       rw [hlen]
       refine YHT (a := 3) (b := 4) hh hti ?_ (fun _ => ?_) (by decide) ?_ ?_ <;> rfl
      ·have g6 : ((4096 : Int) < ((absR (qjt [] vs, []) (srtD ds)).2.length : Int)) = True := eq_true (by rw [← hfm2]; omega)
       rw [hfm2] at h6
       rw [if_neg h6] at e
       cases e
       simp only [YUa, XuN, simprocAttr, g6, YhC, JfS, QF1]
       exact Bt.drop _ hh rfl (by simp [AV.ok, okL])
     ·have gq := eq_false hq
      simp only [X7f, KtR, YUa, XuN, simprocAttr, f1, f2, KNS, gr, Q8o, KAN, zrS, g1, g2, g3, g4, g5, gc, gq, gA, gB, g0, Zke, JeL, qI1, QlX, zn7, Ju5, ZTF, JMH, AV.isNs, Ycd, nsSl, JFr]
      simp only [YUa, XuN, simprocAttr, gsr, zOE, Jur, Qvw, g1, g2, g3, g4, g5, gc, gq, gA, gB, Zke, JeL, qI1, QlX, zn7, Ju5, ZTF, JMH, AV.isNs, Ycd, nsSl, JFr]
      refine ⟨fun q => q.elim, ?_⟩
      by_cases h6 : (fmO vs ds).2.length ≤ 4096
      ·have g6 : ((4096 : Int) < ((absR (qjt [] vs, []) (srtD ds)).2.length : Int)) = False := eq_false (by rw [← hfm2]; omega)
       rw [hfm2] at h6
       rw [if_pos h6] at e
       cases e
       simp only [YUa, XuN, simprocAttr, g6, YhC, JfS, QF1]
       rw [hlen]
       refine YHT (a := 4) (b := 5) hh hti ?_ (fun _ => ?_) (by decide) ?_ ?_ <;> rfl
      ·have g6 : ((4096 : Int) < ((absR (qjt [] vs, []) (srtD ds)).2.length : Int)) = True := eq_true (by rw [← hfm2]; omega)
       rw [hfm2] at h6
       rw [if_neg h6] at e
       cases e
       simp only [YUa, XuN, simprocAttr, g6, YhC, JfS, QF1]
       exact Bt.drop _ hh rfl (by simp [AV.ok, okL])
    exact FA.c
   ·rw [if_neg hr] at e
    have gr : YoS vs ds = False := eq_false hr
    cases e
    refine FnAt.c (FnAt.run (by kernel_rfl) (T := ⟨[⟨96, KNS, fun _ => []⟩], []⟩) ⟨⟨QkS, trivial⟩, trivial⟩ Tryz.func58 sw58 fun ho hh => ?_)
    simp only [Xto, J9P, Bool.and_eq_true] at ho
    have f1 := hs.fx ho.1 (sz := 1) rfl
    have f2 := ht.fx ho.2.1 (sz := 2) rfl
    unfold w58
    simp only [X7f, KtR, YUa, XuN, simprocAttr, f1, f2, KNS, gr]
    exact ⟨Bt.drop _ hh rfl (by simp [AV.ok, okL]), fun q => q⟩
  ·cases e
 ·cases e
end Go.Proofs.YtcncpbcbedfakaaGreat
end
section
namespace Go.Proofs.YtcncpbcbedfakaaGreat
set_option maxRecDepth 100000
set_option maxHeartbeats 4000000
section
variable {P : Program} {h : List AB} {id n : Nat}
def topB (n : Nat) : AB := .blk true true (List.replicate n .top)
theorem Bt.top {p : Nat} {fr : List AV} {xs : List AV} (hi : h[id]? = some (.blk true true xs)) (hn : xs.length = n) : Bt P p fr h fr (h.set id (topB n)) := by
 refine Bt.less hi (fun ρ w b o m hb => ?_) (fun _ => rfl) (fun _ => rfl)
 obtain ⟨cs, e, fz, h1, h2, h3, _⟩ := hb
 refine ⟨cs, e, fz, h1, h2, by rw [List.length_replicate]; omega, fun k a c ha _ => ?_⟩
 rw [List.getElem?_replicate] at ha
 split at ha
 ·cases ha
  exact .top c
 ·cases ha
theorem KA4 (hid : id < h.length) (x : List AB) (o : Nat) (w : AV) (hw : w.one = true) (hf : wrOk true w = true) (ho : o < n) : stV (h.set id (topB n) ++ x) none (.p id o) w = some (h.set id (.blk true true (over (List.replicate n .top) o [w])) ++ x) := by
 have hb : (h.set id (.blk true true (List.replicate n .top)) ++ x)[id]? = some (.blk true true (List.replicate n .top)) := by
  rw [List.getElem?_append_left (by rw [List.length_set]; exact hid), List.getElem?_set_self hid]
 simp only [stV, hw, if_true, stB, topB, hb]
 rw [if_pos ⟨by simp; omega, by simp [hf]⟩]
 congr 1
 rw [List.set_append_left _ _ (by rw [List.length_set]; exact hid), List.set_set]
theorem XBT (hid : id < h.length) (x : List AB) (o m : Nat) (l : List AV) (hl : l.length = m) (hf : l.all (wrOk true) = true) (ho : o + m ≤ n) : stV (h.set id (topB n) ++ x) (some m) (.p id o) (.ag l) = some (h.set id (.blk true true (over (List.replicate n .top) o l)) ++ x) := by
 have hb : (h.set id (.blk true true (List.replicate n .top)) ++ x)[id]? = some (.blk true true (List.replicate n .top)) := by
  rw [List.getElem?_append_left (by rw [List.length_set]; exact hid), List.getElem?_set_self hid]
 simp only [stV, hl, if_true, stB, topB, hb]
 rw [if_pos ⟨by simp; omega, hf⟩]
 congr 1
 rw [List.set_append_left _ _ (by rw [List.length_set]; exact hid), List.set_set]
theorem XQ2 {p : Nat} {fr fr' : List AV} (hid : id < h.length) (o : Nat) (l : List AV) (ho : o + l.length ≤ n) (hw : WkL fr' fr) : Bt P p fr (h.set id (.blk true true (over (List.replicate n .top) o l)) ++ []) fr' (h.set id (topB n) ++ []) := by
 rw [List.append_nil, List.append_nil]
 refine Bt.trans (Bt.wk hw) ?_
 have := Bt.top (P := P) (p := p) (fr := fr') (h := h.set id (.blk true true (over (List.replicate n .top) o l))) (id := id) (n := n) (xs := over (List.replicate n .top) o l) (by rw [List.getElem?_set_self hid]) (by rw [Ksn _ _ _ (by simp; omega)]; simp)
 rwa [List.set_set] at this
theorem Kh1 {p : Nat} {fr fr' : List AV} {xs : List AV} (hi : h[id]? = some (.blk true true xs)) (hn : xs.length = n) (hw : WkL fr' fr) : Bt P p fr (h ++ []) fr' (h.set id (topB n) ++ []) := by
 rw [List.append_nil, List.append_nil]
 exact Bt.trans (Bt.wk hw) (Bt.top hi hn)
theorem Ynk {p : Nat} {fr : List AV} (hid : id < h.length) : Bt P p fr (h.set id (topB n) ++ []) fr (h.set id .dead) := by
 rw [List.append_nil]
 have := Bt.less (P := P) (p := p) (fr := fr) (h := h.set id (topB n)) (i := id) (B := topB n) (B' := .dead) (by rw [List.getElem?_set_self hid]) (fun _ _ _ _ _ _ => trivial) (fun q => by cases q) (fun q => by cases q)
 rwa [List.set_set] at this
end
open Classical in
noncomputable def ZQd {α : Type} (r : Row α) : List AV → List AB → Option (AV × List AB)
 | [s], h => if s.isNs = true then some (.tu [], h) else (getS r h s).bind fun l => match idOf s with
   | [id] => if s = rsl r id l ∧ h[id]? = some (resB r true l) ∧ l.length ≤ 1000000 then some (.tu [], h.set id .dead) else none
   | _ => none
 | _, _ => none
theorem Kxe {h : List AB} {id : Nat} (e : h[id]? = some .dead) : h.set id .dead = h := by
 apply List.ext_getElem?
 intro j
 rw [List.getElem?_set]
 split
 ·rename_i hij
  subst hij
  first | rw [if_pos (List.getElem?_eq_some_iff.1 e).1, e] | rw [e]
 ·rfl
theorem KAl : Spec Tryz.prog 94 (ZQd intR) := by
 intro args h v h' e
 unfold ZQd at e
 split at e
 ·rename_i s
  split at e
  ·rename_i hns
   cases e
   cases s <;> first | (cases hns; done) | skip
   refine FnAt.c (FnAt.run (by kernel_rfl) (T := ⟨[], []⟩) ⟨trivial, trivial⟩ Tryz.func94 sw94 fun ho hh => ?_)
   unfold w94
   simp only [X7f, KtR, YUa, XuN, simprocAttr]
   refine KUy (S := Unit) (fun _ => 0) (fun _ => [.ns] ++ tp 1 ++ [.i .i64 0] ++ tp 9) (fun _ => True) () trivial (by simp only [YUa, XuN, simprocAttr]) fun _ _ => ?_
   simp only [YUa, XuN, simprocAttr, Int.lt_irrefl, false_implies]
   exact Bt.eq rfl (List.append_nil h)
  ·obtain ⟨l, hs, e⟩ := Ksw e
   split at e
   ·rename_i id hid
    split at e
    ·rename_i hc
     cases e
     obtain ⟨h1, h2, h3⟩ := hc
     have hlt := (List.getElem?_eq_some_iff.1 h2).1
     by_cases h0 : l.length = 0
     ·have e2 : h.set id .dead = h := Kxe (by rw [h2]; unfold resB; rw [if_pos h0])
      rw [e2, h1]
      unfold rsl
      rw [if_pos h0]
      refine FnAt.c (FnAt.run (by kernel_rfl) (T := ⟨[], []⟩) ⟨trivial, trivial⟩ Tryz.func94 sw94 fun ho hh => ?_)
      unfold w94
      simp only [X7f, KtR, YUa, XuN, simprocAttr]
      refine KUy (S := Unit) (fun _ => 0) (fun _ => [.sl id 0 0 0 (some 0)] ++ tp 1 ++ [.i .i64 0] ++ tp 9) (fun _ => True) () trivial (by simp only [YUa, XuN, simprocAttr]) fun _ _ => ?_
      simp only [YUa, XuN, simprocAttr, Int.natCast_zero, Int.lt_irrefl, false_implies, lenV]
      exact Bt.eq rfl (List.append_nil h)
     ·rw [h1]
      unfold rsl
      rw [if_neg h0]
      have hb : h[id]? = some (.blk true true (intR.cells l)) := by rw [h2]; unfold resB; rw [if_neg h0]
      refine FnAt.c (FnAt.run (by kernel_rfl) (T := ⟨[], []⟩) ⟨trivial, trivial⟩ Tryz.func94 sw94 fun ho hh => ?_)
      unfold w94
      simp only [X7f, KtR, YUa, XuN, simprocAttr]
      refine QZo (S := Nat) (fun k => l.length - k) (fun k => [.sl id 0 l.length l.length (some intR.sz)] ++ tp 1 ++ [.i .i64 k] ++ tp 9) (fun _ => h.set id (topB l.length) ++ []) (fun k => k ≤ l.length) 0 (Nat.zero_le _) (Kh1 hb (by simp [Row.cells_len, YdA]) (by simp only [YUa, XuN, simprocAttr])) fun k hk => ?_
      by_cases hlk : k < l.length
      ·have g1 : ((k : Int) < (l.length : Int)) = True := eq_true (by omega)
       have e1 : IntKind.i64.wrap ((k : Int) + 1) = ((k + 1 : Nat) : Int) := ZPn (by unfold In64; omega)
       have e3 := KA4 (n := l.length) hlt [] (0 + k * 1) (.i .i64 (-77)) rfl rfl (by omega)
       simp only [YUa, XuN, simprocAttr, lenV, g1, e1, iadV, hlk, e3, false_implies]
       exact ⟨k + 1, by omega, by dsimp only; omega, XQ2 hlt _ _ (by simp; omega) (by simp only [YUa, XuN, simprocAttr])⟩
      ·have g1 : ((k : Int) < (l.length : Int)) = False := eq_false (by omega)
       simp only [YUa, XuN, simprocAttr, lenV, g1, false_implies]
       exact Ynk hlt
    ·cases e
   ·cases e
 ·cases e
theorem Q6U : Spec Tryz.prog 95 (ZQd dotR) := by
 intro args h v h' e
 unfold ZQd at e
 split at e
 ·rename_i s
  split at e
  ·rename_i hns
   cases e
   cases s <;> first | (cases hns; done) | skip
   refine FnAt.c (FnAt.run (by kernel_rfl) (T := ⟨[], []⟩) ⟨trivial, trivial⟩ Tryz.func95 sw95 fun ho hh => ?_)
   unfold w95
   simp only [X7f, KtR, YUa, XuN, simprocAttr]
   refine KUy (S := Unit) (fun _ => 0) (fun _ => [.ns] ++ tp 1 ++ [.i .i64 0] ++ tp 10) (fun _ => True) () trivial (by simp only [YUa, XuN, simprocAttr]) fun _ _ => ?_
   simp only [YUa, XuN, simprocAttr, Int.lt_irrefl, false_implies]
   exact Bt.eq rfl (List.append_nil h)
  ·obtain ⟨l, hs, e⟩ := Ksw e
   split at e
   ·rename_i id hid
    split at e
    ·rename_i hc
     cases e
     obtain ⟨h1, h2, h3⟩ := hc
     have hlt := (List.getElem?_eq_some_iff.1 h2).1
     by_cases h0 : l.length = 0
     ·have e2 : h.set id .dead = h := Kxe (by rw [h2]; unfold resB; rw [if_pos h0])
      rw [e2, h1]
      unfold rsl
      rw [if_pos h0]
      refine FnAt.c (FnAt.run (by kernel_rfl) (T := ⟨[], []⟩) ⟨trivial, trivial⟩ Tryz.func95 sw95 fun ho hh => ?_)
      unfold w95
      simp only [X7f, KtR, YUa, XuN, simprocAttr]
      refine KUy (S := Unit) (fun _ => 0) (fun _ => [.sl id 0 0 0 (some 0)] ++ tp 1 ++ [.i .i64 0] ++ tp 10) (fun _ => True) () trivial (by simp only [YUa, XuN, simprocAttr]) fun _ _ => ?_
      simp only [YUa, XuN, simprocAttr, Int.natCast_zero, Int.lt_irrefl, false_implies, lenV]
      exact Bt.eq rfl (List.append_nil h)
     ·rw [h1]
      unfold rsl
      rw [if_neg h0]
      have hb : h[id]? = some (.blk true true (dotR.cells l)) := by rw [h2]; unfold resB; rw [if_neg h0]
      refine FnAt.c (FnAt.run (by kernel_rfl) (T := ⟨[], []⟩) ⟨trivial, trivial⟩ Tryz.func95 sw95 fun ho hh => ?_)
      unfold w95
      simp only [X7f, KtR, YUa, XuN, simprocAttr]
      refine QZo (S := Nat) (fun k => l.length - k) (fun k => [.sl id 0 l.length l.length (some dotR.sz)] ++ tp 1 ++ [.i .i64 k] ++ tp 10) (fun _ => h.set id (topB (l.length * 2)) ++ []) (fun k => k ≤ l.length) 0 (Nat.zero_le _) (Kh1 hb (by simp [Row.cells_len, qIZ]) (by simp only [YUa, XuN, simprocAttr])) fun k hk => ?_
      by_cases hlk : k < l.length
      ·have g1 : ((k : Int) < (l.length : Int)) = True := eq_true (by omega)
       have e1 : IntKind.i64.wrap ((k : Int) + 1) = ((k + 1 : Nat) : Int) := ZPn (by unfold In64; omega)
       have e3 := XBT (n := l.length * 2) hlt [] (0 + k * 2) 2 [.i .i64 (-7), .i .i64 0] rfl rfl (by omega)
       simp only [YUa, XuN, simprocAttr, lenV, g1, e1, iadV, hlk, e3, false_implies]
       exact ⟨k + 1, by omega, by dsimp only; omega, XQ2 hlt _ _ (by simp only [List.length_cons, List.length_nil]; omega) (by simp only [YUa, XuN, simprocAttr])⟩
      ·have g1 : ((k : Int) < (l.length : Int)) = False := eq_false (by omega)
       simp only [YUa, XuN, simprocAttr, lenV, g1, false_implies]
       exact Ynk hlt
    ·cases e
   ·cases e
 ·cases e
theorem JT1 {h : List AB} (hh : HOk h) (i : Nat) : HOk (h.set i .dead) := by
 intro j B hB
 rw [List.length_set]
 rw [List.getElem?_set] at hB
 split at hB
 ·split at hB
  ·cases hB
   rfl
  ·cases hB
 ·exact hh j B hB
theorem qvI {α : Type} {r : Row α} (h : List AB) : ZQd r [.ns] h = some (.tu [], h) := rfl
theorem Q48 {α : Type} {r : Row α} {h : List AB} {id : Nat} {l : List α} (hb : h[id]? = some (resB r true l)) (hl : l.length ≤ 1000000) (x : List AB) : ZQd r [rsl r id l] (h ++ x) = some (.tu [], h.set id .dead ++ x) := by
 have hlt := (List.getElem?_eq_some_iff.1 hb).1
 have hb' : (h ++ x)[id]? = some (resB r true l) := by rw [List.getElem?_append_left hlt]; exact hb
 have hg : getS r (h ++ x) (rsl r id l) = some l := (Qgm hb' (by unfold maxLen; omega)).get
 have hid : idOf (rsl r id l) = [id] := by unfold rsl; split <;> rfl
 have hn : (rsl r id l).isNs = false := by unfold rsl; split <;> rfl
 unfold ZQd
 simp only [hn, Bool.false_eq_true, if_false, hg, Option.bind_some, hid, hb', hl, and_self, if_true]
 rw [List.set_append_left _ _ hlt]
open Classical in
noncomputable def JLm : List AV → List AB → Option (AV × List AB)
 | [.ag [.ns, .ns]], h => some (.tu [], h)
 | [.ag [s, t]], h => (getS intR h s).bind fun l => (getS dotR h t).bind fun m => match idOf s, idOf t with
   | [i], [j] => if s = rsl intR i l ∧ h[i]? = some (resB intR true l) ∧ t = rsl dotR j m ∧ h[j]? = some (resB dotR true m) ∧ i ≠ j ∧ l.length ≤ 1000000 ∧ m.length ≤ 1000000 then some (.tu [], (h.set i .dead).set j .dead) else none
   | _, _ => none
 | _, _ => none
theorem zws : Spec Tryz.prog 55 JLm := by
 intro args h v h' e
 unfold JLm at e
 split at e
 ·cases e
  refine FnAt.c (FnAt.run (by kernel_rfl) (T := ⟨[⟨94, ZQd intR, fun _ => []⟩, ⟨95, ZQd dotR, fun _ => []⟩], []⟩) ⟨⟨KAl, Q6U, trivial⟩, trivial⟩ Tryz.func55 sw55 fun ho hh => ?_)
  unfold w55
  simp only [X7f, KtR, YUa, XuN, simprocAttr, qvI]
  exact Bt.drop _ hh rfl rfl
 ·rename_i s t hne
  obtain ⟨l, hs, e⟩ := Ksw e
  obtain ⟨m, ht, e⟩ := Ksw e
  split at e
  ·rename_i i j hi hj
   split at e
   ·rename_i hc
    cases e
    obtain ⟨h1, h2, h3, h4, h5, h6, h7⟩ := hc
    refine FnAt.c (FnAt.run (by kernel_rfl) (T := ⟨[⟨94, ZQd intR, fun _ => []⟩, ⟨95, ZQd dotR, fun _ => []⟩], []⟩) ⟨⟨KAl, Q6U, trivial⟩, trivial⟩ Tryz.func55 sw55 fun ho hh => ?_)
    have g1 := Q48 h2 h6
    have g2 := Q48 (r := dotR) (h := h.set i .dead) (id := j) (l := m) (by rw [List.getElem?_set_ne h5]; exact h4) h7
    subst h1 h3
    have lz : (h.set i .dead).length = h.length := List.length_set
    unfold w55
    simp only [X7f, KtR, YUa, XOw, simprocAttr, g1, g2, lz]
    have b := Bt.drop (P := Tryz.prog) (v := .tu []) (a := .tu []) [.blk false true [rsl intR i l, rsl dotR j m]] (JT1 (JT1 hh i) j) rfl rfl
    rwa [List.length_set, List.length_set] at b
   ·cases e
  ·cases e
 ·cases e
end Go.Proofs.YtcncpbcbedfakaaGreat
end
section
namespace Go.Proofs.YtcncpbcbedfakaaGreat
set_option maxRecDepth 100000
set_option maxHeartbeats 4000000
def rAt (v : List Int) (r : Int) : Int := if r < 1 ∨ (v.length : Int) < r then 0 else v.getD (r - 1).toNat 0
noncomputable def qWH : List AV → List AB → Option (AV × List AB)
 | [.ag [s, t], .i .i64 r], h => (getS intR h s).bind fun v => (getS dotR h t).bind fun _ => some (.i .i64 (rAt v r), h)
 | _, _ => none
theorem Q41 : Spec Tryz.prog 93 qWH := by
 intro args h v h' e
 unfold qWH at e
 split at e
 ·rename_i s t r
  obtain ⟨vs, hs, e⟩ := Ksw e
  obtain ⟨ds, ht, e⟩ := Ksw e
  cases e
  refine FnAt.c (FnAt.run (by kernel_rfl) (T := ⟨[], []⟩) ⟨trivial, trivial⟩ Tryz.func93 sw93 fun ho hh => ?_)
  simp only [Xto, J9P, Bool.and_eq_true] at ho
  have f1 := hs.fx ho.1.1 (sz := 1) rfl
  have f2 := ht.fx ho.1.2.1 (sz := 2) rfl
  have hm := hs.2
  unfold maxLen at hm
  unfold w93
  by_cases hr : r < 1 ∨ (vs.length : Int) < r
  ·have ev : rAt vs r = 0 := by unfold rAt; rw [if_pos hr]
   by_cases h1 : r < 1
   ·have h1' := eq_true h1
    simp only [X7f, KtR, YUa, XuN, simprocAttr, f1, f2, h1']
    exact ⟨Bt.dropI _ hh ev.symm, fun q => q.elim⟩
   ·have h1' := eq_false h1
    have h2' : ((vs.length : Int) < r) = True := eq_true (by omega)
    simp only [X7f, KtR, YUa, XuN, simprocAttr, f1, f2, h1', h2']
    exact ⟨fun q => q.elim, Bt.dropI _ hh ev.symm, fun q => q.elim⟩
  ·have h1' : (r < 1) = False := eq_false (by omega)
   have h2' : ((vs.length : Int) < r) = False := eq_false (by omega)
   have ew : IntKind.i64.wrap (r - 1) = r - 1 := ZPn (by unfold In64; omega)
   have e2 : (0 ≤ r - 1 ∧ r - 1 < (vs.length : Int)) = True := eq_true (by omega)
   have e3 : ((r - 1).toNat < vs.length) = True := eq_true (by omega)
   simp only [X7f, KtR, YUa, XuN, simprocAttr, f1, f2, h1', h2', ew, e2, e3, ze8]
   exact ⟨fun q => q.elim, fun q => q.elim, Bt.dropI _ hh (by unfold rAt; rw [if_neg hr]; rfl)⟩
 ·cases e
noncomputable def YSA : List AV → List AB → Option (AV × List AB)
 | [.ag [s, t], .ag [s', t']], h => (getS intR h s).bind fun v => (getS dotR h t).bind fun ds => (getS intR h s').bind fun v' => (getS dotR h t').bind fun ds' => some (.i .i64 (if Zmz v ds = 0 then Zmz v' ds' else Zmz v ds), h)
 | _, _ => none
theorem XdU : Spec Tryz.prog 92 YSA := by
 intro args h v h' e
 unfold YSA at e
 split at e
 ·rename_i s t s' t'
  obtain ⟨vs, hs, e⟩ := Ksw e
  obtain ⟨ds, ht, e⟩ := Ksw e
  obtain ⟨vs', hs', e⟩ := Ksw e
  obtain ⟨ds', ht', e⟩ := Ksw e
  cases e
  refine FnAt.c (FnAt.run (by kernel_rfl) (T := ⟨[⟨61, Ype, fun _ => []⟩], []⟩) ⟨⟨zLB, trivial⟩, trivial⟩ Tryz.func92 sw92 fun ho hh => ?_)
  simp only [Xto, J9P, Bool.and_eq_true] at ho
  have f1 := hs.fx ho.1.1 (sz := 1) rfl
  have f2 := ht.fx ho.1.2.1 (sz := 2) rfl
  have f3 := hs'.fx ho.2.1.1 (sz := 1) rfl
  have f4 := ht'.fx ho.2.1.2.1 (sz := 2) rfl
  unfold w92
  simp only [X7f, KtR, YUa, XuN, simprocAttr, f1, f2, f3, f4, Ype]
  exact ⟨fun q => Bt.dropI _ hh (by rw [if_neg q]), fun q => Bt.dropI _ hh (by rw [if_pos (Decidable.not_not.1 q)])⟩
 ·cases e
def YC0 (v : List Int) (ds : Dots) (d : Int × Int) : Prop := (1 ≤ d.2 ∧ d.2 ≤ rAt v d.1) ∨ d ∈ ds
instance (v : List Int) (ds : Dots) (d : Int × Int) : Decidable (YC0 v ds d) := by unfold YC0; infer_instance
noncomputable def J3x : List AV → List AB → Option (AV × List AB)
 | [.ag [s, t], .ag [.i .i64 a, .i .i64 b]], h => (getS intR h s).bind fun v => (getS dotR h t).bind fun ds => some (.b (decide (YC0 v ds (a, b))), h)
 | _, _ => none
theorem X5T : Spec Tryz.prog 91 J3x := by
 intro args h v h' e
 unfold J3x at e
 split at e
 ·rename_i s t a b
  obtain ⟨vs, hs, e⟩ := Ksw e
  obtain ⟨ds, ht, e⟩ := Ksw e
  cases e
  refine FnAt.c (FnAt.frz0 fun hz => ?_)
  replace hs := hs.frz
  replace ht := ht.frz
  generalize h.map AB.freeze = h at *
  refine FnAt.run (by kernel_rfl) (T := ⟨[⟨93, qWH, fun _ => []⟩], []⟩) ⟨⟨Q41, trivial⟩, trivial⟩ Tryz.func91 sw91 fun ho hh => ?_
  simp only [Xto, J9P, Bool.and_eq_true] at ho
  have f1 := hs.fx ho.1.1 (sz := 1) rfl
  have f2 := ht.fx ho.1.2.1 (sz := 2) rfl
  have m2 := ht.2
  unfold maxLen at m2
  unfold w91
  have yes : (1 ≤ b ∧ b ≤ rAt vs a) → true = decide (YC0 vs ds (a, b)) := fun q => (decide_eq_true (.inl q)).symm
  have eq2 : ∀ w : Int × Int, Kon [.i, .i] [.i .i64 w.1, .i .i64 w.2] [.i .i64 a, .i .i64 b] = some (decide (w = (a, b))) := fun w => eqc2 w (a, b)
  simp only [X7f, KtR, YUa, zc6, XuN, simprocAttr, CO.tmps, Opd.tmps, optT, Nat.reducePow, Nat.reduceDiv, Nat.reduceMod, f1, f2, qWH, qFZ hz, zN5 hh]
  refine ⟨fun q1 => ⟨fun q2 => Bt.dropB _ hh (yes ⟨q1, q2⟩), fun q2 => ?_⟩, fun q1 => ?_⟩
  ·have no : ¬ (1 ≤ b ∧ b ≤ rAt vs a) := fun q => q2 q.2
   refine KUy (S := Nat) (fun i => ds.length - i) (fun i => tp 2 ++ [.p (h.length + 0) 0, .p (h.length + 1) 0] ++ tp 1 ++ [.i .i64 i] ++ tp 26) (fun i => i ≤ ds.length ∧ (a, b) ∉ ds.take i) 0 ⟨Nat.zero_le _, by simp⟩ (by simp only [YUa, XuN, simprocAttr]) fun i hi => ?_
   simp only [YUa, XuN, simprocAttr, f1, f2]
   refine ⟨fun g5 => ?_, fun g5 => ?_⟩
   ·have e1 : IntKind.i64.wrap ((i : Int) + 1) = ((i + 1 : Nat) : Int) := ZPn (by unfold In64; omega)
    simp only [YUa, zc6, XuN, simprocAttr, CO.tmps, Opd.tmps, optT, Nat.reducePow, Nat.reduceDiv, Nat.reduceMod, f1, f2, g5, X5J, eq2, e1, qFZ hz, zN5 hh]
    refine ⟨fun g4 => Bt.dropB _ hh ?_, fun g4 => ⟨i + 1, ⟨g5, ?_⟩, by omega, Wk.refl _⟩⟩
    ·refine (decide_eq_true (.inr ?_)).symm
     rw [← g4, List.getD_eq_getElem?_getD, List.getElem?_eq_getElem g5]
     exact List.getElem_mem g5
    ·rw [List.take_succ_eq_append_getElem g5]
     rw [List.getD_eq_getElem?_getD, List.getElem?_eq_getElem g5, Option.getD_some] at g4
     exact fun q => (List.mem_append.1 q).elim hi.2 fun q => g4 (List.mem_singleton.1 q).symm
   ·refine Bt.dropB _ hh (decide_eq_false fun q => ?_).symm
    have := hi.2
    rw [List.take_of_length_le (by omega)] at this
    exact q.elim no this
  ·have no : ¬ (1 ≤ b ∧ b ≤ rAt vs a) := fun q => q1 q.1
   refine KUy (S := Nat) (fun i => ds.length - i) (fun i => tp 2 ++ [.p (h.length + 0) 0, .p (h.length + 1) 0] ++ tp 1 ++ [.i .i64 i] ++ tp 26) (fun i => i ≤ ds.length ∧ (a, b) ∉ ds.take i) 0 ⟨Nat.zero_le _, by simp⟩ (by simp only [YUa, XuN, simprocAttr]) fun i hi => ?_
   simp only [YUa, XuN, simprocAttr, f1, f2]
   refine ⟨fun g5 => ?_, fun g5 => ?_⟩
   ·have e1 : IntKind.i64.wrap ((i : Int) + 1) = ((i + 1 : Nat) : Int) := ZPn (by unfold In64; omega)
    simp only [YUa, zc6, XuN, simprocAttr, CO.tmps, Opd.tmps, optT, Nat.reducePow, Nat.reduceDiv, Nat.reduceMod, f1, f2, g5, X5J, eq2, e1, qFZ hz, zN5 hh]
    refine ⟨fun g4 => Bt.dropB _ hh ?_, fun g4 => ⟨i + 1, ⟨g5, ?_⟩, by omega, Wk.refl _⟩⟩
    ·refine (decide_eq_true (.inr ?_)).symm
     rw [← g4, List.getD_eq_getElem?_getD, List.getElem?_eq_getElem g5]
     exact List.getElem_mem g5
    ·rw [List.take_succ_eq_append_getElem g5]
     rw [List.getD_eq_getElem?_getD, List.getElem?_eq_getElem g5, Option.getD_some] at g4
     exact fun q => (List.mem_append.1 q).elim hi.2 fun q => g4 (List.mem_singleton.1 q).symm
   ·refine Bt.dropB _ hh (decide_eq_false fun q => ?_).symm
    have := hi.2
    rw [List.take_of_length_le (by omega)] at this
    exact q.elim no this
 ·cases e
noncomputable def JH2 : List AV → List AB → Option (AV × List AB)
 | [.ag [s, t], .ag [.i .i64 a, .i .i64 b]], h => (getS intR h s).bind fun v => (getS dotR h t).bind fun ds => some (.b (decide (Zmz v ds = 0 ∧ YC0 v ds (a, b))), h)
 | _, _ => none
theorem Zsq : Spec Tryz.prog 52 JH2 := by
 intro args h v h' e
 unfold JH2 at e
 split at e
 ·rename_i s t a b
  obtain ⟨vs, hs, e⟩ := Ksw e
  obtain ⟨ds, ht, e⟩ := Ksw e
  cases e
  refine FnAt.c (FnAt.run (by kernel_rfl) (T := ⟨[⟨61, Ype, fun _ => []⟩, ⟨91, J3x, fun _ => []⟩], []⟩) ⟨⟨zLB, X5T, trivial⟩, trivial⟩ Tryz.func52 sw52 fun ho hh => ?_)
  simp only [Xto, J9P, Bool.and_eq_true] at ho
  have f1 := hs.fx ho.1.1 (sz := 1) rfl
  have f2 := ht.fx ho.1.2.1 (sz := 2) rfl
  unfold w52
  simp only [X7f, KtR, YUa, XuN, simprocAttr, f1, f2, Ype, J3x]
  refine ⟨fun q => Bt.dropB _ hh ?_, fun q => Bt.dropB _ hh ?_⟩
  ·simp only [q, true_and]
  ·simp only [q, false_and, decide_false]
 ·cases e
theorem QXv {v : List Int} {ds : Dots} (h : Zmz v ds = 0) : YoS v ds ∧ ds.length ≤ 4096 ∧ fmO v ds = (v, ds) := by
 unfold Zmz at h
 split at h
 ·cases h
 ·rename_i h1
  split at h
  ·cases h
  ·rename_i h2
   split at h
   ·rename_i h3
    exact ⟨Decidable.not_not.1 h1, by omega, h3⟩
   ·cases h
end Go.Proofs.YtcncpbcbedfakaaGreat
end
section
namespace Go.Proofs.YtcncpbcbedfakaaGreat
set_option maxRecDepth 100000
set_option maxHeartbeats 4000000
theorem Jz3 (v : List Int) (h : ∀ n ∈ v, 0 ≤ n ∧ n ≤ 1048576) (r : Int) : 0 ≤ rAt v r ∧ rAt v r ≤ 1048576 := by
 unfold rAt
 split
 ·omega
 ·rw [List.getD_eq_getElem?_getD]
  cases e : v[(r - 1).toNat]? with
  | none => simp
  | some x => exact h x (List.mem_of_getElem? e)
end Go.Proofs.YtcncpbcbedfakaaGreat
end
section
namespace Go.Proofs.YtcncpbcbedfakaaGreat
set_option maxRecDepth 100000
set_option maxHeartbeats 4000000
def K3Q (v v' : List Int) (n : Nat) : List Int := (List.range n).map fun i => max (rAt v ((i + 1 : Nat) : Int)) (rAt v' ((i + 1 : Nat) : Int))
theorem Yo2 (v v' : List Int) (n : Nat) : (K3Q v v' n).length = n := by simp [K3Q]
theorem q2r (v v' : List Int) (n : Nat) : K3Q v v' (n + 1) = K3Q v v' n ++ [max (rAt v ((n + 1 : Nat) : Int)) (rAt v' ((n + 1 : Nat) : Int))] := by
 simp [K3Q, List.range_succ]
theorem K9P (v v' : List Int) (h : ∀ n ∈ v, 0 ≤ n ∧ n ≤ 1048576) (h' : ∀ n ∈ v', 0 ≤ n ∧ n ≤ 1048576) (n : Nat) : ∀ x ∈ K3Q v v' n, 0 ≤ x ∧ x ≤ 1048576 := fun x hx => by
 obtain ⟨i, -, rfl⟩ := List.mem_map.1 hx
 have h1 := Jz3 v h ((i + 1 : Nat) : Int)
 have h2 := Jz3 v' h' ((i + 1 : Nat) : Int)
 omega
theorem JT6 {v v' : List Int} {ds ds' : Dots} (h : YoS v ds) (h' : YoS v' ds') : YoS (K3Q v v' 16) (ds ++ ds') :=
 ⟨by rw [Yo2]; omega, K9P v v' h.2.1 h'.2.1 16, fun d hd => (List.mem_append.1 hd).elim (h.2.2 d) (h'.2.2 d)⟩
noncomputable def ZWR : List AV → List AB → Option (AV × List AB)
 | [.ag [s, t], .ag [s', t']], h => (getS intR h s).bind fun v => (getS dotR h t).bind fun ds => (getS intR h s').bind fun v' => (getS dotR h t').bind fun ds' =>
   if Zmz v ds ≠ 0 then some (.tu [.ag [.ns, .ns], .i .i64 (Zmz v ds)], h)
   else if Zmz v' ds' ≠ 0 then some (.tu [.ag [.ns, .ns], .i .i64 (Zmz v' ds')], h)
   else if (fmO (K3Q v v' 16) (ds ++ ds')).2.length ≤ 4096 then some (.tu [.ag [.sl h.length 0 (topI (fmR (K3Q v v' 16) (layR (ds ++ ds'))).1 16) 16 none, rsl dotR (h.length + 1) (fmR (K3Q v v' 16) (layR (ds ++ ds'))).2], .i .i64 0], h ++ [.blk true true (intR.cells (fmR (K3Q v v' 16) (layR (ds ++ ds'))).1), resB dotR true (fmR (K3Q v v' 16) (layR (ds ++ ds'))).2])
   else some (.tu [.ag [.ns, .ns], .i .i64 10], h)
 | _, _ => none
theorem JgH (h : List AB) (s t s' t' : AV) (vs vs' : List Int) (ds ds' : Dots) (hs : Rd intR h s vs) (ht : Rd dotR h t ds) (hs' : Rd intR h s' vs') (ht' : Rd dotR h t' ds') (q : (if Zmz vs ds = 0 then Zmz vs' ds' else Zmz vs ds) ≠ 0) : FnC Tryz.prog 54 [.ag [s, t], .ag [s', t']] h (.tu [.ag [.ns, .ns], .i .i64 (if Zmz vs ds = 0 then Zmz vs' ds' else Zmz vs ds)]) h := by
 refine FnAt.c (FnAt.run (by kernel_rfl) (T := ⟨[⟨92, YSA, fun _ => []⟩], []⟩) ⟨⟨XdU, trivial⟩, trivial⟩ Tryz.func54 sw54 fun ho hh => ?_)
 simp only [Xto, J9P, Bool.and_eq_true] at ho
 have f1 := hs.fx ho.1.1 (sz := 1) rfl
 have f2 := ht.fx ho.1.2.1 (sz := 2) rfl
 have f3 := hs'.fx ho.2.1.1 (sz := 1) rfl
 have f4 := ht'.fx ho.2.1.2.1 (sz := 2) rfl
 generalize hc : (if Zmz vs ds = 0 then Zmz vs' ds' else Zmz vs ds) = c at *
 unfold w54
 simp only [X7f, KtR, YUa, XuN, if_true, if_false, reduceIte, Nat.reduceAdd, Nat.reduceSub, Nat.reduceLeDiff, Nat.reduceEqDiff, Nat.reduceMul, Nat.reduceLT, Int.reduceLT, Int.reduceLE, Int.reduceEq, f1, f2, f3, f4, YSA, hc]
 exact ⟨fun _ => Bt.drop _ hh rfl rfl, fun z => absurd q z⟩
noncomputable def qzb (p : Nat) (J : List Int) (D : Dots) : AV × List AB :=
 if (fmO J D).2.length ≤ 4096 then (.tu [.ag [.sl p 0 (topI (fmR J (layR D)).1 16) 16 none, rsl dotR (p + 1) (fmR J (layR D)).2], .i .i64 0], [.blk true true (intR.cells (fmR J (layR D)).1), resB dotR true (fmR J (layR D)).2])
 else (.tu [.ag [.ns, .ns], .i .i64 10], [])
theorem zRH (h : List AB) (hz : h.map AB.freeze = h) (s t s' t' : AV) (vs vs' : List Int) (ds ds' : Dots) (hs : Rd intR h s vs) (ht : Rd dotR h t ds) (hs' : Rd intR h s' vs') (ht' : Rd dotR h t' ds') (c1 : Zmz vs ds = 0) (c2 : Zmz vs' ds' = 0) : FnAt Tryz.prog 54 [.ag [s, t], .ag [s', t']] h (qzb h.length (K3Q vs vs' 16) (ds ++ ds')).1 (h ++ (qzb h.length (K3Q vs vs' 16) (ds ++ ds')).2) := by
 obtain ⟨a1, a2, -⟩ := QXv c1
 obtain ⟨b1, b2, -⟩ := QXv c2
 have hJ := JT6 a1 b1
 have hJl : (K3Q vs vs' 16).length = 16 := Yo2 _ _ _
 have hDl : (ds ++ ds').length = ds.length + ds'.length := List.length_append
 refine FnAt.run (by kernel_rfl) (T := ⟨[⟨92, YSA, fun _ => []⟩, ⟨93, qWH, fun _ => []⟩, ⟨63, qk8, fun _ => []⟩], []⟩) ⟨⟨XdU, Q41, zcX, trivial⟩, trivial⟩ Tryz.func54 sw54 fun ho hh => ?_
 simp only [Xto, J9P, Bool.and_eq_true] at ho
 have f1 := hs.fx ho.1.1 (sz := 1) rfl
 have f2 := ht.fx ho.1.2.1 (sz := 2) rfl
 have f3 := hs'.fx ho.2.1.1 (sz := 1) rfl
 have f4 := ht'.fx ho.2.1.2.1 (sz := 2) rfl
 have u2 := ht.src (sz := 2) rfl
 have u4 := ht'.src (sz := 2) rfl
 have cb : (if Zmz vs ds = 0 then Zmz vs' ds' else Zmz vs ds) = 0 := by rw [if_pos c1]; exact c2
 have fo : ∀ c, s.ok (fun i => decide (i < h.length + c)) = true ∧ t.ok (fun i => decide (i < h.length + c)) = true ∧ s'.ok (fun i => decide (i < h.length + c)) = true ∧ t'.ok (fun i => decide (i < h.length + c)) = true := fun c => by
  have m : ∀ v : AV, v.ok (fun i => decide (i < h.length)) = true → v.ok (fun i => decide (i < h.length + c)) = true := fun v => AV.ok_mono (fun i q => by simp only [decide_eq_true_eq] at q ⊢; omega) v
  exact ⟨m _ ho.1.1, m _ ho.1.2.1, m _ ho.2.1.1, m _ ho.2.1.2.1⟩
 have fr : ∀ sel, Wk (s.ren (selN h.length sel)) s ∧ Wk (t.ren (selN h.length sel)) t ∧ Wk (s'.ren (selN h.length sel)) s' ∧ Wk (t'.ren (selN h.length sel)) t' := fun sel => ⟨Wk.ren (fun i hi => q8q hi) ho.1.1, Wk.ren (fun i hi => q8q hi) ho.1.2.1, Wk.ren (fun i hi => q8q hi) ho.2.1.1, Wk.ren (fun i hi => q8q hi) ho.2.1.2.1⟩
 unfold w54
 simp only [X7f, KtR, YUa, XuN, if_true, if_false, reduceIte, Nat.reduceAdd, Nat.reduceSub, Nat.reduceLeDiff, Nat.reduceEqDiff, Nat.reduceMul, Nat.reduceLT, Int.reduceLT, Int.reduceLE, Int.reduceEq, f1, f2, f3, f4, YSA, cb]
 refine ⟨fun q => q.elim, ?_⟩
 refine QZo (S := Nat) (fun n => 16 - n) (fun n => tp 2 ++ [.p (h.length + 0) 0, .p (h.length + 1) 0, .p (h.length + 2) 0] ++ tp 2 ++ [apS intR (h.length + 3) (K3Q vs vs' n), .i .i64 ((n + 1 : Nat) : Int)] ++ tp 32) (fun n => h ++ [.blk false true [s, t], .blk false true [s', t'], .blk false true [.ns, .ns], resB intR true (K3Q vs vs' n)]) (fun n => n ≤ 16) 0 (Nat.zero_le _) ?_ fun n hn => ?_
 ·show Bt _ _ _ _ _ (h ++ [.blk false true [s, t], .blk false true [s', t'], .blk false true [.ns, .ns], .dead])
  rw [show h ++ [AB.blk false true [s, t], .blk false true [s', t'], .blk false true [.ns, .ns], .dead] = (h ++ [AB.blk false true [s, t], .blk false true [s', t'], .blk false true [.ns, .ns]]) ++ List.replicate 1 .dead from by rw [List.append_assoc]; rfl]
  refine Bt.trans (Bt.wk ?_) (Bt.pad _ _ 1)
  rw [show apS intR (h.length + 3) (K3Q vs vs' 0) = .ns from rfl]
  simp only [YUa, XuN, if_true, if_false, reduceIte, Nat.reduceAdd, Nat.reduceSub, Nat.reduceLeDiff, Nat.reduceEqDiff, Nat.reduceMul, Nat.reduceLT, Int.reduceLT, Int.reduceLE, Int.reduceEq]
 have hnl := Yo2 vs vs' n
 have e1 : IntKind.i64.wrap (((n + 1 : Nat) : Int) + 1) = ((n + 1 + 1 : Nat) : Int) := ZPn (by unfold In64; omega)
 have fa := fun L k ys hb => Yrl (h := h) (r := intR) (sz := 1) rfl L k (K3Q vs vs' n) 8 1 ys hb (by decide) (by omega) (by unfold maxLen; omega)
 by_cases g1 : n < 16
 ·have g1' : (((n + 1 : Nat) : Int) ≤ 16) = True := eq_true (by omega)
  by_cases n0 : n = 0
  ·subst n0
   have z0 : K3Q vs vs' 0 = [] := rfl
   have z1 : K3Q vs vs' (0 + 1) = [max (rAt vs 1) (rAt vs' 1)] := rfl
   have z1' : K3Q vs vs' 1 = [max (rAt vs 1) (rAt vs' 1)] := rfl
   have z2 : ((0 + 1 : Nat) : Int) = 1 := rfl
   have z3 : (1 * 8 ≤ 140737488355328 ∧ 1 ≤ maxLen) = True := eq_true ⟨by decide, by unfold maxLen; omega⟩
   simp only [z0, qY6, YUa, zc6, XuN, if_true, if_false, reduceIte, Nat.reduceAdd, Nat.reduceSub, Nat.reduceLeDiff, Nat.reduceEqDiff, Nat.reduceMul, Nat.reduceLT, Int.reduceLT, Int.reduceLE, Int.reduceEq, CO.tmps, Opd.tmps, optT, Nat.reducePow, Nat.reduceDiv, Nat.reduceMod, f1, f2, f3, f4, qWH, z3, g1', e1, qFZ hz, zN5 hh]
   refine ⟨by unfold maxLen; omega, 1, by omega, by dsimp only; omega, ?_⟩
   have e12 : IntKind.i64.wrap (1 + 1) = ((1 + 1 : Nat) : Int) := ZPn (by unfold In64; omega)
   simp only [z1', QT8, zHP, ze8, e12]
   exact Bt.sel [0, 1, 2, 5] hh (by decide) (by simp only [qpr, FrSel, BlkSel, AV.ren, renL, AV.ok, okL, Option.some.injEq, exists_eq_left', List.length_cons, List.length_nil, Nat.reduceAdd, Nat.reduceLT, reduceCtorEq, implies_true, exists_eq', fo, fr]) (by simp only [qpr, FrSel, BlkSel, AV.ren, renL, AV.ok, okL, Option.some.injEq, exists_eq_left', List.length_cons, List.length_nil, Nat.reduceAdd, Nat.reduceLT, reduceCtorEq, implies_true, exists_eq', fo, fr])
  ·have gr : ∀ id, apS intR id (K3Q vs vs' n) = rsl intR id (K3Q vs vs' n) := fun id => ZtQ _ (by omega)
   have fa := fun L k ys hb => z4x (h := h) (p := h.length) rfl (r := intR) (sz := 1) rfl L k (K3Q vs vs' n) 8 1 ys (by omega) hb (by decide) (by omega) (by unfold maxLen; omega)
   simp only [gr, YUa, zc6, XuN, if_true, if_false, reduceIte, Nat.reduceAdd, Nat.reduceSub, Nat.reduceLeDiff, Nat.reduceEqDiff, Nat.reduceMul, Nat.reduceLT, Int.reduceLT, Int.reduceLE, Int.reduceEq, CO.tmps, Opd.tmps, optT, Nat.reducePow, Nat.reduceDiv, Nat.reduceMod, f1, f2, f3, f4, qWH, fa, g1', e1, qFZ hz, zN5 hh]
   refine ⟨n + 1, g1, by dsimp only; omega, ?_⟩
   simp only [q2r, zfM, XJF, ze8, Nat.add_assoc, Nat.reduceAdd]
   exact Bt.sel [0, 1, 2, 5] hh (by decide) (by simp only [qpr, FrSel, BlkSel, AV.ren, renL, AV.ok, okL, Option.some.injEq, exists_eq_left', List.length_cons, List.length_nil, Nat.reduceAdd, Nat.reduceLT, reduceCtorEq, implies_true, exists_eq', fo, fr]) (by simp only [qpr, FrSel, BlkSel, AV.ren, renL, AV.ok, okL, Option.some.injEq, exists_eq_left', List.length_cons, List.length_nil, Nat.reduceAdd, Nat.reduceLT, reduceCtorEq, implies_true, exists_eq', fo, fr])
 ·obtain rfl : n = 16 := by omega
  have g1' : (((16 + 1 : Nat) : Int) ≤ 16) = False := eq_false (by omega)
  have gr : ∀ id, apS intR id (K3Q vs vs' 16) = rsl intR id (K3Q vs vs' 16) := fun id => ZtQ _ (by omega)
  have k1 : ((K3Q vs vs' 16).length ≤ maxLen) = True := eq_true (by unfold maxLen; omega)
  have k2 : YoS (K3Q vs vs' 16) (ds ++ ds') = True := eq_true hJ
  have k3 : ((ds ++ ds').length ≤ 1000000) = True := eq_true (by omega)
  have k4 : (ds.length * 16 ≤ 140737488355328 ∧ ds.length ≤ maxLen) = True := eq_true ⟨by omega, by unfold maxLen; omega⟩
  have k5 : (ds'.length * 16 ≤ 140737488355328 ∧ ds'.length ≤ maxLen) = True := eq_true ⟨by omega, by unfold maxLen; omega⟩
  have k6 : ((ds.length + ds'.length) * 16 ≤ 140737488355328) = True := eq_true (by omega)
  have k7 : (ds.length + ds'.length ≤ maxLen) = True := eq_true (by unfold maxLen; omega)
  have k8 : (dotR.cells ds).length = ds.length * 2 := dotR.cells_len ds
  have r1 : ∀ (L : List AB) (k n : Nat) (kk : Option Nat), n = (ds ++ ds').length → ownC L k = some (dotR.cells (ds ++ ds')) → getS dotR (h ++ L) (.sl (h.length + k) 0 n n kk) = some (ds ++ ds') := fun L k n kk hn hL => by
   subst hn
   exact (YIQ hL (by unfold maxLen; omega)).get
  have r2 : dotR.cells ds ++ dotR.cells ds' = dotR.cells (ds ++ ds') := by simp [Row.cells]
  have r0 : ∀ (H : List AB) (id : Nat) (kk : Option Nat), (ds ++ ds').length = 0 → getS dotR H (.sl id 0 0 0 kk) = some (ds ++ ds') := fun H id kk hn => (Rd.mk0 hn).get
  by_cases h4 : (fmO (K3Q vs vs' 16) (ds ++ ds')).2.length ≤ 4096
  ·have h4' := eq_true h4
   simp only [qzb, if_pos h4]
   by_cases d0 : ds.length = 0
   ·have d1 : (ds.length = 0) = True := eq_true d0
    have dn : ds = [] := List.eq_nil_of_length_eq_zero d0
    by_cases b0 : ds'.length = 0
    ·have b1 : (ds'.length = 0) = True := eq_true b0
     have bn : ds' = [] := List.eq_nil_of_length_eq_zero b0
     have rr := fun H id kk => r0 H id kk (by omega)
     simp only [gr, YUa, zc6, XuN, if_true, if_false, reduceIte, Nat.reduceAdd, Nat.reduceSub, Nat.reduceLeDiff, Nat.reduceEqDiff, Nat.reduceMul, Nat.reduceLT, Int.reduceLT, Int.reduceLE, Int.reduceEq, CO.tmps, Opd.tmps, optT, Nat.reducePow, Nat.reduceDiv, Nat.reduceMod, f1, f2, f3, f4, u2, u4, d1, b1, k1, k2, k3, k4, k5, k6, k7, k8, rr, Ywh, XXW, ne_eq, qLV, zn9, Zfd, ZBB, z1a, Yef, YTL, qk8, h4', g1', qFZ hz, zN5 hh]
     exact Bt.sel [5, 6] hh (by decide) (by simp only [qpr, FrSel, BlkSel, AV.ren, renL, AV.ok, okL, Option.some.injEq, exists_eq_left', List.length_cons, List.length_nil, Nat.reduceAdd, Nat.reduceLT, reduceCtorEq, implies_true, exists_eq']) (by simp only [qpr, FrSel, BlkSel, AV.ren, renL, AV.ok, okL, Option.some.injEq, exists_eq_left', List.length_cons, List.length_nil, Nat.reduceAdd, Nat.reduceLT, reduceCtorEq, implies_true, exists_eq'])
    ·have b1 : (ds'.length = 0) = False := eq_false b0
     have r3 : dotR.cells ds' = dotR.cells (ds ++ ds') := by rw [dn]; rfl
     have rr : ∀ (L : List AB) (k : Nat) (kk : Option Nat), ownC L k = some (dotR.cells ds') → getS dotR (h ++ L) (.sl (h.length + k) 0 ds'.length ds'.length kk) = some (ds ++ ds') := fun L k kk hL => r1 L k _ kk (by omega) (hL.trans (congrArg some r3))
     simp only [gr, YUa, zc6, XuN, if_true, if_false, reduceIte, Nat.reduceAdd, Nat.reduceSub, Nat.reduceLeDiff, Nat.reduceEqDiff, Nat.reduceMul, Nat.reduceLT, Int.reduceLT, Int.reduceLE, Int.reduceEq, CO.tmps, Opd.tmps, optT, Nat.reducePow, Nat.reduceDiv, Nat.reduceMod, f1, f2, f3, f4, u2, u4, d1, b1, k1, k2, k3, k4, k5, k6, k7, k8, rr, Ywh, XXW, ne_eq, qLV, zn9, Zfd, ZBB, z1a, Yef, YTL, qk8, h4', g1', qFZ hz, zN5 hh]
     exact Bt.sel [6, 7] hh (by decide) (by simp only [qpr, FrSel, BlkSel, AV.ren, renL, AV.ok, okL, Option.some.injEq, exists_eq_left', List.length_cons, List.length_nil, Nat.reduceAdd, Nat.reduceLT, reduceCtorEq, implies_true, exists_eq']) (by simp only [qpr, FrSel, BlkSel, AV.ren, renL, AV.ok, okL, Option.some.injEq, exists_eq_left', List.length_cons, List.length_nil, Nat.reduceAdd, Nat.reduceLT, reduceCtorEq, implies_true, exists_eq'])
   ·have d1 : (ds.length = 0) = False := eq_false d0
    by_cases b0 : ds'.length = 0
    ·have b1 : (ds'.length = 0) = True := eq_true b0
     have bn : ds' = [] := List.eq_nil_of_length_eq_zero b0
     have r3 : dotR.cells ds = dotR.cells (ds ++ ds') := by rw [bn, List.append_nil]
     have rr : ∀ (L : List AB) (k : Nat) (kk : Option Nat), ownC L k = some (dotR.cells ds) → getS dotR (h ++ L) (.sl (h.length + k) 0 ds.length ds.length kk) = some (ds ++ ds') := fun L k kk hL => r1 L k _ kk (by omega) (hL.trans (congrArg some r3))
     simp only [gr, YUa, zc6, XuN, if_true, if_false, reduceIte, Nat.reduceAdd, Nat.reduceSub, Nat.reduceLeDiff, Nat.reduceEqDiff, Nat.reduceMul, Nat.reduceLT, Int.reduceLT, Int.reduceLE, Int.reduceEq, CO.tmps, Opd.tmps, optT, Nat.reducePow, Nat.reduceDiv, Nat.reduceMod, f1, f2, f3, f4, u2, u4, d1, b0, k1, k2, k3, k4, k5, k6, k7, k8, rr, Ywh, XXW, ne_eq, qLV, zn9, Zfd, ZBB, z1a, Yef, YTL, qk8, h4', g1', qFZ hz, zN5 hh]
     exact Bt.sel [6, 7] hh (by decide) (by simp only [qpr, FrSel, BlkSel, AV.ren, renL, AV.ok, okL, Option.some.injEq, exists_eq_left', List.length_cons, List.length_nil, Nat.reduceAdd, Nat.reduceLT, reduceCtorEq, implies_true, exists_eq']) (by simp only [qpr, FrSel, BlkSel, AV.ren, renL, AV.ok, okL, Option.some.injEq, exists_eq_left', List.length_cons, List.length_nil, Nat.reduceAdd, Nat.reduceLT, reduceCtorEq, implies_true, exists_eq'])
    ·have b1 : (ds'.length = 0) = False := eq_false b0
     have rr : ∀ (L : List AB) (k : Nat) (kk : Option Nat), ownC L k = some (dotR.cells ds ++ dotR.cells ds') → getS dotR (h ++ L) (.sl (h.length + k) 0 (ds.length + ds'.length) (ds.length + ds'.length) kk) = some (ds ++ ds') := fun L k kk hL => r1 L k _ kk (by omega) (hL.trans (congrArg some r2))
     simp only [gr, YUa, zc6, XuN, if_true, if_false, reduceIte, Nat.reduceAdd, Nat.reduceSub, Nat.reduceLeDiff, Nat.reduceEqDiff, Nat.reduceMul, Nat.reduceLT, Int.reduceLT, Int.reduceLE, Int.reduceEq, CO.tmps, Opd.tmps, optT, Nat.reducePow, Nat.reduceDiv, Nat.reduceMod, f1, f2, f3, f4, u2, u4, d1, b1, k1, k2, k3, k4, k5, k6, k7, k8, rr, Ywh, XXW, ne_eq, qLV, zn9, Zfd, ZBB, z1a, Yef, YTL, qk8, h4', g1', qFZ hz, zN5 hh]
     exact Bt.sel [7, 8] hh (by decide) (by simp only [qpr, FrSel, BlkSel, AV.ren, renL, AV.ok, okL, Option.some.injEq, exists_eq_left', List.length_cons, List.length_nil, Nat.reduceAdd, Nat.reduceLT, reduceCtorEq, implies_true, exists_eq']) (by simp only [qpr, FrSel, BlkSel, AV.ren, renL, AV.ok, okL, Option.some.injEq, exists_eq_left', List.length_cons, List.length_nil, Nat.reduceAdd, Nat.reduceLT, reduceCtorEq, implies_true, exists_eq'])
  ·have h4' := eq_false h4
   simp only [qzb, if_neg h4]
   by_cases d0 : ds.length = 0
   ·have d1 : (ds.length = 0) = True := eq_true d0
    have dn : ds = [] := List.eq_nil_of_length_eq_zero d0
    by_cases b0 : ds'.length = 0
    ·have b1 : (ds'.length = 0) = True := eq_true b0
     have bn : ds' = [] := List.eq_nil_of_length_eq_zero b0
     have rr := fun H id kk => r0 H id kk (by omega)
     simp only [gr, YUa, zc6, XuN, if_true, if_false, reduceIte, Nat.reduceAdd, Nat.reduceSub, Nat.reduceLeDiff, Nat.reduceEqDiff, Nat.reduceMul, Nat.reduceLT, Int.reduceLT, Int.reduceLE, Int.reduceEq, CO.tmps, Opd.tmps, optT, Nat.reducePow, Nat.reduceDiv, Nat.reduceMod, f1, f2, f3, f4, u2, u4, d1, b1, k1, k2, k3, k4, k5, k6, k7, k8, rr, Ywh, XXW, ne_eq, qLV, zn9, Zfd, ZBB, z1a, Yef, YTL, qk8, h4', g1', qFZ hz, zN5 hh]
     rw [show h ++ ([] : List AB) = h from List.append_nil h]
     exact Bt.drop _ hh rfl (by simp [AV.ok, okL])
    ·have b1 : (ds'.length = 0) = False := eq_false b0
     have r3 : dotR.cells ds' = dotR.cells (ds ++ ds') := by rw [dn]; rfl
     have rr : ∀ (L : List AB) (k : Nat) (kk : Option Nat), ownC L k = some (dotR.cells ds') → getS dotR (h ++ L) (.sl (h.length + k) 0 ds'.length ds'.length kk) = some (ds ++ ds') := fun L k kk hL => r1 L k _ kk (by omega) (hL.trans (congrArg some r3))
     simp only [gr, YUa, zc6, XuN, if_true, if_false, reduceIte, Nat.reduceAdd, Nat.reduceSub, Nat.reduceLeDiff, Nat.reduceEqDiff, Nat.reduceMul, Nat.reduceLT, Int.reduceLT, Int.reduceLE, Int.reduceEq, CO.tmps, Opd.tmps, optT, Nat.reducePow, Nat.reduceDiv, Nat.reduceMod, f1, f2, f3, f4, u2, u4, d1, b1, k1, k2, k3, k4, k5, k6, k7, k8, rr, Ywh, XXW, ne_eq, qLV, zn9, Zfd, ZBB, z1a, Yef, YTL, qk8, h4', g1', qFZ hz, zN5 hh]
     rw [show h ++ ([] : List AB) = h from List.append_nil h]
     exact Bt.drop _ hh rfl (by simp [AV.ok, okL])
   ·have d1 : (ds.length = 0) = False := eq_false d0
    by_cases b0 : ds'.length = 0
    ·have b1 : (ds'.length = 0) = True := eq_true b0
     have bn : ds' = [] := List.eq_nil_of_length_eq_zero b0
     have r3 : dotR.cells ds = dotR.cells (ds ++ ds') := by rw [bn, List.append_nil]
     have rr : ∀ (L : List AB) (k : Nat) (kk : Option Nat), ownC L k = some (dotR.cells ds) → getS dotR (h ++ L) (.sl (h.length + k) 0 ds.length ds.length kk) = some (ds ++ ds') := fun L k kk hL => r1 L k _ kk (by omega) (hL.trans (congrArg some r3))
     simp only [gr, YUa, zc6, XuN, if_true, if_false, reduceIte, Nat.reduceAdd, Nat.reduceSub, Nat.reduceLeDiff, Nat.reduceEqDiff, Nat.reduceMul, Nat.reduceLT, Int.reduceLT, Int.reduceLE, Int.reduceEq, CO.tmps, Opd.tmps, optT, Nat.reducePow, Nat.reduceDiv, Nat.reduceMod, f1, f2, f3, f4, u2, u4, d1, b0, k1, k2, k3, k4, k5, k6, k7, k8, rr, Ywh, XXW, ne_eq, qLV, zn9, Zfd, ZBB, z1a, Yef, YTL, qk8, h4', g1', qFZ hz, zN5 hh]
     rw [show h ++ ([] : List AB) = h from List.append_nil h]
     exact Bt.drop _ hh rfl (by simp [AV.ok, okL])
    ·have b1 : (ds'.length = 0) = False := eq_false b0
     have rr : ∀ (L : List AB) (k : Nat) (kk : Option Nat), ownC L k = some (dotR.cells ds ++ dotR.cells ds') → getS dotR (h ++ L) (.sl (h.length + k) 0 (ds.length + ds'.length) (ds.length + ds'.length) kk) = some (ds ++ ds') := fun L k kk hL => r1 L k _ kk (by omega) (hL.trans (congrArg some r2))
     simp only [gr, YUa, zc6, XuN, if_true, if_false, reduceIte, Nat.reduceAdd, Nat.reduceSub, Nat.reduceLeDiff, Nat.reduceEqDiff, Nat.reduceMul, Nat.reduceLT, Int.reduceLT, Int.reduceLE, Int.reduceEq, CO.tmps, Opd.tmps, optT, Nat.reducePow, Nat.reduceDiv, Nat.reduceMod, f1, f2, f3, f4, u2, u4, d1, b1, k1, k2, k3, k4, k5, k6, k7, k8, rr, Ywh, XXW, ne_eq, qLV, zn9, Zfd, ZBB, z1a, Yef, YTL, qk8, h4', g1', qFZ hz, zN5 hh]
     rw [show h ++ ([] : List AB) = h from List.append_nil h]
     exact Bt.drop _ hh rfl (by simp [AV.ok, okL])
theorem JMp : Spec Tryz.prog 54 ZWR := by
 intro args h v h' e
 unfold ZWR at e
 split at e
 ·rename_i s t s' t'
  obtain ⟨vs, hs, e⟩ := Ksw e
  obtain ⟨ds, ht, e⟩ := Ksw e
  obtain ⟨vs', hs', e⟩ := Ksw e
  obtain ⟨ds', ht', e⟩ := Ksw e
  by_cases c1 : Zmz vs ds = 0
  ·rw [if_neg (by simpa using c1)] at e
   by_cases c2 : Zmz vs' ds' = 0
   ·rw [if_neg (by simpa using c2)] at e
    have go := fun h hz hs ht hs' ht' => zRH h hz s t s' t' vs vs' ds ds' hs ht hs' ht' c1 c2
    by_cases h4 : (fmO (K3Q vs vs' 16) (ds ++ ds')).2.length ≤ 4096
    ·rw [if_pos h4] at e
     cases e
     refine FnAt.c (FnAt.frz fun hz => ?_)
     rw [show h.length = (h.map AB.freeze).length from (List.length_map _).symm]
     have := go (h.map AB.freeze) hz hs.frz ht.frz hs'.frz ht'.frz
     simp only [qzb, if_pos h4] at this
     exact this
    ·rw [if_neg h4] at e
     cases e
     refine FnAt.c (FnAt.frz0 fun hz => ?_)
     have := go (h.map AB.freeze) hz hs.frz ht.frz hs'.frz ht'.frz
     simp only [qzb, if_neg h4, List.append_nil] at this
     exact this
   ·rw [if_pos c2] at e
    cases e
    have := JgH h s t s' t' vs vs' ds ds' hs ht hs' ht' (by rw [if_pos c1]; exact c2)
    rwa [if_pos c1] at this
  ·rw [if_pos c1] at e
   cases e
   have := JgH h s t s' t' vs vs' ds ds' hs ht hs' ht' (by rw [if_neg c1]; exact c1)
   rwa [if_neg c1] at this
 ·cases e
end Go.Proofs.YtcncpbcbedfakaaGreat
end
