/- Part 19 of what the laws' proofs rest on. No condition. -/
import Derived.Test.YtfaccliekejngaaGreatOa18
set_option linter.all false
section
namespace Go.Proofs.YtfaccliekejngaaGreat
set_option maxRecDepth 100000
set_option maxHeartbeats 4000000
open Classical in
noncomputable def XZV : List AV → List AB → Option (AV × List AB)
 | [s, .f (.func 119) [] []], h => (getS dotR h s).bind fun l => match idOf s with
   | [id] => if l.length ≤ 1000000 ∧ s = rsl dotR id l ∧ h[id]? = some (resB dotR true l) then some (.tu [], h.set id (resB dotR true (srtD l))) else none
   | _ => none
 | _, _ => none
def boxL : List AB → Nat → Option (AV × AV)
 | .blk false true [v, d] :: _, 0 => if v.isSl = true ∧ d.isSl = true then some (v, d) else none
 | _, 0 => none
 | [], _ => none
 | _ :: L, k + 1 => boxL L k
theorem Qzw (v d : AV) (L : List AB) : boxL (.blk false true [v, d] :: L) 0 = if v.isSl = true ∧ d.isSl = true then some (v, d) else none := _root_.id rfl
theorem Zfr (B : AB) (L : List AB) (k : Nat) : boxL (B :: L) (k + 1) = boxL L k := by
 cases B with
 | blk fl m xs => cases fl <;> cases m <;> (match xs with | [] => rfl | [_] => rfl | [_, _] => rfl | _ :: _ :: _ :: _ => rfl)
 | _ => rfl
theorem XlB : ∀ (L : List AB) (k : Nat), KkM L k = boxL L k
 | [], k => by cases k <;> simp [KkM, boxL]
 | B :: L, 0 => by
  unfold KkM boxL
  simp only [List.getElem?_cons_zero]
  split <;> split <;> simp_all
 | B :: L, k + 1 => by
  rw [Zfr, ← XlB L k]
  unfold KkM
  simp only [List.getElem?_cons_succ]
theorem Jer (h L : List AB) (k : Nat) : KkM (h ++ L) (h.length + k) = boxL L k := by
 rw [← XlB]
 unfold KkM
 rw [List.getElem?_append_right (by omega), Nat.add_sub_cancel_left]
theorem Zl1 (h L : List AB) (k : Nat) (v d : AV) : bx2 (h ++ L) (h.length + k) v d = h ++ L.set k (.blk false true [v, d]) := by
 unfold bx2
 rw [List.set_append_right _ _ (by omega), Nat.add_sub_cancel_left]
theorem Zpl (h L : List AB) (k : Nat) : (h ++ L)[h.length + k]? = L[k]? := by rw [List.getElem?_append_right (by omega), Nat.add_sub_cancel_left]
noncomputable def qTJ : List AV → List AB → Option (AV × List AB)
 | [s, t], h => (getS intR h s).bind fun v => (getS dotR h t).bind fun ds => if ds.length ≤ 100000 then
   if ZHB v ds then
    if (fmO v ds).2.length ≤ 4096 then some (.tu [.ag [rsl intR h.length (fmO v ds).1, rsl dotR (h.length + 1) (fmO v ds).2], .i .i64 0], h ++ [resB intR true (fmO v ds).1, resB dotR true (fmO v ds).2])
    else some (.tu [.ag [.ns, .ns], .i .i64 10], h)
   else some (.tu [.ag [.ns, .ns], .i .i64 3], h)
  else none
 | _, _ => none
theorem J5z {h L : List AB} {a b : Nat} {V : List Int} {D : Dots} {e : AV} {n : Nat} (hh : HOk h) (hn : n ≤ V.length) (he : e.ok (fun i => decide (i < h.length + 2)) = true) (hre : ∀ f, e.ren f = e) (hab : a ≠ b) (ha : L[a]? = some (resB intR true V)) (hb : L[b]? = some (resB dotR true D)) :
  Bt Tryz.prog h.length [.tu [.ag [cutS (rsl intR (h.length + a) V) n, apS dotR (h.length + b) D], e]] (h ++ L) [.tu [.ag [rsl intR h.length (V.take n), apS dotR (h.length + 1) D], e]] (h ++ [resB intR true (V.take n), resB dotR true D]) := by
 have s1 : Bt Tryz.prog h.length [.tu [.ag [cutS (rsl intR (h.length + a) V) n, apS dotR (h.length + b) D], e]] (h ++ L) [.tu [.ag [cutS (rsl intR (h.length + 0) V) n, apS dotR (h.length + 1) D], e]] (h ++ [resB intR true V, resB dotR true D]) := by
  refine Bt.sel [a, b] hh (by simp [hab]) (by simp only [BlkSel, ha, hb, qfL, Option.some.injEq, exists_eq_left', and_true]) ?_
  refine ⟨.inr ⟨?_, ?_⟩, trivial⟩
  ·simp only [AV.ok, okL, Bool.and_eq_true, Bool.and_true]
   exact ⟨⟨XfD _ _ _ (by simp), YE7 _ _ _ (by simp)⟩, he⟩
  ·simp only [AV.ren, renL, Jsa, q0B, hre]
   rw [JOn, JOn]
   exact Wk.refl _
 refine s1.trans ?_
 have s2 := Bt.take (P := Tryz.prog) (p := h.length) (fr := [.tu [.ag [cutS (rsl intR (h.length + 0) V) n, apS dotR (h.length + 1) D], e]]) (h := h ++ [resB intR true V, resB dotR true D]) (i := h.length + 0) (n := n) (m := true) (l := V) (by rw [Zpl]; rfl) hn
 rw [List.set_append_right _ _ (by omega), Nat.add_sub_cancel_left] at s2
 refine s2.trans (Bt.wk ⟨?_, trivial⟩)
 intro ρ c hv
 cases hv with
 | tu l cs hl hv =>
  refine .tu _ cs hl fun j x c hx hc => ?_
  match j, hx with
  | 0, hx =>
   cases hx
   have h0 := hv 0 _ c rfl hc
   cases h0 with
   | ag l2 cs2 hl2 hv2 =>
    refine .ag _ cs2 hl2 fun j x c hx hc => ?_
    match j, hx with
    | 0, hx => cases hx; exact XAy (r := intR) _ hn _ _ (hv2 0 _ c rfl hc)
    | 1, hx => cases hx; exact hv2 1 _ c rfl hc
  | 1, hx => cases hx; exact hv 1 _ c rfl hc
theorem qHt {h : List AB} {H : List AB} {V : AV} {id : Nat} {D : Dots} {e : AV} : Bt Tryz.prog h.length [.tu [.ag [V, apS dotR id D], e]] H [.tu [.ag [V, rsl dotR id D], e]] H := Bt.wk ⟨by
 intro ρ c hv
 cases hv with
 | tu l cs hl hv =>
  refine .tu _ cs hl fun j x c hx hc => ?_
  match j, hx with
  | 0, hx =>
   cases hx
   have h0 := hv 0 _ c rfl hc
   cases h0 with
   | ag l2 cs2 hl2 hv2 =>
    refine .ag _ cs2 hl2 fun j x c hx hc => ?_
    match j, hx with
    | 0, hx => cases hx; exact hv2 0 _ c rfl hc
    | 1, hx => cases hx; exact Krb (r := dotR) _ _ _ _ (hv2 1 _ c rfl hc)
  | 1, hx => cases hx; exact hv 1 _ c rfl hc, trivial⟩
theorem Y5u {h L : List AB} {a b : Nat} {V : List Int} {D : Dots} {e : AV} {n : Nat} (hh : HOk h) (hn : n ≤ V.length) (he : e.ok (fun i => decide (i < h.length + 2)) = true) (hre : ∀ f, e.ren f = e) (hab : a ≠ b) (ha : L[a]? = some (resB intR true V)) (hb : L[b]? = some (resB dotR true D)) :
  Bt Tryz.prog h.length [.tu [.ag [cutS (rsl intR (h.length + a) V) n, apS dotR (h.length + b) D], e]] (h ++ L) [.tu [.ag [rsl intR h.length (V.take n), rsl dotR (h.length + 1) D], e]] (h ++ [resB intR true (V.take n), resB dotR true D]) := (J5z hh hn he hre hab ha hb).trans qHt
theorem Kz5 {v : List Int} {ds : Dots} (h : ZHB v ds) : (∀ n ∈ Zsa [] v, n ≤ 1048576) ∧ (Zsa [] v).length ≤ 16 ∧ (∀ r, vAt (Zsa [] v) r = vAt v r) := by
 refine ⟨fun n hn => ?_, by rw [Qwf]; have := h.1; simp; omega, fun r => ?_⟩
 ·simp only [Zsa, jn, List.mem_map, List.mem_range] at hn
  obtain ⟨i, _, rfl⟩ := hn
  rw [JEC]
  have := qjh v (fun n hn => (h.2.1 n hn).2) ((i + 1 : Nat) : Int)
  omega
 ·rw [Zu6, JEC]
  have := K2N v r
  omega
theorem Yiy : ∀ (l : Dots) (s : AbS), (absR s l).1.length ≤ max s.1.length 16 ∧ (absR s l).2.length ≤ s.2.length + l.length
 | [], s => ⟨by simp only [absR, List.foldl_nil]; omega, by simp only [absR, List.foldl_nil]; omega⟩
 | d :: l, s => by
  have h1 := X3E s d
  have h2 := Yiy l (absD s d)
  simp only [absR, List.foldl_cons, List.length_cons] at h2 ⊢
  omega
theorem Jrg (hS : Spec Tryz.prog 118 XZV) : Spec Tryz.prog 71 qTJ := by
 intro args h v h' e
 unfold qTJ at e
 split at e
 ·rename_i s t
  obtain ⟨vs, hs, e⟩ := KsT e
  obtain ⟨ds, ht, e⟩ := KsT e
  split at e
  ·rename_i hl
   by_cases hr : ZHB vs ds
   ·rw [if_pos hr] at e
    have gr : ZHB vs ds = True := eq_true hr
    obtain ⟨n1, n2, n3⟩ := Kz5 hr
    have hfm := ZnO (x := Zsa [] vs) (ds := ds) hr n2 (Ksj [] vs) n3
    have l16 := hr.1
    have gd : ∀ d ∈ srtD ds, XOk d := fun d hd => hr.2.2 d ((qJ2 ds d).1 hd)
    have gc : ((Zsa [] vs).length ≤ 100000 ∧ (srtD ds).length ≤ 100000 ∧ (∀ n ∈ Zsa [] vs, n ≤ 1048576) ∧ ∀ d ∈ srtD ds, XOk d) = True := eq_true ⟨by omega, by rw [Jxj]; exact hl, n1, gd⟩
    have g1 : (ds.length ≤ 1000000) = True := eq_true (by omega)
    have g2 : (vs.length ≤ 1000000) = True := eq_true (by omega)
    have g3 : (ds.length ≤ maxLen) = True := eq_true (by unfold maxLen; omega)
    have g4 : ((srtD ds).length ≤ maxLen) = True := eq_true (by rw [Jxj]; unfold maxLen; omega)
    have g5 : ((Zsa [] vs).length ≤ maxLen) = True := eq_true (by unfold maxLen; omega)
    have hfm1 : (fmO vs ds).1 = (absR (Zsa [] vs, []) (srtD ds)).1.take (topI (absR (Zsa [] vs, []) (srtD ds)).1 (absR (Zsa [] vs, []) (srtD ds)).1.length) := by
     rw [← hfm]
     exact QsM _ _ (Nat.le_refl _)
    have hfm2 : (fmO vs ds).2 = (absR (Zsa [] vs, []) (srtD ds)).2 := by rw [← hfm]; rfl
    have htr := QsM (absR (Zsa [] vs, []) (srtD ds)).1 (absR (Zsa [] vs, []) (srtD ds)).1.length (Nat.le_refl _)
    have hti := X40 (absR (Zsa [] vs, []) (srtD ds)).1 (absR (Zsa [] vs, []) (srtD ds)).1.length
    rw [hfm1, hfm2] at e
    have g0 : (([] : List Int).length ≤ 1000000) = True := eq_true (Nat.zero_le _)
    have gsr : ∀ id, rsl dotR id ds = rsl dotR id (srtD ds) := fun id => by unfold rsl; rw [Jxj]
    have gA : ((absR (Zsa [] vs, []) (srtD ds)).1.length ≤ maxLen) = True := eq_true (by have := (Yiy (srtD ds) (Zsa [] vs, [])).1; simp only at this; unfold maxLen; omega)
    have gB : ((absR (Zsa [] vs, []) (srtD ds)).2.length ≤ maxLen) = True := eq_true (by have := (Yiy (srtD ds) (Zsa [] vs, [])).2; rw [Jxj] at this; simp only [List.length_nil] at this; unfold maxLen; omega)
    have hlen : (ZvV (absR (Zsa [] vs, []) (srtD ds)).1 (absR (Zsa [] vs, []) (srtD ds)).1.length).length = topI (absR (Zsa [] vs, []) (srtD ds)).1 (absR (Zsa [] vs, []) (srtD ds)).1.length := by
     rw [htr, List.length_take]
     omega
    have FA : FnAt Tryz.prog 71 [s, t] h v h' := by
     refine FnAt.run (by kernel_rfl) (T := ⟨[⟨92, q0R, fun _ => []⟩, ⟨72, JXa, fun _ => []⟩, ⟨118, XZV, fun _ => []⟩, ⟨101, z57, fun _ => []⟩, ⟨102, YIn, fun _ => []⟩, ⟨103, ZGb, fun _ => []⟩, ⟨104, qeC, fun _ => []⟩], []⟩) ⟨⟨zzo, zPF, hS, qW0, qKa, Zf0, Jrd, trivial⟩, trivial⟩ Tryz.func71 sw71 fun ho hh => ?_
     simp only [znG, Z4M, Bool.and_eq_true] at ho
     have f1 := hs.fx ho.1 (sz := 1) rfl
     have f2 := ht.fx ho.2.1 (sz := 2) rfl
     unfold w71
     by_cases hq : (absR (Zsa [] vs, []) (srtD ds)).1 = Zsa [] vs
     ·have gq := eq_true hq
      simp only [YGO, Jyg, X5g, QXB, simprocAttr, f1, f2, q0R, gr, JXa, XZV, z57, g1, g2, g3, g4, g5, gc, gq, gA, gB, g0, Jer, Qzw, Zfr, Zl1, Zpl, JNv, Ju9, J8G, AV.isNs, zwU, nsSl, zBQ]
      simp only [X5g, QXB, simprocAttr, gsr, YIn, ZGb, qeC, g1, g2, g3, g4, g5, gc, gq, gA, gB, Jer, Qzw, Zfr, Zl1, Zpl, JNv, Ju9, J8G, AV.isNs, zwU, nsSl, zBQ]
      refine ⟨fun q => q.elim, ?_⟩
      by_cases h6 : (fmO vs ds).2.length ≤ 4096
      ·have g6 : ((4096 : Int) < ((absR (Zsa [] vs, []) (srtD ds)).2.length : Int)) = False := eq_false (by rw [← hfm2]; omega)
       rw [hfm2] at h6
       rw [if_pos h6] at e
       cases e
       simp only [X5g, QXB, simprocAttr, g6, Y84, QaE, zcZ]
       rw [hq] at hlen hti ⊢
       rw [hlen]
       refine Y5u (a := 3) (b := 4) hh hti ?_ (fun _ => ?_) (by decide) ?_ ?_ <;> rfl
      ·have g6 : ((4096 : Int) < ((absR (Zsa [] vs, []) (srtD ds)).2.length : Int)) = True := eq_true (by rw [← hfm2]; omega)
       rw [hfm2] at h6
       rw [if_neg h6] at e
       cases e
       simp only [X5g, QXB, simprocAttr, g6, Y84, QaE, zcZ]
       exact Bt.drop _ hh rfl (by simp [AV.ok, okL])
     ·have gq := eq_false hq
      simp only [YGO, Jyg, X5g, QXB, simprocAttr, f1, f2, q0R, gr, JXa, XZV, z57, g1, g2, g3, g4, g5, gc, gq, gA, gB, g0, Jer, Qzw, Zfr, Zl1, Zpl, JNv, Ju9, J8G, AV.isNs, zwU, nsSl, zBQ]
      simp only [X5g, QXB, simprocAttr, gsr, YIn, ZGb, qeC, g1, g2, g3, g4, g5, gc, gq, gA, gB, Jer, Qzw, Zfr, Zl1, Zpl, JNv, Ju9, J8G, AV.isNs, zwU, nsSl, zBQ]
      refine ⟨fun q => q.elim, ?_⟩
      by_cases h6 : (fmO vs ds).2.length ≤ 4096
      ·have g6 : ((4096 : Int) < ((absR (Zsa [] vs, []) (srtD ds)).2.length : Int)) = False := eq_false (by rw [← hfm2]; omega)
       rw [hfm2] at h6
       rw [if_pos h6] at e
       cases e
       simp only [X5g, QXB, simprocAttr, g6, Y84, QaE, zcZ]
       rw [hlen]
       refine Y5u (a := 4) (b := 5) hh hti ?_ (fun _ => ?_) (by decide) ?_ ?_ <;> rfl
      ·have g6 : ((4096 : Int) < ((absR (Zsa [] vs, []) (srtD ds)).2.length : Int)) = True := eq_true (by rw [← hfm2]; omega)
       rw [hfm2] at h6
       rw [if_neg h6] at e
       cases e
       simp only [X5g, QXB, simprocAttr, g6, Y84, QaE, zcZ]
       exact Bt.drop _ hh rfl (by simp [AV.ok, okL])
    exact FA.c
   ·rw [if_neg hr] at e
    have gr : ZHB vs ds = False := eq_false hr
    cases e
    refine FnAt.c (FnAt.run (by kernel_rfl) (T := ⟨[⟨92, q0R, fun _ => []⟩], []⟩) ⟨⟨zzo, trivial⟩, trivial⟩ Tryz.func71 sw71 fun ho hh => ?_)
    simp only [znG, Z4M, Bool.and_eq_true] at ho
    have f1 := hs.fx ho.1 (sz := 1) rfl
    have f2 := ht.fx ho.2.1 (sz := 2) rfl
    unfold w71
    simp only [YGO, Jyg, X5g, QXB, simprocAttr, f1, f2, q0R, gr]
    exact ⟨Bt.drop _ hh rfl (by simp [AV.ok, okL]), fun q => q⟩
  ·cases e
 ·cases e
end Go.Proofs.YtfaccliekejngaaGreat
end
section
namespace Go.Proofs.YtfaccliekejngaaGreat
set_option maxRecDepth 100000
set_option maxHeartbeats 4000000
section
variable {P : Program} {h : List AB} {id n : Nat}
def topB (n : Nat) : AB := .blk true true (List.replicate n .top)
theorem Bt.top {p : Nat} {fr : List AV} {xs : List AV} (hi : h[id]? = some (.blk true true xs)) (hn : xs.length = n) : Bt P p fr h fr (h.set id (topB n)) := by
 refine Bt.less hi (fun ρ w b o m hb => ?_) (fun _ => rfl) (fun _ => rfl)
 obtain ⟨cs, e, fz, h1, h2, h3, _⟩ := hb
 refine ⟨cs, e, fz, h1, h2, by rw [List.length_replicate]; omega, fun k a c ha _ => ?_⟩
 rw [List.getElem?_replicate] at ha
 split at ha
 ·cases ha
  exact .top c
 ·cases ha
theorem JIk (hid : id < h.length) (x : List AB) (o : Nat) (w : AV) (hw : w.one = true) (hf : wrOk true w = true) (ho : o < n) : stV (h.set id (topB n) ++ x) none (.p id o) w = some (h.set id (.blk true true (over (List.replicate n .top) o [w])) ++ x) := by
 have hb : (h.set id (.blk true true (List.replicate n .top)) ++ x)[id]? = some (.blk true true (List.replicate n .top)) := by
  rw [List.getElem?_append_left (by rw [List.length_set]; exact hid), List.getElem?_set_self hid]
 simp only [stV, hw, if_true, stB, topB, hb]
 rw [if_pos ⟨by simp; omega, by simp [hf]⟩]
 congr 1
 rw [List.set_append_left _ _ (by rw [List.length_set]; exact hid), List.set_set]
theorem YaP (hid : id < h.length) (x : List AB) (o m : Nat) (l : List AV) (hl : l.length = m) (hf : l.all (wrOk true) = true) (ho : o + m ≤ n) : stV (h.set id (topB n) ++ x) (some m) (.p id o) (.ag l) = some (h.set id (.blk true true (over (List.replicate n .top) o l)) ++ x) := by
 have hb : (h.set id (.blk true true (List.replicate n .top)) ++ x)[id]? = some (.blk true true (List.replicate n .top)) := by
  rw [List.getElem?_append_left (by rw [List.length_set]; exact hid), List.getElem?_set_self hid]
 simp only [stV, hl, if_true, stB, topB, hb]
 rw [if_pos ⟨by simp; omega, hf⟩]
 congr 1
 rw [List.set_append_left _ _ (by rw [List.length_set]; exact hid), List.set_set]
theorem Z51 {p : Nat} {fr fr' : List AV} (hid : id < h.length) (o : Nat) (l : List AV) (ho : o + l.length ≤ n) (hw : WkL fr' fr) : Bt P p fr (h.set id (.blk true true (over (List.replicate n .top) o l)) ++ []) fr' (h.set id (topB n) ++ []) := by
 rw [List.append_nil, List.append_nil]
 refine Bt.trans (Bt.wk hw) ?_
 have := Bt.top (P := P) (p := p) (fr := fr') (h := h.set id (.blk true true (over (List.replicate n .top) o l))) (id := id) (n := n) (xs := over (List.replicate n .top) o l) (by rw [List.getElem?_set_self hid]) (by rw [qa3 _ _ _ (by simp; omega)]; simp)
 rwa [List.set_set] at this
theorem zHs {p : Nat} {fr fr' : List AV} {xs : List AV} (hi : h[id]? = some (.blk true true xs)) (hn : xs.length = n) (hw : WkL fr' fr) : Bt P p fr (h ++ []) fr' (h.set id (topB n) ++ []) := by
 rw [List.append_nil, List.append_nil]
 exact Bt.trans (Bt.wk hw) (Bt.top hi hn)
theorem ztN {p : Nat} {fr : List AV} (hid : id < h.length) : Bt P p fr (h.set id (topB n) ++ []) fr (h.set id .dead) := by
 rw [List.append_nil]
 have := Bt.less (P := P) (p := p) (fr := fr) (h := h.set id (topB n)) (i := id) (B := topB n) (B' := .dead) (by rw [List.getElem?_set_self hid]) (fun _ _ _ _ _ _ => trivial) (fun q => by cases q) (fun q => by cases q)
 rwa [List.set_set] at this
end
open Classical in
noncomputable def zDG {α : Type} (r : Row α) : List AV → List AB → Option (AV × List AB)
 | [s], h => if s.isNs = true then some (.tu [], h) else (getS r h s).bind fun l => match idOf s with
   | [id] => if s = rsl r id l ∧ h[id]? = some (resB r true l) ∧ l.length ≤ 1000000 then some (.tu [], h.set id .dead) else none
   | _ => none
 | _, _ => none
theorem ZiE {h : List AB} {id : Nat} (e : h[id]? = some .dead) : h.set id .dead = h := by
 apply List.ext_getElem?
 intro j
 rw [List.getElem?_set]
 split
 ·rename_i hij
  subst hij
  first | rw [if_pos (List.getElem?_eq_some_iff.1 e).1, e] | rw [e]
 ·rfl
theorem ZEn : Spec Tryz.prog 117 (zDG intR) := by
 intro args h v h' e
 unfold zDG at e
 split at e
 ·rename_i s
  split at e
  ·rename_i hns
   cases e
   cases s <;> first | (cases hns; done) | skip
   refine FnAt.c (FnAt.run (by kernel_rfl) (T := ⟨[], []⟩) ⟨trivial, trivial⟩ Tryz.func117 KPO fun ho hh => ?_)
   unfold w117
   simp only [YGO, Jyg, X5g, QXB, simprocAttr]
   refine KPW (S := Unit) (fun _ => 0) (fun _ => [.ns] ++ tp 1 ++ [.i .i64 0] ++ tp 9) (fun _ => True) () trivial (by simp only [X5g, QXB, simprocAttr]) fun _ _ => ?_
   simp only [X5g, QXB, simprocAttr, Int.lt_irrefl, false_implies]
   exact Bt.eq rfl (List.append_nil h)
  ·obtain ⟨l, hs, e⟩ := KsT e
   split at e
   ·rename_i id hid
    split at e
    ·rename_i hc
     cases e
     obtain ⟨h1, h2, h3⟩ := hc
     have hlt := (List.getElem?_eq_some_iff.1 h2).1
     by_cases h0 : l.length = 0
     ·have e2 : h.set id .dead = h := ZiE (by rw [h2]; unfold resB; rw [if_pos h0])
      rw [e2, h1]
      unfold rsl
      rw [if_pos h0]
      refine FnAt.c (FnAt.run (by kernel_rfl) (T := ⟨[], []⟩) ⟨trivial, trivial⟩ Tryz.func117 KPO fun ho hh => ?_)
      unfold w117
      simp only [YGO, Jyg, X5g, QXB, simprocAttr]
      refine KPW (S := Unit) (fun _ => 0) (fun _ => [.sl id 0 0 0 (some 0)] ++ tp 1 ++ [.i .i64 0] ++ tp 9) (fun _ => True) () trivial (by simp only [X5g, QXB, simprocAttr]) fun _ _ => ?_
      simp only [X5g, QXB, simprocAttr, Int.natCast_zero, Int.lt_irrefl, false_implies, lenV]
      exact Bt.eq rfl (List.append_nil h)
     ·rw [h1]
      unfold rsl
      rw [if_neg h0]
      have hb : h[id]? = some (.blk true true (intR.cells l)) := by rw [h2]; unfold resB; rw [if_neg h0]
      refine FnAt.c (FnAt.run (by kernel_rfl) (T := ⟨[], []⟩) ⟨trivial, trivial⟩ Tryz.func117 KPO fun ho hh => ?_)
      unfold w117
      simp only [YGO, Jyg, X5g, QXB, simprocAttr]
      refine JEe (S := Nat) (fun k => l.length - k) (fun k => [.sl id 0 l.length l.length (some intR.sz)] ++ tp 1 ++ [.i .i64 k] ++ tp 9) (fun _ => h.set id (topB l.length) ++ []) (fun k => k ≤ l.length) 0 (Nat.zero_le _) (zHs hb (by simp [Row.cells_len, Qmu]) (by simp only [X5g, QXB, simprocAttr])) fun k hk => ?_
      by_cases hlk : k < l.length
      ·have g1 : ((k : Int) < (l.length : Int)) = True := eq_true (by omega)
       have e1 : IntKind.i64.wrap ((k : Int) + 1) = ((k + 1 : Nat) : Int) := q6V (by unfold In64; omega)
       have e3 := JIk (n := l.length) hlt [] (0 + k * 1) (.i .i64 (-77)) rfl rfl (by omega)
       simp only [X5g, QXB, simprocAttr, lenV, g1, e1, iadV, hlk, e3, false_implies]
       exact ⟨k + 1, by omega, by dsimp only; omega, Z51 hlt _ _ (by simp; omega) (by simp only [X5g, QXB, simprocAttr])⟩
      ·have g1 : ((k : Int) < (l.length : Int)) = False := eq_false (by omega)
       simp only [X5g, QXB, simprocAttr, lenV, g1, false_implies]
       exact ztN hlt
    ·cases e
   ·cases e
 ·cases e
theorem XAQ : Spec Tryz.prog 68 (zDG dotR) := by
 intro args h v h' e
 unfold zDG at e
 split at e
 ·rename_i s
  split at e
  ·rename_i hns
   cases e
   cases s <;> first | (cases hns; done) | skip
   refine FnAt.c (FnAt.run (by kernel_rfl) (T := ⟨[], []⟩) ⟨trivial, trivial⟩ Tryz.func68 sw68 fun ho hh => ?_)
   unfold w68
   simp only [YGO, Jyg, X5g, QXB, simprocAttr]
   refine KPW (S := Unit) (fun _ => 0) (fun _ => [.ns] ++ tp 1 ++ [.i .i64 0] ++ tp 10) (fun _ => True) () trivial (by simp only [X5g, QXB, simprocAttr]) fun _ _ => ?_
   simp only [X5g, QXB, simprocAttr, Int.lt_irrefl, false_implies]
   exact Bt.eq rfl (List.append_nil h)
  ·obtain ⟨l, hs, e⟩ := KsT e
   split at e
   ·rename_i id hid
    split at e
    ·rename_i hc
     cases e
     obtain ⟨h1, h2, h3⟩ := hc
     have hlt := (List.getElem?_eq_some_iff.1 h2).1
     by_cases h0 : l.length = 0
     ·have e2 : h.set id .dead = h := ZiE (by rw [h2]; unfold resB; rw [if_pos h0])
      rw [e2, h1]
      unfold rsl
      rw [if_pos h0]
      refine FnAt.c (FnAt.run (by kernel_rfl) (T := ⟨[], []⟩) ⟨trivial, trivial⟩ Tryz.func68 sw68 fun ho hh => ?_)
      unfold w68
      simp only [YGO, Jyg, X5g, QXB, simprocAttr]
      refine KPW (S := Unit) (fun _ => 0) (fun _ => [.sl id 0 0 0 (some 0)] ++ tp 1 ++ [.i .i64 0] ++ tp 10) (fun _ => True) () trivial (by simp only [X5g, QXB, simprocAttr]) fun _ _ => ?_
      simp only [X5g, QXB, simprocAttr, Int.natCast_zero, Int.lt_irrefl, false_implies, lenV]
      exact Bt.eq rfl (List.append_nil h)
     ·rw [h1]
      unfold rsl
      rw [if_neg h0]
      have hb : h[id]? = some (.blk true true (dotR.cells l)) := by rw [h2]; unfold resB; rw [if_neg h0]
      refine FnAt.c (FnAt.run (by kernel_rfl) (T := ⟨[], []⟩) ⟨trivial, trivial⟩ Tryz.func68 sw68 fun ho hh => ?_)
      unfold w68
      simp only [YGO, Jyg, X5g, QXB, simprocAttr]
      refine JEe (S := Nat) (fun k => l.length - k) (fun k => [.sl id 0 l.length l.length (some dotR.sz)] ++ tp 1 ++ [.i .i64 k] ++ tp 10) (fun _ => h.set id (topB (l.length * 2)) ++ []) (fun k => k ≤ l.length) 0 (Nat.zero_le _) (zHs hb (by simp [Row.cells_len, zeu]) (by simp only [X5g, QXB, simprocAttr])) fun k hk => ?_
      by_cases hlk : k < l.length
      ·have g1 : ((k : Int) < (l.length : Int)) = True := eq_true (by omega)
       have e1 : IntKind.i64.wrap ((k : Int) + 1) = ((k + 1 : Nat) : Int) := q6V (by unfold In64; omega)
       have e3 := YaP (n := l.length * 2) hlt [] (0 + k * 2) 2 [.i .i64 (-7), .i .i64 0] rfl rfl (by omega)
       simp only [X5g, QXB, simprocAttr, lenV, g1, e1, iadV, hlk, e3, false_implies]
       exact ⟨k + 1, by omega, by dsimp only; omega, Z51 hlt _ _ (by simp only [List.length_cons, List.length_nil]; omega) (by simp only [X5g, QXB, simprocAttr])⟩
      ·have g1 : ((k : Int) < (l.length : Int)) = False := eq_false (by omega)
       simp only [X5g, QXB, simprocAttr, lenV, g1, false_implies]
       exact ztN hlt
    ·cases e
   ·cases e
 ·cases e
theorem Kv2 {h : List AB} (hh : HOk h) (i : Nat) : HOk (h.set i .dead) := by
 intro j B hB
 rw [List.length_set]
 rw [List.getElem?_set] at hB
 split at hB
 ·split at hB
  ·cases hB
   rfl
  ·cases hB
 ·exact hh j B hB
theorem KDm {α : Type} {r : Row α} (h : List AB) : zDG r [.ns] h = some (.tu [], h) := rfl
theorem QdF {α : Type} {r : Row α} {h : List AB} {id : Nat} {l : List α} (hb : h[id]? = some (resB r true l)) (hl : l.length ≤ 1000000) (x : List AB) : zDG r [rsl r id l] (h ++ x) = some (.tu [], h.set id .dead ++ x) := by
 have hlt := (List.getElem?_eq_some_iff.1 hb).1
 have hb' : (h ++ x)[id]? = some (resB r true l) := by rw [List.getElem?_append_left hlt]; exact hb
 have hg : getS r (h ++ x) (rsl r id l) = some l := (quw hb' (by unfold maxLen; omega)).get
 have hid : idOf (rsl r id l) = [id] := by unfold rsl; split <;> rfl
 have hn : (rsl r id l).isNs = false := by unfold rsl; split <;> rfl
 unfold zDG
 simp only [hn, Bool.false_eq_true, if_false, hg, Option.bind_some, hid, hb', hl, and_self, if_true]
 rw [List.set_append_left _ _ hlt]
open Classical in
noncomputable def zjX : List AV → List AB → Option (AV × List AB)
 | [.ag [.ns, .ns]], h => some (.tu [], h)
 | [.ag [s, t]], h => (getS intR h s).bind fun l => (getS dotR h t).bind fun m => match idOf s, idOf t with
   | [i], [j] => if s = rsl intR i l ∧ h[i]? = some (resB intR true l) ∧ t = rsl dotR j m ∧ h[j]? = some (resB dotR true m) ∧ i ≠ j ∧ l.length ≤ 1000000 ∧ m.length ≤ 1000000 then some (.tu [], (h.set i .dead).set j .dead) else none
   | _, _ => none
 | _, _ => none
theorem J8R : Spec Tryz.prog 67 zjX := by
 intro args h v h' e
 unfold zjX at e
 split at e
 ·cases e
  refine FnAt.c (FnAt.run (by kernel_rfl) (T := ⟨[⟨117, zDG intR, fun _ => []⟩, ⟨68, zDG dotR, fun _ => []⟩], []⟩) ⟨⟨ZEn, XAQ, trivial⟩, trivial⟩ Tryz.func67 sw67 fun ho hh => ?_)
  unfold w67
  simp only [YGO, Jyg, X5g, QXB, simprocAttr, KDm]
  exact Bt.drop _ hh rfl rfl
 ·rename_i s t hne
  obtain ⟨l, hs, e⟩ := KsT e
  obtain ⟨m, ht, e⟩ := KsT e
  split at e
  ·rename_i i j hi hj
   split at e
   ·rename_i hc
    cases e
    obtain ⟨h1, h2, h3, h4, h5, h6, h7⟩ := hc
    refine FnAt.c (FnAt.run (by kernel_rfl) (T := ⟨[⟨117, zDG intR, fun _ => []⟩, ⟨68, zDG dotR, fun _ => []⟩], []⟩) ⟨⟨ZEn, XAQ, trivial⟩, trivial⟩ Tryz.func67 sw67 fun ho hh => ?_)
    have g1 := QdF h2 h6
    have g2 := QdF (r := dotR) (h := h.set i .dead) (id := j) (l := m) (by rw [List.getElem?_set_ne h5]; exact h4) h7
    subst h1 h3
    have lz : (h.set i .dead).length = h.length := List.length_set
    unfold w67
    simp only [YGO, Jyg, X5g, ZpM, simprocAttr, g1, g2, lz]
    have b := Bt.drop (P := Tryz.prog) (v := .tu []) (a := .tu []) [.blk false true [rsl intR i l, rsl dotR j m]] (Kv2 (Kv2 hh i) j) rfl rfl
    rwa [List.length_set, List.length_set] at b
   ·cases e
  ·cases e
 ·cases e
end Go.Proofs.YtfaccliekejngaaGreat
end
section
namespace Go.Proofs.YtfaccliekejngaaGreat
set_option maxRecDepth 100000
set_option maxHeartbeats 4000000
noncomputable def Y9Q : List AV → List AB → Option (AV × List AB)
 | [a, b], h => (getS qdS h a).bind fun xs => (getS qdS h b).bind fun ys => some (.b (decide (xs = ys)), h)
 | _, _ => none
theorem ZJ7 : Spec Tryz.prog 64 Y9Q := by
 intro args h v h' e
 unfold Y9Q at e
 split at e
 ·rename_i a b
  obtain ⟨xs, ha, e⟩ := KsT e
  obtain ⟨ys, hb, e⟩ := KsT e
  cases e
  refine FnAt.c (FnAt.frz0 fun hz => ?_)
  replace ha := ha.frz
  replace hb := hb.frz
  generalize h.map AB.freeze = h at *
  refine FnAt.run (by kernel_rfl) (T := ⟨[], []⟩) ⟨trivial, trivial⟩ Tryz.func64 sw64 fun ho hh => ?_
  simp only [znG, Bool.and_eq_true] at ho
  have fa := ha.fx ho.1 (sz := 34) rfl
  have fb := hb.fx ho.2.1 (sz := 34) rfl
  unfold w64
  simp only [YGO, Jyg, X5g, QXB, simprocAttr, fa, fb]
  refine KPW (S := Nat) (fun i => xs.length - i) (fun i => [a, b] ++ tp 3 ++ [.b (decide (xs.length = ys.length ∧ xs.take i = ys.take i)), .i .i64 i] ++ tp 24) (fun i => xs.length = ys.length → i ≤ xs.length) 0 (fun _ => Nat.zero_le _) (by simp only [X5g, QXB, simprocAttr, List.take_zero]) fun i hi => ?_
  simp only [X5g, QXB, simprocAttr, fa, fb]
  refine ⟨fun h1 => ⟨fun h2 => ?_, fun h2 => ?_⟩, fun h1 => ?_⟩
  ·have h3 : i < ys.length := by omega
   have e1 : IntKind.i64.wrap ((i : Int) + 1) = ((i + 1 : Nat) : Int) := q6V (by have := ha.2; unfold maxLen at this; unfold In64; omega)
   simp only [X5g, zLK, QXB, simprocAttr, CO.tmps, Opd.tmps, optT, Nat.reducePow, Nat.reduceDiv, Nat.reduceMod, fa, fb, h2, h3, zp4, QwN, Nat.zero_lt_one, e1]
   refine ⟨i + 1, fun _ => h2, by omega, ?_, Wk.refl _⟩
   have e2 : (xs.length = ys.length ∧ xs.take (i + 1) = ys.take (i + 1)) = (xs.getD i qdS.d = ys.getD i qdS.d) := propext (by rw [and_iff_right h1.1]; exact QmA _ h2 h3 h1.2)
   simp only [e2, zjp]
  ·exact Bt.eq (by simp only [AV.b.injEq, decide_eq_decide]; exact zNq (by omega)) (List.append_nil h)
  ·exact Bt.eq (by simp only [AV.b.injEq, decide_eq_decide]; exact iff_of_false h1 (JVO h1)) (List.append_nil h)
 ·cases e
noncomputable def KNf : List AV → List AB → Option (AV × List AB)
 | [.ag [l, v, d], .ag [l', v', d']], h => (getS qdS h l).bind fun hs => (getS intR h v).bind fun xs => (getS dotR h d).bind fun ds => (getS qdS h l').bind fun hs' => (getS intR h v').bind fun xs' => (getS dotR h d').bind fun ds' =>
   some (.b (decide (hs = hs' ∧ xs = xs' ∧ ds = ds')), h)
 | _, _ => none
noncomputable def Z2L : List AV → List AB → Option (AV × List AB)
 | [.ag [l, v, d]], h => (getS qdS h l).bind fun hs => (getS intR h v).bind fun xs => (getS dotR h d).bind fun ds => if hs.length ≤ 1000000 ∧ xs.length ≤ 1000000 ∧ ds.length ≤ 1000000 then
   some (.ag [rsl qdS h.length hs, rsl intR (h.length + 1) xs, rsl dotR (h.length + 2) ds], h ++ [resB qdS true hs, resB intR true xs, resB dotR true ds]) else none
 | _, _ => none
noncomputable def QOg : List AV → List AB → Option (AV × List AB)
 | [.ag [l, s, t]], h => (getS qdS h l).bind fun hs => (getS intR h s).bind fun v => (getS dotR h t).bind fun ds => some (.b (decide (20 < hs.length ∨ 20 < v.length ∨ 30 < ds.length)), h)
 | _, _ => none
end Go.Proofs.YtfaccliekejngaaGreat
end
section
namespace Go.Proofs.YtfaccliekejngaaGreat
set_option maxRecDepth 100000
set_option maxHeartbeats 4000000
theorem zvk {α : Type} (r : Row α) (m : Bool) : resB r m [] = .dead := _root_.id rfl
theorem JTg {α : Type} (r : Row α) (id : Nat) : rsl r id [] = .sl id 0 0 0 (some 0) := _root_.id rfl
end Go.Proofs.YtfaccliekejngaaGreat
end
section
namespace Go.Proofs.YtfaccliekejngaaGreat
set_option maxRecDepth 100000
set_option maxHeartbeats 4000000
section
variable {P : Program} {h : List AB} {id n : Nat}
end
theorem XdX (h : List AB) : zjX [.ag [.ns, .ns]] h = some (.tu [], h) := rfl
theorem Zq0 {α : Type} (r : Row α) (id : Nat) (l : List α) : rsl r id l ≠ .ns := fun q => by unfold rsl at q; split at q <;> cases q
theorem qQG {h : List AB} {v : List Int} {d : Dots} {j k : Nat} (hj : h[j]? = some (resB intR true v)) (hk : h[k]? = some (resB dotR true d)) (hl : v.length ≤ 1000000) (hm : d.length ≤ 1000000) (hne : j ≠ k) (x : List AB) :
  zjX [.ag [rsl intR j v, rsl dotR k d]] (h ++ x) = some (.tu [], (h.set j .dead).set k .dead ++ x) := by
 have lj := (List.getElem?_eq_some_iff.1 hj).1
 have lk := (List.getElem?_eq_some_iff.1 hk).1
 have h1 : (h ++ x)[j]? = some (resB intR true v) := by rw [List.getElem?_append_left lj]; exact hj
 have h2 : (h ++ x)[k]? = some (resB dotR true d) := by rw [List.getElem?_append_left lk]; exact hk
 have g1 : getS intR (h ++ x) (rsl intR j v) = some v := (quw h1 (by unfold maxLen; omega)).get
 have g2 : getS dotR (h ++ x) (rsl dotR k d) = some d := (quw h2 (by unfold maxLen; omega)).get
 unfold zjX
 split
 ·rename_i q
  simp only [List.cons.injEq, AV.ag.injEq] at q
  exact absurd q.1.1 (Zq0 _ _ _)
 ·rename_i q
  simp only [List.cons.injEq, AV.ag.injEq, and_true] at q
  obtain ⟨rfl, rfl⟩ := q
  rw [g1, g2]
  simp only [Option.bind_some, JNv]
  rw [if_pos ⟨rfl, h1, rfl, h2, hne, hl, hm⟩, List.set_append_left _ _ lj, List.set_append_left _ _ (by rw [List.length_set]; exact lk)]
 ·rename_i q1 q2
  first | exact (q2 _ _ rfl).elim | exact (q2 _ _ _ rfl).elim | exact (q2 _ _ _ rfl rfl).elim | exact (q2 _ _ rfl rfl).elim | exact (q1 _ _ rfl rfl).elim | exact (q1 _ _ _ rfl rfl).elim | exact (q2 rfl).elim
open Classical in
noncomputable def YJN : List AV → List AB → Option (AV × List AB)
 | [.ag [.ns, .ns, .ns]], h => some (.tu [], h)
 | [.ag [l, s, t]], h => (getS qdS h l).bind fun hs => (getS intR h s).bind fun v => (getS dotR h t).bind fun d => match idOf l, idOf s, idOf t with
   | [i], [j], [k] => if l = rsl qdS i hs ∧ h[i]? = some (resB qdS true hs) ∧ s = rsl intR j v ∧ h[j]? = some (resB intR true v) ∧ t = rsl dotR k d ∧ h[k]? = some (resB dotR true d) ∧ i ≠ j ∧ i ≠ k ∧ j ≠ k ∧ hs.length ≤ 1000000 ∧ v.length ≤ 1000000 ∧ d.length ≤ 1000000 then some (.tu [], ((h.set i .dead).set j .dead).set k .dead) else none
   | _, _, _ => none
 | _, _ => none
def YyI : List AV := .i .i64 (-7) :: .i .i64 0 :: List.replicate 32 (.i .u8 0)
end Go.Proofs.YtfaccliekejngaaGreat
end
section
namespace Go.Proofs.YtfaccliekejngaaGreat
set_option maxRecDepth 100000
set_option maxHeartbeats 4000000
theorem Q3m : Spec Tryz.prog 19 KNf := by
 intro args h v h' e
 unfold KNf at e
 split at e
 ·rename_i l s t l' s' t'
  obtain ⟨hs, hl, e⟩ := KsT e
  obtain ⟨xs, hv, e⟩ := KsT e
  obtain ⟨ds, hd, e⟩ := KsT e
  obtain ⟨hs', hl', e⟩ := KsT e
  obtain ⟨xs', hv', e⟩ := KsT e
  obtain ⟨ds', hd', e⟩ := KsT e
  cases e
  refine FnAt.c (FnAt.run (by kernel_rfl) (T := ⟨[⟨64, Y9Q, fun _ => []⟩, ⟨23, Z5e, fun _ => []⟩], []⟩) ⟨⟨ZJ7, QfY, trivial⟩, trivial⟩ Tryz.func19 sw19 fun ho hh => ?_)
  simp only [znG, Z4M, Bool.and_eq_true] at ho
  have f1 := hl.fx ho.1.1 (sz := 34) rfl
  have f2 := hv.fx ho.1.2.1 (sz := 1) rfl
  have f3 := hd.fx ho.1.2.2.1 (sz := 2) rfl
  have f4 := hl'.fx ho.2.1.1 (sz := 34) rfl
  have f5 := hv'.fx ho.2.1.2.1 (sz := 1) rfl
  have f6 := hd'.fx ho.2.1.2.2.1 (sz := 2) rfl
  unfold w19
  simp only [YGO, Jyg, X5g, zLK, QXB, simprocAttr, CO.tmps, Opd.tmps, optT, Nat.reducePow, Nat.reduceDiv, Nat.reduceMod, f1, f2, f3, f4, f5, f6, Y9Q, Z5e]
  refine ⟨fun h1 => Bt.dropB _ hh (by simp [h1]), fun h1 => Bt.dropB _ hh (by simp [h1])⟩
 ·cases e
theorem JDW : Spec Tryz.prog 10 QOg := by
 intro args h v h' e
 unfold QOg at e
 split at e
 ·rename_i l s t
  obtain ⟨hs, hl, e⟩ := KsT e
  obtain ⟨xs, hv, e⟩ := KsT e
  obtain ⟨ds, hd, e⟩ := KsT e
  cases e
  refine FnAt.c (FnAt.run (by kernel_rfl) (T := ⟨[⟨11, QB3, fun _ => []⟩], []⟩) ⟨⟨qqj, trivial⟩, trivial⟩ Tryz.func10 sw10 fun ho hh => ?_)
  simp only [znG, Z4M, Bool.and_eq_true] at ho
  have f1 := hl.fx ho.1.1 (sz := 34) rfl
  have f2 := hv.fx ho.1.2.1 (sz := 1) rfl
  have f3 := hd.fx ho.1.2.2.1 (sz := 2) rfl
  unfold w10
  simp only [YGO, Jyg, X5g, zLK, QXB, simprocAttr, CO.tmps, Opd.tmps, optT, Nat.reducePow, Nat.reduceDiv, Nat.reduceMod, f1, f2, f3, QB3]
  refine ⟨fun q => Bt.dropB _ hh (decide_eq_true (.inl (by omega))).symm, fun q => Bt.dropB _ hh (decide_eq_decide.2 ?_)⟩
  omega
 ·cases e
theorem zCz : Spec Tryz.prog 13 Z2L := by
 intro args h v h' e
 unfold Z2L at e
 split at e
 ·rename_i l s t
  obtain ⟨hs, hl, e⟩ := KsT e
  obtain ⟨xs, hv, e⟩ := KsT e
  obtain ⟨ds, hd, e⟩ := KsT e
  split at e
  ·rename_i hL
   cases e
   refine FnAt.c (FnAt.frz fun hz => ?_)
   rw [show h.length = (h.map AB.freeze).length from (List.length_map _).symm]
   replace hl := hl.frz
   replace hv := hv.frz
   replace hd := hd.frz
   generalize h.map AB.freeze = h at *
   refine FnAt.run (by kernel_rfl) (T := ⟨[⟨14, qsF, fun _ => []⟩], []⟩) ⟨⟨zwa, trivial⟩, trivial⟩ Tryz.func13 sw13 fun ho hh => ?_
   simp only [znG, Z4M, Bool.and_eq_true] at ho
   have f1 := hl.fx ho.1.1 (sz := 34) rfl
   have f2 := hv.fx ho.1.2.1 (sz := 1) rfl
   have f3 := hd.fx ho.1.2.2.1 (sz := 2) rfl
   have u1 := hl.src (sz := 34) rfl
   obtain ⟨g1, g2, g3⟩ := hL
   have z1 : (hs.length * 48 ≤ 140737488355328 ∧ hs.length ≤ maxLen) = True := eq_true ⟨by omega, by unfold maxLen; omega⟩
   unfold w13
   by_cases h0 : hs.length = 0
   ·have hx : hs = [] := List.eq_nil_of_length_eq_zero h0
    subst hx
    simp only [YGO, Jyg, X5g, zLK, QXB, simprocAttr, CO.tmps, Opd.tmps, optT, Nat.reducePow, Nat.reduceDiv, Nat.reduceMod, f1, f2, f3, u1, qsF, g2, g3, List.length_nil, qIx, XeO hh, QU9 hz, QLc hz, zkD hz]
    refine Bt.trans (Bt.wk1 (Xee (l' := [.sl (h.length + 2) 0 0 0 (some 0), rsl intR (h.length + 3) xs, rsl dotR (h.length + 4) ds]) ⟨Wk.empty (h.length + 2) 0 _ _ _ _, Wk.refl _, Wk.refl _, trivial⟩)) ?_
    exact Bt.sel [2, 3, 4] hh (by decide) (by simp only [Zy2, FrSel, BlkSel, AV.ren, renL, AV.ok, okL, Option.some.injEq, exists_eq_left', List.length_cons, List.length_nil, Nat.reduceAdd, Nat.reduceLT, reduceCtorEq, implies_true, exists_eq', zvk]) (by simp only [Zy2, FrSel, BlkSel, AV.ren, renL, AV.ok, okL, Option.some.injEq, exists_eq_left', List.length_cons, List.length_nil, Nat.reduceAdd, Nat.reduceLT, reduceCtorEq, implies_true, exists_eq', JTg])
   ·have h0' := eq_false h0
    simp only [YGO, Jyg, X5g, zLK, QXB, simprocAttr, CO.tmps, Opd.tmps, optT, Nat.reducePow, Nat.reduceDiv, Nat.reduceMod, f1, f2, f3, u1, qsF, g2, g3, h0', z1, Y0v, XeO hh, QU9 hz, QLc hz, zkD hz]
    rw [K50 _ h0, ZVr _ h0]
    exact Bt.sel [3, 4, 5] hh (by decide) (by simp only [Zy2, FrSel, BlkSel, AV.ren, renL, AV.ok, okL, Option.some.injEq, exists_eq_left', List.length_cons, List.length_nil, Nat.reduceAdd, Nat.reduceLT, reduceCtorEq, implies_true, exists_eq']) (by simp only [Zy2, FrSel, BlkSel, AV.ren, renL, AV.ok, okL, Option.some.injEq, exists_eq_left', List.length_cons, List.length_nil, Nat.reduceAdd, Nat.reduceLT, reduceCtorEq, implies_true, exists_eq', zZY])
  ·cases e
 ·cases e
end Go.Proofs.YtfaccliekejngaaGreat
end
section
namespace Go.Proofs.YtfaccliekejngaaGreat
set_option maxRecDepth 100000
set_option maxHeartbeats 4000000
theorem zUS : Spec Tryz.prog 66 (zDG qdS) := by
 intro args h v h' e
 unfold zDG at e
 split at e
 ·rename_i s
  split at e
  ·rename_i hns
   cases e
   cases s <;> first | (cases hns; done) | skip
   refine FnAt.c (FnAt.run (by kernel_rfl) (T := ⟨[], []⟩) ⟨trivial, trivial⟩ Tryz.func66 sw66 fun ho hh => ?_)
   unfold w66
   simp only [YGO, Jyg, X5g, QXB, simprocAttr]
   refine KPW (S := Unit) (fun _ => 0) (fun _ => [.ns] ++ tp 1 ++ [.i .i64 0] ++ tp 11) (fun _ => True) () trivial (by simp only [X5g, QXB, simprocAttr]) fun _ _ => ?_
   simp only [X5g, QXB, simprocAttr, Int.lt_irrefl, false_implies]
   exact Bt.eq rfl (List.append_nil h)
  ·obtain ⟨l, hs, e⟩ := KsT e
   split at e
   ·rename_i id hid
    split at e
    ·rename_i hc
     cases e
     obtain ⟨h1, h2, h3⟩ := hc
     have hlt := (List.getElem?_eq_some_iff.1 h2).1
     by_cases h0 : l.length = 0
     ·have e2 : h.set id .dead = h := ZiE (by rw [h2]; unfold resB; rw [if_pos h0])
      rw [e2, h1]
      unfold rsl
      rw [if_pos h0]
      refine FnAt.c (FnAt.run (by kernel_rfl) (T := ⟨[], []⟩) ⟨trivial, trivial⟩ Tryz.func66 sw66 fun ho hh => ?_)
      unfold w66
      simp only [YGO, Jyg, X5g, QXB, simprocAttr]
      refine KPW (S := Unit) (fun _ => 0) (fun _ => [.sl id 0 0 0 (some 0)] ++ tp 1 ++ [.i .i64 0] ++ tp 11) (fun _ => True) () trivial (by simp only [X5g, QXB, simprocAttr]) fun _ _ => ?_
      simp only [X5g, QXB, simprocAttr, Int.natCast_zero, Int.lt_irrefl, false_implies, lenV]
      exact Bt.eq rfl (List.append_nil h)
     ·rw [h1]
      unfold rsl
      rw [if_neg h0]
      have hb : h[id]? = some (.blk true true (qdS.cells l)) := by rw [h2]; unfold resB; rw [if_neg h0]
      refine FnAt.c (FnAt.run (by kernel_rfl) (T := ⟨[], []⟩) ⟨trivial, trivial⟩ Tryz.func66 sw66 fun ho hh => ?_)
      unfold w66
      simp only [YGO, Jyg, X5g, QXB, simprocAttr]
      refine JEe (S := Nat) (fun k => l.length - k) (fun k => [.sl id 0 l.length l.length (some qdS.sz)] ++ tp 1 ++ [.i .i64 k] ++ tp 11) (fun _ => h.set id (topB (l.length * 34)) ++ []) (fun k => k ≤ l.length) 0 (Nat.zero_le _) (zHs hb (qdS.cells_len l) (by simp only [X5g, QXB, simprocAttr])) fun k hk => ?_
      by_cases hlk : k < l.length
      ·have g1 : ((k : Int) < (l.length : Int)) = True := eq_true (by omega)
       have e1 : IntKind.i64.wrap ((k : Int) + 1) = ((k + 1 : Nat) : Int) := q6V (by have : l.length ≤ 1000000 := h3; unfold In64; omega)
       have e3 := YaP (n := l.length * 34) hlt [] (0 + k * 34) 34 YyI rfl rfl (by omega)
       simp only [YyI, YGO, Jyg] at e3
       simp only [YGO, Jyg, X5g, QXB, simprocAttr, lenV, g1, e1, iadV, hlk, e3, false_implies]
       exact ⟨k + 1, by omega, by dsimp only; omega, Z51 hlt _ _ (by simp only [List.length_cons, List.length_nil]; omega) (by simp only [X5g, QXB, simprocAttr])⟩
      ·have g1 : ((k : Int) < (l.length : Int)) = False := eq_false (by omega)
       simp only [X5g, QXB, simprocAttr, lenV, g1, false_implies]
       exact ztN hlt
    ·cases e
   ·cases e
 ·cases e
theorem qY9 : Spec Tryz.prog 21 YJN := by
 intro args h v h' e
 unfold YJN at e
 split at e
 ·cases e
  refine FnAt.c (FnAt.run (by kernel_rfl) (T := ⟨[⟨66, zDG qdS, fun _ => []⟩, ⟨67, zjX, fun _ => []⟩], []⟩) ⟨⟨zUS, J8R, trivial⟩, trivial⟩ Tryz.func21 sw21 fun ho hh => ?_)
  unfold w21
  simp only [YGO, Jyg, X5g, QXB, simprocAttr, KDm, XdX]
  exact Bt.drop _ hh rfl rfl
 ·rename_i l s t hne
  obtain ⟨hs, hl, e⟩ := KsT e
  obtain ⟨xs, hv, e⟩ := KsT e
  obtain ⟨ds, hd, e⟩ := KsT e
  split at e
  ·rename_i i j k hi hj hk
   split at e
   ·rename_i hc
    cases e
    obtain ⟨h1, h2, h3, h4, h5, h6, n1, n2, n3, m1, m2, m3⟩ := hc
    subst h1 h3 h5
    refine FnAt.c (FnAt.run (by kernel_rfl) (T := ⟨[⟨66, zDG qdS, fun _ => []⟩, ⟨67, zjX, fun _ => []⟩], []⟩) ⟨⟨zUS, J8R, trivial⟩, trivial⟩ Tryz.func21 sw21 fun ho hh => ?_)
    have g1 := QdF h2 m1
    have g2 := qQG (h := h.set i .dead) (by rw [List.getElem?_set_ne n1]; exact h4) (by rw [List.getElem?_set_ne n2]; exact h6) m2 m3 n3
    have lz : (h.set i .dead).length = h.length := List.length_set
    unfold w21
    simp only [YGO, Jyg, X5g, ZpM, simprocAttr, g1, g2, lz]
    have b := Bt.drop (P := Tryz.prog) (v := .tu []) (a := .tu []) [.blk false true [rsl qdS i hs, rsl intR j xs, rsl dotR k ds]] (Kv2 (Kv2 (Kv2 hh i) j) k) rfl rfl
    rwa [List.length_set, List.length_set, List.length_set] at b
   ·cases e
  ·cases e
 ·cases e
end Go.Proofs.YtfaccliekejngaaGreat
end
section
namespace Go.Proofs.YtfaccliekejngaaGreat
set_option maxRecDepth 100000
set_option maxHeartbeats 4000000
noncomputable def Yb9 : List AV → List AB → Option (AV × List AB)
 | [.ag [n, k, v, d], .ag [n', k', v', d']], h => (getS qdS h n).bind fun hs => (getS dotR h k).bind fun ks => (getS intR h v).bind fun xs => (getS dotR h d).bind fun ds => (getS qdS h n').bind fun hs' => (getS dotR h k').bind fun ks' => (getS intR h v').bind fun xs' => (getS dotR h d').bind fun ds' =>
   some (.b (decide (hs = hs' ∧ ks = ks' ∧ xs = xs' ∧ ds = ds')), h)
 | _, _ => none
theorem KNc : Spec Tryz.prog 20 Yb9 := by
 intro args h v h' e
 unfold Yb9 at e
 split at e
 ·rename_i n k s t n' k' s' t'
  obtain ⟨hs, hl, e⟩ := KsT e
  obtain ⟨ks, hk, e⟩ := KsT e
  obtain ⟨xs, hv, e⟩ := KsT e
  obtain ⟨ds, hd, e⟩ := KsT e
  obtain ⟨hs', hl', e⟩ := KsT e
  obtain ⟨ks', hk', e⟩ := KsT e
  obtain ⟨xs', hv', e⟩ := KsT e
  obtain ⟨ds', hd', e⟩ := KsT e
  cases e
  refine FnAt.c (FnAt.run (by kernel_rfl) (T := ⟨[⟨64, Y9Q, fun _ => []⟩, ⟨65, zu1, fun _ => []⟩, ⟨23, Z5e, fun _ => []⟩], []⟩) ⟨⟨ZJ7, Jfw, QfY, trivial⟩, trivial⟩ Tryz.func20 sw20 fun ho hh => ?_)
  simp only [znG, Z4M, Bool.and_eq_true] at ho
  have f1 := hl.fx ho.1.1 (sz := 34) rfl
  have f2 := hk.fx ho.1.2.1 (sz := 2) rfl
  have f3 := hv.fx ho.1.2.2.1 (sz := 1) rfl
  have f4 := hd.fx ho.1.2.2.2.1 (sz := 2) rfl
  have f5 := hl'.fx ho.2.1.1 (sz := 34) rfl
  have f6 := hk'.fx ho.2.1.2.1 (sz := 2) rfl
  have f7 := hv'.fx ho.2.1.2.2.1 (sz := 1) rfl
  have f8 := hd'.fx ho.2.1.2.2.2.1 (sz := 2) rfl
  unfold w20
  simp only [YGO, Jyg, X5g, zLK, QXB, simprocAttr, CO.tmps, Opd.tmps, optT, Nat.reducePow, Nat.reduceDiv, Nat.reduceMod, f1, f2, f3, f4, f5, f6, f7, f8, Y9Q, zu1, Z5e]
  refine ⟨fun h1 => ⟨fun h2 => ?_, fun h2 => ?_⟩, fun h1 => ?_⟩ <;> exact Bt.dropB _ hh (by simp [*])
 ·cases e
noncomputable def Jzf : List AV → List AB → Option (AV × List AB)
 | [.ag [n, k, s, t]], h => (getS qdS h n).bind fun hs => (getS dotR h k).bind fun ks => (getS intR h s).bind fun v => (getS dotR h t).bind fun ds => some (.b (decide (20 < hs.length ∨ 20 < ks.length ∨ 20 < v.length ∨ 30 < ds.length)), h)
 | _, _ => none
theorem QYJ : Spec Tryz.prog 36 Jzf := by
 intro args h v h' e
 unfold Jzf at e
 split at e
 ·rename_i n k s t
  obtain ⟨hs, hl, e⟩ := KsT e
  obtain ⟨ks, hk, e⟩ := KsT e
  obtain ⟨xs, hv, e⟩ := KsT e
  obtain ⟨ds, hd, e⟩ := KsT e
  cases e
  refine FnAt.c (FnAt.run (by kernel_rfl) (T := ⟨[⟨11, QB3, fun _ => []⟩], []⟩) ⟨⟨qqj, trivial⟩, trivial⟩ Tryz.func36 sw36 fun ho hh => ?_)
  simp only [znG, Z4M, Bool.and_eq_true] at ho
  have f1 := hl.fx ho.1.1 (sz := 34) rfl
  have f2 := hk.fx ho.1.2.1 (sz := 2) rfl
  have f3 := hv.fx ho.1.2.2.1 (sz := 1) rfl
  have f4 := hd.fx ho.1.2.2.2.1 (sz := 2) rfl
  unfold w36
  simp only [YGO, Jyg, X5g, zLK, QXB, simprocAttr, CO.tmps, Opd.tmps, optT, Nat.reducePow, Nat.reduceDiv, Nat.reduceMod, f1, f2, f3, f4, QB3]
  refine ⟨fun q => Bt.dropB _ hh (decide_eq_true (.inl (by omega))).symm, fun q => ⟨fun q2 => Bt.dropB _ hh (decide_eq_true (.inr (.inl (by omega)))).symm, fun q2 => Bt.dropB _ hh (decide_eq_decide.2 ?_)⟩⟩
  omega
 ·cases e
noncomputable def zmJ : List AV → List AB → Option (AV × List AB)
 | [.ag [l, k, v, d]], h => (getS qdS h l).bind fun hs => (getS dotR h k).bind fun ks => (getS intR h v).bind fun xs => (getS dotR h d).bind fun ds => if hs.length ≤ 1000000 ∧ ks.length ≤ 1000000 ∧ xs.length ≤ 1000000 ∧ ds.length ≤ 1000000 then
   some (.ag [rsl qdS h.length hs, rsl dotR (h.length + 1) ks, rsl intR (h.length + 2) xs, rsl dotR (h.length + 3) ds], h ++ [resB qdS true hs, resB dotR true ks, resB intR true xs, resB dotR true ds]) else none
 | _, _ => none
theorem ZYg : Spec Tryz.prog 37 zmJ := by
 intro args h v h' e
 unfold zmJ at e
 split at e
 ·rename_i l k s t
  obtain ⟨hs, hl, e⟩ := KsT e
  obtain ⟨ks, hk, e⟩ := KsT e
  obtain ⟨xs, hv, e⟩ := KsT e
  obtain ⟨ds, hd, e⟩ := KsT e
  split at e
  ·rename_i hL
   cases e
   refine FnAt.c (FnAt.frz fun hz => ?_)
   rw [show h.length = (h.map AB.freeze).length from (List.length_map _).symm]
   replace hl := hl.frz
   replace hk := hk.frz
   replace hv := hv.frz
   replace hd := hd.frz
   generalize h.map AB.freeze = h at *
   refine FnAt.run (by kernel_rfl) (T := ⟨[⟨52, Xut, fun _ => []⟩, ⟨14, qsF, fun _ => []⟩], []⟩) ⟨⟨KNe, zwa, trivial⟩, trivial⟩ Tryz.func37 sw37 fun ho hh => ?_
   simp only [znG, Z4M, Bool.and_eq_true] at ho
   have f1 := hl.fx ho.1.1 (sz := 34) rfl
   have f2 := hk.fx ho.1.2.1 (sz := 2) rfl
   have f3 := hv.fx ho.1.2.2.1 (sz := 1) rfl
   have f4 := hd.fx ho.1.2.2.2.1 (sz := 2) rfl
   have u1 := hl.src (sz := 34) rfl
   obtain ⟨g1, g2, g3, g4⟩ := hL
   have z1 : (hs.length * 48 ≤ 140737488355328 ∧ hs.length ≤ maxLen) = True := eq_true ⟨by omega, by unfold maxLen; omega⟩
   unfold w37
   by_cases h0 : hs.length = 0
   ·have hx : hs = [] := List.eq_nil_of_length_eq_zero h0
    subst hx
    simp only [YGO, Jyg, X5g, zLK, QXB, simprocAttr, CO.tmps, Opd.tmps, optT, Nat.reducePow, Nat.reduceDiv, Nat.reduceMod, f1, f2, f3, f4, u1, Xut, qsF, g2, g3, g4, List.length_nil, qIx, XeO hh, QU9 hz, QLc hz, zkD hz]
    refine Bt.trans (Bt.wk1 (Xee (l' := [.sl (h.length + 2) 0 0 0 (some 0), rsl dotR (h.length + 3) ks, rsl intR (h.length + 4) xs, rsl dotR (h.length + 5) ds]) ⟨Wk.empty (h.length + 2) 0 _ _ _ _, Wk.refl _, Wk.refl _, Wk.refl _, trivial⟩)) ?_
    exact Bt.sel [2, 3, 4, 5] hh (by decide) (by simp only [Zy2, FrSel, BlkSel, AV.ren, renL, AV.ok, okL, Option.some.injEq, exists_eq_left', List.length_cons, List.length_nil, Nat.reduceAdd, Nat.reduceLT, reduceCtorEq, implies_true, exists_eq', zvk]) (by simp only [Zy2, FrSel, BlkSel, AV.ren, renL, AV.ok, okL, Option.some.injEq, exists_eq_left', List.length_cons, List.length_nil, Nat.reduceAdd, Nat.reduceLT, reduceCtorEq, implies_true, exists_eq', JTg])
   ·have h0' := eq_false h0
    simp only [YGO, Jyg, X5g, zLK, QXB, simprocAttr, CO.tmps, Opd.tmps, optT, Nat.reducePow, Nat.reduceDiv, Nat.reduceMod, f1, f2, f3, f4, u1, Xut, qsF, g2, g3, g4, h0', z1, Y0v, XeO hh, QU9 hz, QLc hz, zkD hz]
    rw [K50 _ h0, ZVr _ h0]
    exact Bt.sel [3, 4, 5, 6] hh (by decide) (by simp only [Zy2, FrSel, BlkSel, AV.ren, renL, AV.ok, okL, Option.some.injEq, exists_eq_left', List.length_cons, List.length_nil, Nat.reduceAdd, Nat.reduceLT, reduceCtorEq, implies_true, exists_eq']) (by simp only [Zy2, FrSel, BlkSel, AV.ren, renL, AV.ok, okL, Option.some.injEq, exists_eq_left', List.length_cons, List.length_nil, Nat.reduceAdd, Nat.reduceLT, reduceCtorEq, implies_true, exists_eq', zZY])
  ·cases e
 ·cases e
end Go.Proofs.YtfaccliekejngaaGreat
end
