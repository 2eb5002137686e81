/- Part 19 of what the laws' proofs rest on. No condition. -/
import Derived.Test.YtfaccliekejngaaGreatOt18
set_option linter.all false
section
namespace Go.Proofs.YtfaccliekejngaaGreat
set_option maxRecDepth 100000
set_option maxHeartbeats 4000000
open Classical in
noncomputable def QG2 : List AV → List AB → Option (AV × List AB)
 | [s, .f (.func 119) [] []], h => (getS dotR h s).bind fun l => match idOf s with
   | [id] => if l.length ≤ 1000000 ∧ s = rsl dotR id l ∧ h[id]? = some (resB dotR true l) then some (.tu [], h.set id (resB dotR true (srtD l))) else none
   | _ => none
 | _, _ => none
def boxL : List AB → Nat → Option (AV × AV)
 | .blk false true [v, d] :: _, 0 => if v.isSl = true ∧ d.isSl = true then some (v, d) else none
 | _, 0 => none
 | [], _ => none
 | _ :: L, k + 1 => boxL L k
theorem QNt (v d : AV) (L : List AB) : boxL (.blk false true [v, d] :: L) 0 = if v.isSl = true ∧ d.isSl = true then some (v, d) else none := _root_.id rfl
theorem Y4t (B : AB) (L : List AB) (k : Nat) : boxL (B :: L) (k + 1) = boxL L k := by
 cases B with
 | blk fl m xs => cases fl <;> cases m <;> (match xs with | [] => rfl | [_] => rfl | [_, _] => rfl | _ :: _ :: _ :: _ => rfl)
 | _ => rfl
theorem Zgh : ∀ (L : List AB) (k : Nat), YU6 L k = boxL L k
 | [], k => by cases k <;> simp [YU6, boxL]
 | B :: L, 0 => by
  unfold YU6 boxL
  simp only [List.getElem?_cons_zero]
  split <;> split <;> simp_all
 | B :: L, k + 1 => by
  rw [Y4t, ← Zgh L k]
  unfold YU6
  simp only [List.getElem?_cons_succ]
theorem Kme (h L : List AB) (k : Nat) : YU6 (h ++ L) (h.length + k) = boxL L k := by
 rw [← Zgh]
 unfold YU6
 rw [List.getElem?_append_right (by omega), Nat.add_sub_cancel_left]
theorem XZt (h L : List AB) (k : Nat) (v d : AV) : bx2 (h ++ L) (h.length + k) v d = h ++ L.set k (.blk false true [v, d]) := by
 unfold bx2
 rw [List.set_append_right _ _ (by omega), Nat.add_sub_cancel_left]
theorem zw7 (h L : List AB) (k : Nat) : (h ++ L)[h.length + k]? = L[k]? := by rw [List.getElem?_append_right (by omega), Nat.add_sub_cancel_left]
noncomputable def Jpg : List AV → List AB → Option (AV × List AB)
 | [s, t], h => (getS intR h s).bind fun v => (getS dotR h t).bind fun ds => if ds.length ≤ 100000 then
   if J6E v ds then
    if (fmO v ds).2.length ≤ 4096 then some (.tu [.ag [rsl intR h.length (fmO v ds).1, rsl dotR (h.length + 1) (fmO v ds).2], .i .i64 0], h ++ [resB intR true (fmO v ds).1, resB dotR true (fmO v ds).2])
    else some (.tu [.ag [.ns, .ns], .i .i64 10], h)
   else some (.tu [.ag [.ns, .ns], .i .i64 3], h)
  else none
 | _, _ => none
theorem zmR {h L : List AB} {a b : Nat} {V : List Int} {D : Dots} {e : AV} {n : Nat} (hh : HOk h) (hn : n ≤ V.length) (he : e.ok (fun i => decide (i < h.length + 2)) = true) (hre : ∀ f, e.ren f = e) (hab : a ≠ b) (ha : L[a]? = some (resB intR true V)) (hb : L[b]? = some (resB dotR true D)) :
  Bt Tryz.prog h.length [.tu [.ag [cutS (rsl intR (h.length + a) V) n, apS dotR (h.length + b) D], e]] (h ++ L) [.tu [.ag [rsl intR h.length (V.take n), apS dotR (h.length + 1) D], e]] (h ++ [resB intR true (V.take n), resB dotR true D]) := by
 have s1 : Bt Tryz.prog h.length [.tu [.ag [cutS (rsl intR (h.length + a) V) n, apS dotR (h.length + b) D], e]] (h ++ L) [.tu [.ag [cutS (rsl intR (h.length + 0) V) n, apS dotR (h.length + 1) D], e]] (h ++ [resB intR true V, resB dotR true D]) := by
  refine Bt.sel [a, b] hh (by simp [hab]) (by simp only [BlkSel, ha, hb, YEP, Option.some.injEq, exists_eq_left', and_true]) ?_
  refine ⟨.inr ⟨?_, ?_⟩, trivial⟩
  ·simp only [AV.ok, okL, Bool.and_eq_true, Bool.and_true]
   exact ⟨⟨zdI _ _ _ (by simp), ZrU _ _ _ (by simp)⟩, he⟩
  ·simp only [AV.ren, renL, Zd6, zRa, hre]
   rw [Qo0, Qo0]
   exact Wk.refl _
 refine s1.trans ?_
 have s2 := Bt.take (P := Tryz.prog) (p := h.length) (fr := [.tu [.ag [cutS (rsl intR (h.length + 0) V) n, apS dotR (h.length + 1) D], e]]) (h := h ++ [resB intR true V, resB dotR true D]) (i := h.length + 0) (n := n) (m := true) (l := V) (by rw [zw7]; rfl) hn
 rw [List.set_append_right _ _ (by omega), Nat.add_sub_cancel_left] at s2
 refine s2.trans (Bt.wk ⟨?_, trivial⟩)
 intro ρ c hv
 cases hv with
 | tu l cs hl hv =>
  refine .tu _ cs hl fun j x c hx hc => ?_
  match j, hx with
  | 0, hx =>
   cases hx
   have h0 := hv 0 _ c rfl hc
   cases h0 with
   | ag l2 cs2 hl2 hv2 =>
    refine .ag _ cs2 hl2 fun j x c hx hc => ?_
    match j, hx with
    | 0, hx => cases hx; exact Znx (r := intR) _ hn _ _ (hv2 0 _ c rfl hc)
    | 1, hx => cases hx; exact hv2 1 _ c rfl hc
  | 1, hx => cases hx; exact hv 1 _ c rfl hc
theorem ZiY {h : List AB} {H : List AB} {V : AV} {id : Nat} {D : Dots} {e : AV} : Bt Tryz.prog h.length [.tu [.ag [V, apS dotR id D], e]] H [.tu [.ag [V, rsl dotR id D], e]] H := Bt.wk ⟨by
 intro ρ c hv
 cases hv with
 | tu l cs hl hv =>
  refine .tu _ cs hl fun j x c hx hc => ?_
  match j, hx with
  | 0, hx =>
   cases hx
   have h0 := hv 0 _ c rfl hc
   cases h0 with
   | ag l2 cs2 hl2 hv2 =>
    refine .ag _ cs2 hl2 fun j x c hx hc => ?_
    match j, hx with
    | 0, hx => cases hx; exact hv2 0 _ c rfl hc
    | 1, hx => cases hx; exact J2U (r := dotR) _ _ _ _ (hv2 1 _ c rfl hc)
  | 1, hx => cases hx; exact hv 1 _ c rfl hc, trivial⟩
theorem z6M {h L : List AB} {a b : Nat} {V : List Int} {D : Dots} {e : AV} {n : Nat} (hh : HOk h) (hn : n ≤ V.length) (he : e.ok (fun i => decide (i < h.length + 2)) = true) (hre : ∀ f, e.ren f = e) (hab : a ≠ b) (ha : L[a]? = some (resB intR true V)) (hb : L[b]? = some (resB dotR true D)) :
  Bt Tryz.prog h.length [.tu [.ag [cutS (rsl intR (h.length + a) V) n, apS dotR (h.length + b) D], e]] (h ++ L) [.tu [.ag [rsl intR h.length (V.take n), rsl dotR (h.length + 1) D], e]] (h ++ [resB intR true (V.take n), resB dotR true D]) := (zmR hh hn he hre hab ha hb).trans ZiY
theorem KR4 {v : List Int} {ds : Dots} (h : J6E v ds) : (∀ n ∈ qIk [] v, n ≤ 1048576) ∧ (qIk [] v).length ≤ 16 ∧ (∀ r, vAt (qIk [] v) r = vAt v r) := by
 refine ⟨fun n hn => ?_, by rw [z5S]; have := h.1; simp; omega, fun r => ?_⟩
 ·simp only [qIk, jn, List.mem_map, List.mem_range] at hn
  obtain ⟨i, _, rfl⟩ := hn
  rw [KbM]
  have := qfs v (fun n hn => (h.2.1 n hn).2) ((i + 1 : Nat) : Int)
  omega
 ·rw [qvy, KbM]
  have := KJL v r
  omega
theorem zSD : ∀ (l : Dots) (s : AbS), (absR s l).1.length ≤ max s.1.length 16 ∧ (absR s l).2.length ≤ s.2.length + l.length
 | [], s => ⟨by simp only [absR, List.foldl_nil]; omega, by simp only [absR, List.foldl_nil]; omega⟩
 | d :: l, s => by
  have h1 := QJC s d
  have h2 := zSD l (absD s d)
  simp only [absR, List.foldl_cons, List.length_cons] at h2 ⊢
  omega
theorem Jqi (hS : Spec Tryz.prog 118 QG2) : Spec Tryz.prog 71 Jpg := by
 intro args h v h' e
 unfold Jpg at e
 split at e
 ·rename_i s t
  obtain ⟨vs, hs, e⟩ := YI8 e
  obtain ⟨ds, ht, e⟩ := YI8 e
  split at e
  ·rename_i hl
   by_cases hr : J6E vs ds
   ·rw [if_pos hr] at e
    have gr : J6E vs ds = True := eq_true hr
    obtain ⟨n1, n2, n3⟩ := KR4 hr
    have hfm := QXY (x := qIk [] vs) (ds := ds) hr n2 (KDU [] vs) n3
    have l16 := hr.1
    have gd : ∀ d ∈ srtD ds, KG5 d := fun d hd => hr.2.2 d ((Qlc ds d).1 hd)
    have gc : ((qIk [] vs).length ≤ 100000 ∧ (srtD ds).length ≤ 100000 ∧ (∀ n ∈ qIk [] vs, n ≤ 1048576) ∧ ∀ d ∈ srtD ds, KG5 d) = True := eq_true ⟨by omega, by rw [Q0e]; exact hl, n1, gd⟩
    have g1 : (ds.length ≤ 1000000) = True := eq_true (by omega)
    have g2 : (vs.length ≤ 1000000) = True := eq_true (by omega)
    have g3 : (ds.length ≤ maxLen) = True := eq_true (by unfold maxLen; omega)
    have g4 : ((srtD ds).length ≤ maxLen) = True := eq_true (by rw [Q0e]; unfold maxLen; omega)
    have g5 : ((qIk [] vs).length ≤ maxLen) = True := eq_true (by unfold maxLen; omega)
    have hfm1 : (fmO vs ds).1 = (absR (qIk [] vs, []) (srtD ds)).1.take (topI (absR (qIk [] vs, []) (srtD ds)).1 (absR (qIk [] vs, []) (srtD ds)).1.length) := by
     rw [← hfm]
     exact X0i _ _ (Nat.le_refl _)
    have hfm2 : (fmO vs ds).2 = (absR (qIk [] vs, []) (srtD ds)).2 := by rw [← hfm]; rfl
    have htr := X0i (absR (qIk [] vs, []) (srtD ds)).1 (absR (qIk [] vs, []) (srtD ds)).1.length (Nat.le_refl _)
    have hti := ZGW (absR (qIk [] vs, []) (srtD ds)).1 (absR (qIk [] vs, []) (srtD ds)).1.length
    rw [hfm1, hfm2] at e
    have g0 : (([] : List Int).length ≤ 1000000) = True := eq_true (Nat.zero_le _)
    have gsr : ∀ id, rsl dotR id ds = rsl dotR id (srtD ds) := fun id => by unfold rsl; rw [Q0e]
    have gA : ((absR (qIk [] vs, []) (srtD ds)).1.length ≤ maxLen) = True := eq_true (by have := (zSD (srtD ds) (qIk [] vs, [])).1; simp only at this; unfold maxLen; omega)
    have gB : ((absR (qIk [] vs, []) (srtD ds)).2.length ≤ maxLen) = True := eq_true (by have := (zSD (srtD ds) (qIk [] vs, [])).2; rw [Q0e] at this; simp only [List.length_nil] at this; unfold maxLen; omega)
    have hlen : (K29 (absR (qIk [] vs, []) (srtD ds)).1 (absR (qIk [] vs, []) (srtD ds)).1.length).length = topI (absR (qIk [] vs, []) (srtD ds)).1 (absR (qIk [] vs, []) (srtD ds)).1.length := by
     rw [htr, List.length_take]
     omega
    have FA : FnAt Tryz.prog 71 [s, t] h v h' := by
     refine FnAt.run (by kernel_rfl) (T := ⟨[⟨92, Qhe, fun _ => []⟩, ⟨72, JWl, fun _ => []⟩, ⟨118, QG2, fun _ => []⟩, ⟨101, qzP, fun _ => []⟩, ⟨102, Z5V, fun _ => []⟩, ⟨103, qMN, fun _ => []⟩, ⟨104, XvB, fun _ => []⟩], []⟩) ⟨⟨Qq7, qw8, hS, ZXC, Xxp, Xpz, Y1e, trivial⟩, trivial⟩ Tryz.func71 sw71 fun ho hh => ?_
     simp only [qMC, JAX, Bool.and_eq_true] at ho
     have f1 := hs.fx ho.1 (sz := 1) rfl
     have f2 := ht.fx ho.2.1 (sz := 2) rfl
     unfold w71
     by_cases hq : (absR (qIk [] vs, []) (srtD ds)).1 = qIk [] vs
     ·have gq := eq_true hq
      simp only [XH8, QN9, X1r, zVq, simprocAttr, f1, f2, Qhe, gr, JWl, QG2, qzP, g1, g2, g3, g4, g5, gc, gq, gA, gB, g0, Kme, QNt, Y4t, XZt, zw7, XPg, QV1, zoL, AV.isNs, KGT, nsSl, Z45]
      simp only [X1r, zVq, simprocAttr, gsr, Z5V, qMN, XvB, g1, g2, g3, g4, g5, gc, gq, gA, gB, Kme, QNt, Y4t, XZt, zw7, XPg, QV1, zoL, AV.isNs, KGT, nsSl, Z45]
      refine ⟨fun q => q.elim, ?_⟩
      by_cases h6 : (fmO vs ds).2.length ≤ 4096
      ·have g6 : ((4096 : Int) < ((absR (qIk [] vs, []) (srtD ds)).2.length : Int)) = False := eq_false (by rw [← hfm2]; omega)
       rw [hfm2] at h6
       rw [if_pos h6] at e
       cases e
       simp only [X1r, zVq, simprocAttr, g6, Qrq, Xev, KZm]
       rw [hq] at hlen hti ⊢
       rw [hlen]
       refine z6M (a := 3) (b := 4) hh hti ?_ (fun _ => ?_) (by decide) ?_ ?_ <;> rfl
      ·have g6 : ((4096 : Int) < ((absR (qIk [] vs, []) (srtD ds)).2.length : Int)) = True := eq_true (by rw [← hfm2]; omega)
       rw [hfm2] at h6
       rw [if_neg h6] at e
       cases e
       simp only [X1r, zVq, simprocAttr, g6, Qrq, Xev, KZm]
       exact Bt.drop _ hh rfl (by simp [AV.ok, okL])
     ·have gq := eq_false hq
      simp only [XH8, QN9, X1r, zVq, simprocAttr, f1, f2, Qhe, gr, JWl, QG2, qzP, g1, g2, g3, g4, g5, gc, gq, gA, gB, g0, Kme, QNt, Y4t, XZt, zw7, XPg, QV1, zoL, AV.isNs, KGT, nsSl, Z45]
      simp only [X1r, zVq, simprocAttr, gsr, Z5V, qMN, XvB, g1, g2, g3, g4, g5, gc, gq, gA, gB, Kme, QNt, Y4t, XZt, zw7, XPg, QV1, zoL, AV.isNs, KGT, nsSl, Z45]
      refine ⟨fun q => q.elim, ?_⟩
      by_cases h6 : (fmO vs ds).2.length ≤ 4096
      ·have g6 : ((4096 : Int) < ((absR (qIk [] vs, []) (srtD ds)).2.length : Int)) = False := eq_false (by rw [← hfm2]; omega)
       rw [hfm2] at h6
       rw [if_pos h6] at e
       cases e
       simp only [X1r, zVq, simprocAttr, g6, Qrq, Xev, KZm]
       rw [hlen]
       refine z6M (a := 4) (b := 5) hh hti ?_ (fun _ => ?_) (by decide) ?_ ?_ <;> rfl
      ·have g6 : ((4096 : Int) < ((absR (qIk [] vs, []) (srtD ds)).2.length : Int)) = True := eq_true (by rw [← hfm2]; omega)
       rw [hfm2] at h6
       rw [if_neg h6] at e
       cases e
       simp only [X1r, zVq, simprocAttr, g6, Qrq, Xev, KZm]
       exact Bt.drop _ hh rfl (by simp [AV.ok, okL])
    exact FA.c
   ·rw [if_neg hr] at e
    have gr : J6E vs ds = False := eq_false hr
    cases e
    refine FnAt.c (FnAt.run (by kernel_rfl) (T := ⟨[⟨92, Qhe, fun _ => []⟩], []⟩) ⟨⟨Qq7, trivial⟩, trivial⟩ Tryz.func71 sw71 fun ho hh => ?_)
    simp only [qMC, JAX, Bool.and_eq_true] at ho
    have f1 := hs.fx ho.1 (sz := 1) rfl
    have f2 := ht.fx ho.2.1 (sz := 2) rfl
    unfold w71
    simp only [XH8, QN9, X1r, zVq, simprocAttr, f1, f2, Qhe, gr]
    exact ⟨Bt.drop _ hh rfl (by simp [AV.ok, okL]), fun q => q⟩
  ·cases e
 ·cases e
end Go.Proofs.YtfaccliekejngaaGreat
end
section
namespace Go.Proofs.YtfaccliekejngaaGreat
set_option maxRecDepth 100000
set_option maxHeartbeats 4000000
section
variable {P : Program} {h : List AB} {id n : Nat}
def topB (n : Nat) : AB := .blk true true (List.replicate n .top)
theorem Bt.top {p : Nat} {fr : List AV} {xs : List AV} (hi : h[id]? = some (.blk true true xs)) (hn : xs.length = n) : Bt P p fr h fr (h.set id (topB n)) := by
 refine Bt.less hi (fun ρ w b o m hb => ?_) (fun _ => rfl) (fun _ => rfl)
 obtain ⟨cs, e, fz, h1, h2, h3, _⟩ := hb
 refine ⟨cs, e, fz, h1, h2, by rw [List.length_replicate]; omega, fun k a c ha _ => ?_⟩
 rw [List.getElem?_replicate] at ha
 split at ha
 ·cases ha
  exact .top c
 ·cases ha
theorem QfP (hid : id < h.length) (x : List AB) (o : Nat) (w : AV) (hw : w.one = true) (hf : wrOk true w = true) (ho : o < n) : stV (h.set id (topB n) ++ x) none (.p id o) w = some (h.set id (.blk true true (over (List.replicate n .top) o [w])) ++ x) := by
 have hb : (h.set id (.blk true true (List.replicate n .top)) ++ x)[id]? = some (.blk true true (List.replicate n .top)) := by
  rw [List.getElem?_append_left (by rw [List.length_set]; exact hid), List.getElem?_set_self hid]
 simp only [stV, hw, if_true, stB, topB, hb]
 rw [if_pos ⟨by simp; omega, by simp [hf]⟩]
 congr 1
 rw [List.set_append_left _ _ (by rw [List.length_set]; exact hid), List.set_set]
theorem qOR (hid : id < h.length) (x : List AB) (o m : Nat) (l : List AV) (hl : l.length = m) (hf : l.all (wrOk true) = true) (ho : o + m ≤ n) : stV (h.set id (topB n) ++ x) (some m) (.p id o) (.ag l) = some (h.set id (.blk true true (over (List.replicate n .top) o l)) ++ x) := by
 have hb : (h.set id (.blk true true (List.replicate n .top)) ++ x)[id]? = some (.blk true true (List.replicate n .top)) := by
  rw [List.getElem?_append_left (by rw [List.length_set]; exact hid), List.getElem?_set_self hid]
 simp only [stV, hl, if_true, stB, topB, hb]
 rw [if_pos ⟨by simp; omega, hf⟩]
 congr 1
 rw [List.set_append_left _ _ (by rw [List.length_set]; exact hid), List.set_set]
theorem X7V {p : Nat} {fr fr' : List AV} (hid : id < h.length) (o : Nat) (l : List AV) (ho : o + l.length ≤ n) (hw : WkL fr' fr) : Bt P p fr (h.set id (.blk true true (over (List.replicate n .top) o l)) ++ []) fr' (h.set id (topB n) ++ []) := by
 rw [List.append_nil, List.append_nil]
 refine Bt.trans (Bt.wk hw) ?_
 have := Bt.top (P := P) (p := p) (fr := fr') (h := h.set id (.blk true true (over (List.replicate n .top) o l))) (id := id) (n := n) (xs := over (List.replicate n .top) o l) (by rw [List.getElem?_set_self hid]) (by rw [XAL _ _ _ (by simp; omega)]; simp)
 rwa [List.set_set] at this
theorem zlT {p : Nat} {fr fr' : List AV} {xs : List AV} (hi : h[id]? = some (.blk true true xs)) (hn : xs.length = n) (hw : WkL fr' fr) : Bt P p fr (h ++ []) fr' (h.set id (topB n) ++ []) := by
 rw [List.append_nil, List.append_nil]
 exact Bt.trans (Bt.wk hw) (Bt.top hi hn)
theorem QAJ {p : Nat} {fr : List AV} (hid : id < h.length) : Bt P p fr (h.set id (topB n) ++ []) fr (h.set id .dead) := by
 rw [List.append_nil]
 have := Bt.less (P := P) (p := p) (fr := fr) (h := h.set id (topB n)) (i := id) (B := topB n) (B' := .dead) (by rw [List.getElem?_set_self hid]) (fun _ _ _ _ _ _ => trivial) (fun q => by cases q) (fun q => by cases q)
 rwa [List.set_set] at this
end
open Classical in
noncomputable def XeO {α : Type} (r : Row α) : List AV → List AB → Option (AV × List AB)
 | [s], h => if s.isNs = true then some (.tu [], h) else (getS r h s).bind fun l => match idOf s with
   | [id] => if s = rsl r id l ∧ h[id]? = some (resB r true l) ∧ l.length ≤ 1000000 then some (.tu [], h.set id .dead) else none
   | _ => none
 | _, _ => none
theorem XWk {h : List AB} {id : Nat} (e : h[id]? = some .dead) : h.set id .dead = h := by
 apply List.ext_getElem?
 intro j
 rw [List.getElem?_set]
 split
 ·rename_i hij
  subst hij
  first | rw [if_pos (List.getElem?_eq_some_iff.1 e).1, e] | rw [e]
 ·rfl
theorem JKh : Spec Tryz.prog 117 (XeO intR) := by
 intro args h v h' e
 unfold XeO at e
 split at e
 ·rename_i s
  split at e
  ·rename_i hns
   cases e
   cases s <;> first | (cases hns; done) | skip
   refine FnAt.c (FnAt.run (by kernel_rfl) (T := ⟨[], []⟩) ⟨trivial, trivial⟩ Tryz.func117 ZuJ fun ho hh => ?_)
   unfold w117
   simp only [XH8, QN9, X1r, zVq, simprocAttr]
   refine YMr (S := Unit) (fun _ => 0) (fun _ => [.ns] ++ tp 1 ++ [.i .i64 0] ++ tp 9) (fun _ => True) () trivial (by simp only [X1r, zVq, simprocAttr]) fun _ _ => ?_
   simp only [X1r, zVq, simprocAttr, Int.lt_irrefl, false_implies]
   exact Bt.eq rfl (List.append_nil h)
  ·obtain ⟨l, hs, e⟩ := YI8 e
   split at e
   ·rename_i id hid
    split at e
    ·rename_i hc
     cases e
     obtain ⟨h1, h2, h3⟩ := hc
     have hlt := (List.getElem?_eq_some_iff.1 h2).1
     by_cases h0 : l.length = 0
     ·have e2 : h.set id .dead = h := XWk (by rw [h2]; unfold resB; rw [if_pos h0])
      rw [e2, h1]
      unfold rsl
      rw [if_pos h0]
      refine FnAt.c (FnAt.run (by kernel_rfl) (T := ⟨[], []⟩) ⟨trivial, trivial⟩ Tryz.func117 ZuJ fun ho hh => ?_)
      unfold w117
      simp only [XH8, QN9, X1r, zVq, simprocAttr]
      refine YMr (S := Unit) (fun _ => 0) (fun _ => [.sl id 0 0 0 (some 0)] ++ tp 1 ++ [.i .i64 0] ++ tp 9) (fun _ => True) () trivial (by simp only [X1r, zVq, simprocAttr]) fun _ _ => ?_
      simp only [X1r, zVq, simprocAttr, Int.natCast_zero, Int.lt_irrefl, false_implies, lenV]
      exact Bt.eq rfl (List.append_nil h)
     ·rw [h1]
      unfold rsl
      rw [if_neg h0]
      have hb : h[id]? = some (.blk true true (intR.cells l)) := by rw [h2]; unfold resB; rw [if_neg h0]
      refine FnAt.c (FnAt.run (by kernel_rfl) (T := ⟨[], []⟩) ⟨trivial, trivial⟩ Tryz.func117 ZuJ fun ho hh => ?_)
      unfold w117
      simp only [XH8, QN9, X1r, zVq, simprocAttr]
      refine YHj (S := Nat) (fun k => l.length - k) (fun k => [.sl id 0 l.length l.length (some intR.sz)] ++ tp 1 ++ [.i .i64 k] ++ tp 9) (fun _ => h.set id (topB l.length) ++ []) (fun k => k ≤ l.length) 0 (Nat.zero_le _) (zlT hb (by simp [Row.cells_len, QPQ]) (by simp only [X1r, zVq, simprocAttr])) fun k hk => ?_
      by_cases hlk : k < l.length
      ·have g1 : ((k : Int) < (l.length : Int)) = True := eq_true (by omega)
       have e1 : IntKind.i64.wrap ((k : Int) + 1) = ((k + 1 : Nat) : Int) := ZL4 (by unfold In64; omega)
       have e3 := QfP (n := l.length) hlt [] (0 + k * 1) (.i .i64 (-77)) rfl rfl (by omega)
       simp only [X1r, zVq, simprocAttr, lenV, g1, e1, iadV, hlk, e3, false_implies]
       exact ⟨k + 1, by omega, by dsimp only; omega, X7V hlt _ _ (by simp; omega) (by simp only [X1r, zVq, simprocAttr])⟩
      ·have g1 : ((k : Int) < (l.length : Int)) = False := eq_false (by omega)
       simp only [X1r, zVq, simprocAttr, lenV, g1, false_implies]
       exact QAJ hlt
    ·cases e
   ·cases e
 ·cases e
theorem qPI : Spec Tryz.prog 68 (XeO dotR) := by
 intro args h v h' e
 unfold XeO at e
 split at e
 ·rename_i s
  split at e
  ·rename_i hns
   cases e
   cases s <;> first | (cases hns; done) | skip
   refine FnAt.c (FnAt.run (by kernel_rfl) (T := ⟨[], []⟩) ⟨trivial, trivial⟩ Tryz.func68 sw68 fun ho hh => ?_)
   unfold w68
   simp only [XH8, QN9, X1r, zVq, simprocAttr]
   refine YMr (S := Unit) (fun _ => 0) (fun _ => [.ns] ++ tp 1 ++ [.i .i64 0] ++ tp 10) (fun _ => True) () trivial (by simp only [X1r, zVq, simprocAttr]) fun _ _ => ?_
   simp only [X1r, zVq, simprocAttr, Int.lt_irrefl, false_implies]
   exact Bt.eq rfl (List.append_nil h)
  ·obtain ⟨l, hs, e⟩ := YI8 e
   split at e
   ·rename_i id hid
    split at e
    ·rename_i hc
     cases e
     obtain ⟨h1, h2, h3⟩ := hc
     have hlt := (List.getElem?_eq_some_iff.1 h2).1
     by_cases h0 : l.length = 0
     ·have e2 : h.set id .dead = h := XWk (by rw [h2]; unfold resB; rw [if_pos h0])
      rw [e2, h1]
      unfold rsl
      rw [if_pos h0]
      refine FnAt.c (FnAt.run (by kernel_rfl) (T := ⟨[], []⟩) ⟨trivial, trivial⟩ Tryz.func68 sw68 fun ho hh => ?_)
      unfold w68
      simp only [XH8, QN9, X1r, zVq, simprocAttr]
      refine YMr (S := Unit) (fun _ => 0) (fun _ => [.sl id 0 0 0 (some 0)] ++ tp 1 ++ [.i .i64 0] ++ tp 10) (fun _ => True) () trivial (by simp only [X1r, zVq, simprocAttr]) fun _ _ => ?_
      simp only [X1r, zVq, simprocAttr, Int.natCast_zero, Int.lt_irrefl, false_implies, lenV]
      exact Bt.eq rfl (List.append_nil h)
     ·rw [h1]
      unfold rsl
      rw [if_neg h0]
      have hb : h[id]? = some (.blk true true (dotR.cells l)) := by rw [h2]; unfold resB; rw [if_neg h0]
      refine FnAt.c (FnAt.run (by kernel_rfl) (T := ⟨[], []⟩) ⟨trivial, trivial⟩ Tryz.func68 sw68 fun ho hh => ?_)
      unfold w68
      simp only [XH8, QN9, X1r, zVq, simprocAttr]
      refine YHj (S := Nat) (fun k => l.length - k) (fun k => [.sl id 0 l.length l.length (some dotR.sz)] ++ tp 1 ++ [.i .i64 k] ++ tp 10) (fun _ => h.set id (topB (l.length * 2)) ++ []) (fun k => k ≤ l.length) 0 (Nat.zero_le _) (zlT hb (by simp [Row.cells_len, ZeP]) (by simp only [X1r, zVq, simprocAttr])) fun k hk => ?_
      by_cases hlk : k < l.length
      ·have g1 : ((k : Int) < (l.length : Int)) = True := eq_true (by omega)
       have e1 : IntKind.i64.wrap ((k : Int) + 1) = ((k + 1 : Nat) : Int) := ZL4 (by unfold In64; omega)
       have e3 := qOR (n := l.length * 2) hlt [] (0 + k * 2) 2 [.i .i64 (-7), .i .i64 0] rfl rfl (by omega)
       simp only [X1r, zVq, simprocAttr, lenV, g1, e1, iadV, hlk, e3, false_implies]
       exact ⟨k + 1, by omega, by dsimp only; omega, X7V hlt _ _ (by simp only [List.length_cons, List.length_nil]; omega) (by simp only [X1r, zVq, simprocAttr])⟩
      ·have g1 : ((k : Int) < (l.length : Int)) = False := eq_false (by omega)
       simp only [X1r, zVq, simprocAttr, lenV, g1, false_implies]
       exact QAJ hlt
    ·cases e
   ·cases e
 ·cases e
theorem Q8v {h : List AB} (hh : HOk h) (i : Nat) : HOk (h.set i .dead) := by
 intro j B hB
 rw [List.length_set]
 rw [List.getElem?_set] at hB
 split at hB
 ·split at hB
  ·cases hB
   rfl
  ·cases hB
 ·exact hh j B hB
theorem ZGB {α : Type} {r : Row α} (h : List AB) : XeO r [.ns] h = some (.tu [], h) := rfl
theorem qte {α : Type} {r : Row α} {h : List AB} {id : Nat} {l : List α} (hb : h[id]? = some (resB r true l)) (hl : l.length ≤ 1000000) (x : List AB) : XeO r [rsl r id l] (h ++ x) = some (.tu [], h.set id .dead ++ x) := by
 have hlt := (List.getElem?_eq_some_iff.1 hb).1
 have hb' : (h ++ x)[id]? = some (resB r true l) := by rw [List.getElem?_append_left hlt]; exact hb
 have hg : getS r (h ++ x) (rsl r id l) = some l := (zRx hb' (by unfold maxLen; omega)).get
 have hid : idOf (rsl r id l) = [id] := by unfold rsl; split <;> rfl
 have hn : (rsl r id l).isNs = false := by unfold rsl; split <;> rfl
 unfold XeO
 simp only [hn, Bool.false_eq_true, if_false, hg, Option.bind_some, hid, hb', hl, and_self, if_true]
 rw [List.set_append_left _ _ hlt]
open Classical in
noncomputable def qsF : List AV → List AB → Option (AV × List AB)
 | [.ag [.ns, .ns]], h => some (.tu [], h)
 | [.ag [s, t]], h => (getS intR h s).bind fun l => (getS dotR h t).bind fun m => match idOf s, idOf t with
   | [i], [j] => if s = rsl intR i l ∧ h[i]? = some (resB intR true l) ∧ t = rsl dotR j m ∧ h[j]? = some (resB dotR true m) ∧ i ≠ j ∧ l.length ≤ 1000000 ∧ m.length ≤ 1000000 then some (.tu [], (h.set i .dead).set j .dead) else none
   | _, _ => none
 | _, _ => none
theorem YAP : Spec Tryz.prog 67 qsF := by
 intro args h v h' e
 unfold qsF at e
 split at e
 ·cases e
  refine FnAt.c (FnAt.run (by kernel_rfl) (T := ⟨[⟨117, XeO intR, fun _ => []⟩, ⟨68, XeO dotR, fun _ => []⟩], []⟩) ⟨⟨JKh, qPI, trivial⟩, trivial⟩ Tryz.func67 sw67 fun ho hh => ?_)
  unfold w67
  simp only [XH8, QN9, X1r, zVq, simprocAttr, ZGB]
  exact Bt.drop _ hh rfl rfl
 ·rename_i s t hne
  obtain ⟨l, hs, e⟩ := YI8 e
  obtain ⟨m, ht, e⟩ := YI8 e
  split at e
  ·rename_i i j hi hj
   split at e
   ·rename_i hc
    cases e
    obtain ⟨h1, h2, h3, h4, h5, h6, h7⟩ := hc
    refine FnAt.c (FnAt.run (by kernel_rfl) (T := ⟨[⟨117, XeO intR, fun _ => []⟩, ⟨68, XeO dotR, fun _ => []⟩], []⟩) ⟨⟨JKh, qPI, trivial⟩, trivial⟩ Tryz.func67 sw67 fun ho hh => ?_)
    have g1 := qte h2 h6
    have g2 := qte (r := dotR) (h := h.set i .dead) (id := j) (l := m) (by rw [List.getElem?_set_ne h5]; exact h4) h7
    subst h1 h3
    have lz : (h.set i .dead).length = h.length := List.length_set
    unfold w67
    simp only [XH8, QN9, X1r, Y9j, simprocAttr, g1, g2, lz]
    have b := Bt.drop (P := Tryz.prog) (v := .tu []) (a := .tu []) [.blk false true [rsl intR i l, rsl dotR j m]] (Q8v (Q8v hh i) j) rfl rfl
    rwa [List.length_set, List.length_set] at b
   ·cases e
  ·cases e
 ·cases e
end Go.Proofs.YtfaccliekejngaaGreat
end
section
namespace Go.Proofs.YtfaccliekejngaaGreat
set_option maxRecDepth 100000
set_option maxHeartbeats 4000000
noncomputable def z7B : List AV → List AB → Option (AV × List AB)
 | [a, b], h => (getS qjO h a).bind fun xs => (getS qjO h b).bind fun ys => some (.b (decide (xs = ys)), h)
 | _, _ => none
theorem Quq : Spec Tryz.prog 64 z7B := by
 intro args h v h' e
 unfold z7B at e
 split at e
 ·rename_i a b
  obtain ⟨xs, ha, e⟩ := YI8 e
  obtain ⟨ys, hb, e⟩ := YI8 e
  cases e
  refine FnAt.c (FnAt.frz0 fun hz => ?_)
  replace ha := ha.frz
  replace hb := hb.frz
  generalize h.map AB.freeze = h at *
  refine FnAt.run (by kernel_rfl) (T := ⟨[], []⟩) ⟨trivial, trivial⟩ Tryz.func64 sw64 fun ho hh => ?_
  simp only [qMC, Bool.and_eq_true] at ho
  have fa := ha.fx ho.1 (sz := 34) rfl
  have fb := hb.fx ho.2.1 (sz := 34) rfl
  unfold w64
  simp only [XH8, QN9, X1r, zVq, simprocAttr, fa, fb]
  refine YMr (S := Nat) (fun i => xs.length - i) (fun i => [a, b] ++ tp 3 ++ [.b (decide (xs.length = ys.length ∧ xs.take i = ys.take i)), .i .i64 i] ++ tp 24) (fun i => xs.length = ys.length → i ≤ xs.length) 0 (fun _ => Nat.zero_le _) (by simp only [X1r, zVq, simprocAttr, List.take_zero]) fun i hi => ?_
  simp only [X1r, zVq, simprocAttr, fa, fb]
  refine ⟨fun h1 => ⟨fun h2 => ?_, fun h2 => ?_⟩, fun h1 => ?_⟩
  ·have h3 : i < ys.length := by omega
   have e1 : IntKind.i64.wrap ((i : Int) + 1) = ((i + 1 : Nat) : Int) := ZL4 (by have := ha.2; unfold maxLen at this; unfold In64; omega)
   simp only [X1r, X5W, zVq, simprocAttr, CO.tmps, Opd.tmps, optT, Nat.reducePow, Nat.reduceDiv, Nat.reduceMod, fa, fb, h2, h3, ZK0, KJo, Nat.zero_lt_one, e1]
   refine ⟨i + 1, fun _ => h2, by omega, ?_, Wk.refl _⟩
   have e2 : (xs.length = ys.length ∧ xs.take (i + 1) = ys.take (i + 1)) = (xs.getD i qjO.d = ys.getD i qjO.d) := propext (by rw [and_iff_right h1.1]; exact qGK _ h2 h3 h1.2)
   simp only [e2, qSo]
  ·exact Bt.eq (by simp only [AV.b.injEq, decide_eq_decide]; exact KpQ (by omega)) (List.append_nil h)
  ·exact Bt.eq (by simp only [AV.b.injEq, decide_eq_decide]; exact iff_of_false h1 (zt2 h1)) (List.append_nil h)
 ·cases e
noncomputable def JuR : List AV → List AB → Option (AV × List AB)
 | [a, b], h => (getS idR h a).bind fun xs => (getS idR h b).bind fun ys => some (.b (decide (xs = ys)), h)
 | _, _ => none
theorem Q5j : Spec Tryz.prog 29 JuR := by
 intro args h v h' e
 unfold JuR at e
 split at e
 ·rename_i a b
  obtain ⟨xs, ha, e⟩ := YI8 e
  obtain ⟨ys, hb, e⟩ := YI8 e
  cases e
  refine FnAt.c (FnAt.frz0 fun hz => ?_)
  replace ha := ha.frz
  replace hb := hb.frz
  generalize h.map AB.freeze = h at *
  refine FnAt.run (by kernel_rfl) (T := ⟨[], []⟩) ⟨trivial, trivial⟩ Tryz.func29 sw29 fun ho hh => ?_
  simp only [qMC, Bool.and_eq_true] at ho
  have fa := ha.fx ho.1 (sz := 32) rfl
  have fb := hb.fx ho.2.1 (sz := 32) rfl
  unfold w29
  simp only [XH8, QN9, X1r, zVq, simprocAttr, fa, fb]
  refine YMr (S := Nat) (fun i => xs.length - i) (fun i => [a, b] ++ tp 3 ++ [.b (decide (xs.length = ys.length ∧ xs.take i = ys.take i)), .i .i64 i] ++ tp 24) (fun i => xs.length = ys.length → i ≤ xs.length) 0 (fun _ => Nat.zero_le _) (by simp only [X1r, zVq, simprocAttr, List.take_zero]) fun i hi => ?_
  simp only [X1r, zVq, simprocAttr, fa, fb]
  refine ⟨fun h1 => ⟨fun h2 => ?_, fun h2 => ?_⟩, fun h1 => ?_⟩
  ·have h3 : i < ys.length := by omega
   have e1 : IntKind.i64.wrap ((i : Int) + 1) = ((i + 1 : Nat) : Int) := ZL4 (by have := ha.2; unfold maxLen at this; unfold In64; omega)
   simp only [X1r, X5W, zVq, simprocAttr, CO.tmps, Opd.tmps, optT, Nat.reducePow, Nat.reduceDiv, Nat.reduceMod, fa, fb, h2, h3, QLO, Zph, Nat.zero_lt_one, e1]
   refine ⟨i + 1, fun _ => h2, by omega, ?_, Wk.refl _⟩
   have e2 : (xs.length = ys.length ∧ xs.take (i + 1) = ys.take (i + 1)) = (xs.getD i idR.d = ys.getD i idR.d) := propext (by rw [and_iff_right h1.1]; exact qGK _ h2 h3 h1.2)
   simp only [e2, qSo]
  ·exact Bt.eq (by simp only [AV.b.injEq, decide_eq_decide]; exact KpQ (by omega)) (List.append_nil h)
  ·exact Bt.eq (by simp only [AV.b.injEq, decide_eq_decide]; exact iff_of_false h1 (zt2 h1)) (List.append_nil h)
 ·cases e
noncomputable def Kdw : List AV → List AB → Option (AV × List AB)
 | [.ag [l, v, d], .ag [l', v', d']], h => (getS qjO h l).bind fun hs => (getS intR h v).bind fun xs => (getS dotR h d).bind fun ds => (getS qjO h l').bind fun hs' => (getS intR h v').bind fun xs' => (getS dotR h d').bind fun ds' =>
   some (.b (decide (hs = hs' ∧ xs = xs' ∧ ds = ds')), h)
 | _, _ => none
noncomputable def JXE : List AV → List AB → Option (AV × List AB)
 | [.ag [l, v, d]], h => (getS qjO h l).bind fun hs => (getS intR h v).bind fun xs => (getS dotR h d).bind fun ds => if hs.length ≤ 1000000 ∧ xs.length ≤ 1000000 ∧ ds.length ≤ 1000000 then
   some (.ag [rsl qjO h.length hs, rsl intR (h.length + 1) xs, rsl dotR (h.length + 2) ds], h ++ [resB qjO true hs, resB intR true xs, resB dotR true ds]) else none
 | _, _ => none
noncomputable def zan : List AV → List AB → Option (AV × List AB)
 | [.ag [l, s, t]], h => (getS qjO h l).bind fun hs => (getS intR h s).bind fun v => (getS dotR h t).bind fun ds => some (.b (decide (20 < hs.length ∨ 20 < v.length ∨ 30 < ds.length)), h)
 | _, _ => none
end Go.Proofs.YtfaccliekejngaaGreat
end
section
namespace Go.Proofs.YtfaccliekejngaaGreat
set_option maxRecDepth 100000
set_option maxHeartbeats 4000000
theorem zc6 {α : Type} (r : Row α) (m : Bool) : resB r m [] = .dead := _root_.id rfl
theorem Y8D {α : Type} (r : Row α) (id : Nat) : rsl r id [] = .sl id 0 0 0 (some 0) := _root_.id rfl
end Go.Proofs.YtfaccliekejngaaGreat
end
section
namespace Go.Proofs.YtfaccliekejngaaGreat
set_option maxRecDepth 100000
set_option maxHeartbeats 4000000
section
variable {P : Program} {h : List AB} {id n : Nat}
end
def KrB : List AV := .i .u8 1 :: .i .u8 2 :: .i .u8 3 :: List.replicate 29 (.i .u8 0)
theorem QQQ : Spec Tryz.prog 35 (XeO idR) := by
 intro args h v h' e
 unfold XeO at e
 split at e
 ·rename_i s
  split at e
  ·rename_i hns
   cases e
   cases s <;> first | (cases hns; done) | skip
   refine FnAt.c (FnAt.run (by kernel_rfl) (T := ⟨[], []⟩) ⟨trivial, trivial⟩ Tryz.func35 sw35 fun ho hh => ?_)
   unfold w35
   simp only [XH8, QN9, X1r, zVq, simprocAttr]
   refine YMr (S := Unit) (fun _ => 0) (fun _ => [.ns] ++ tp 1 ++ [.i .i64 0] ++ tp 10) (fun _ => True) () trivial (by simp only [X1r, zVq, simprocAttr]) fun _ _ => ?_
   simp only [X1r, zVq, simprocAttr, Int.lt_irrefl, false_implies]
   exact Bt.eq rfl (List.append_nil h)
  ·obtain ⟨l, hs, e⟩ := YI8 e
   split at e
   ·rename_i id hid
    split at e
    ·rename_i hc
     cases e
     obtain ⟨h1, h2, h3⟩ := hc
     have hlt := (List.getElem?_eq_some_iff.1 h2).1
     by_cases h0 : l.length = 0
     ·have e2 : h.set id .dead = h := XWk (by rw [h2]; unfold resB; rw [if_pos h0])
      rw [e2, h1]
      unfold rsl
      rw [if_pos h0]
      refine FnAt.c (FnAt.run (by kernel_rfl) (T := ⟨[], []⟩) ⟨trivial, trivial⟩ Tryz.func35 sw35 fun ho hh => ?_)
      unfold w35
      simp only [XH8, QN9, X1r, zVq, simprocAttr]
      refine YMr (S := Unit) (fun _ => 0) (fun _ => [.sl id 0 0 0 (some 0)] ++ tp 1 ++ [.i .i64 0] ++ tp 10) (fun _ => True) () trivial (by simp only [X1r, zVq, simprocAttr]) fun _ _ => ?_
      simp only [X1r, zVq, simprocAttr, Int.natCast_zero, Int.lt_irrefl, false_implies, lenV]
      exact Bt.eq rfl (List.append_nil h)
     ·rw [h1]
      unfold rsl
      rw [if_neg h0]
      have hb : h[id]? = some (.blk true true (idR.cells l)) := by rw [h2]; unfold resB; rw [if_neg h0]
      refine FnAt.c (FnAt.run (by kernel_rfl) (T := ⟨[], []⟩) ⟨trivial, trivial⟩ Tryz.func35 sw35 fun ho hh => ?_)
      unfold w35
      simp only [XH8, QN9, X1r, zVq, simprocAttr]
      refine YHj (S := Nat) (fun k => l.length - k) (fun k => [.sl id 0 l.length l.length (some idR.sz)] ++ tp 1 ++ [.i .i64 k] ++ tp 10) (fun _ => h.set id (topB (l.length * 32)) ++ []) (fun k => k ≤ l.length) 0 (Nat.zero_le _) (zlT hb (idR.cells_len l) (by simp only [X1r, zVq, simprocAttr])) fun k hk => ?_
      by_cases hlk : k < l.length
      ·have g1 : ((k : Int) < (l.length : Int)) = True := eq_true (by omega)
       have e1 : IntKind.i64.wrap ((k : Int) + 1) = ((k + 1 : Nat) : Int) := ZL4 (by have : l.length ≤ 1000000 := h3; unfold In64; omega)
       have e3 := qOR (n := l.length * 32) hlt [] (0 + k * 32) 32 KrB rfl rfl (by omega)
       simp only [KrB, XH8, QN9] at e3
       simp only [XH8, QN9, X1r, zVq, simprocAttr, lenV, g1, e1, iadV, hlk, e3, false_implies]
       exact ⟨k + 1, by omega, by dsimp only; omega, X7V hlt _ _ (by simp only [List.length_cons, List.length_nil]; omega) (by simp only [X1r, zVq, simprocAttr])⟩
      ·have g1 : ((k : Int) < (l.length : Int)) = False := eq_false (by omega)
       simp only [X1r, zVq, simprocAttr, lenV, g1, false_implies]
       exact QAJ hlt
    ·cases e
   ·cases e
 ·cases e
theorem Ztg (h : List AB) : qsF [.ag [.ns, .ns]] h = some (.tu [], h) := rfl
theorem qY8 {α : Type} (r : Row α) (id : Nat) (l : List α) : rsl r id l ≠ .ns := fun q => by unfold rsl at q; split at q <;> cases q
theorem KNe {h : List AB} {v : List Int} {d : Dots} {j k : Nat} (hj : h[j]? = some (resB intR true v)) (hk : h[k]? = some (resB dotR true d)) (hl : v.length ≤ 1000000) (hm : d.length ≤ 1000000) (hne : j ≠ k) (x : List AB) :
  qsF [.ag [rsl intR j v, rsl dotR k d]] (h ++ x) = some (.tu [], (h.set j .dead).set k .dead ++ x) := by
 have lj := (List.getElem?_eq_some_iff.1 hj).1
 have lk := (List.getElem?_eq_some_iff.1 hk).1
 have h1 : (h ++ x)[j]? = some (resB intR true v) := by rw [List.getElem?_append_left lj]; exact hj
 have h2 : (h ++ x)[k]? = some (resB dotR true d) := by rw [List.getElem?_append_left lk]; exact hk
 have g1 : getS intR (h ++ x) (rsl intR j v) = some v := (zRx h1 (by unfold maxLen; omega)).get
 have g2 : getS dotR (h ++ x) (rsl dotR k d) = some d := (zRx h2 (by unfold maxLen; omega)).get
 unfold qsF
 split
 ·rename_i q
  simp only [List.cons.injEq, AV.ag.injEq] at q
  exact absurd q.1.1 (qY8 _ _ _)
 ·rename_i q
  simp only [List.cons.injEq, AV.ag.injEq, and_true] at q
  obtain ⟨rfl, rfl⟩ := q
  rw [g1, g2]
  simp only [Option.bind_some, XPg]
  rw [if_pos ⟨rfl, h1, rfl, h2, hne, hl, hm⟩, List.set_append_left _ _ lj, List.set_append_left _ _ (by rw [List.length_set]; exact lk)]
 ·rename_i q1 q2
  first | exact (q2 _ _ rfl).elim | exact (q2 _ _ _ rfl).elim | exact (q2 _ _ _ rfl rfl).elim | exact (q2 _ _ rfl rfl).elim | exact (q1 _ _ rfl rfl).elim | exact (q1 _ _ _ rfl rfl).elim | exact (q2 rfl).elim
open Classical in
noncomputable def Yph : List AV → List AB → Option (AV × List AB)
 | [.ag [.ns, .ns, .ns]], h => some (.tu [], h)
 | [.ag [l, s, t]], h => (getS qjO h l).bind fun hs => (getS intR h s).bind fun v => (getS dotR h t).bind fun d => match idOf l, idOf s, idOf t with
   | [i], [j], [k] => if l = rsl qjO i hs ∧ h[i]? = some (resB qjO true hs) ∧ s = rsl intR j v ∧ h[j]? = some (resB intR true v) ∧ t = rsl dotR k d ∧ h[k]? = some (resB dotR true d) ∧ i ≠ j ∧ i ≠ k ∧ j ≠ k ∧ hs.length ≤ 1000000 ∧ v.length ≤ 1000000 ∧ d.length ≤ 1000000 then some (.tu [], ((h.set i .dead).set j .dead).set k .dead) else none
   | _, _, _ => none
 | _, _ => none
def Xwp : List AV := .i .i64 (-7) :: .i .i64 0 :: List.replicate 32 (.i .u8 0)
end Go.Proofs.YtfaccliekejngaaGreat
end
section
namespace Go.Proofs.YtfaccliekejngaaGreat
set_option maxRecDepth 100000
set_option maxHeartbeats 4000000
theorem QeN : Spec Tryz.prog 19 Kdw := by
 intro args h v h' e
 unfold Kdw at e
 split at e
 ·rename_i l s t l' s' t'
  obtain ⟨hs, hl, e⟩ := YI8 e
  obtain ⟨xs, hv, e⟩ := YI8 e
  obtain ⟨ds, hd, e⟩ := YI8 e
  obtain ⟨hs', hl', e⟩ := YI8 e
  obtain ⟨xs', hv', e⟩ := YI8 e
  obtain ⟨ds', hd', e⟩ := YI8 e
  cases e
  refine FnAt.c (FnAt.run (by kernel_rfl) (T := ⟨[⟨64, z7B, fun _ => []⟩, ⟨23, Jb1, fun _ => []⟩], []⟩) ⟨⟨Quq, Kx2, trivial⟩, trivial⟩ Tryz.func19 sw19 fun ho hh => ?_)
  simp only [qMC, JAX, Bool.and_eq_true] at ho
  have f1 := hl.fx ho.1.1 (sz := 34) rfl
  have f2 := hv.fx ho.1.2.1 (sz := 1) rfl
  have f3 := hd.fx ho.1.2.2.1 (sz := 2) rfl
  have f4 := hl'.fx ho.2.1.1 (sz := 34) rfl
  have f5 := hv'.fx ho.2.1.2.1 (sz := 1) rfl
  have f6 := hd'.fx ho.2.1.2.2.1 (sz := 2) rfl
  unfold w19
  simp only [XH8, QN9, X1r, X5W, zVq, simprocAttr, CO.tmps, Opd.tmps, optT, Nat.reducePow, Nat.reduceDiv, Nat.reduceMod, f1, f2, f3, f4, f5, f6, z7B, Jb1]
  refine ⟨fun h1 => Bt.dropB _ hh (by simp [h1]), fun h1 => Bt.dropB _ hh (by simp [h1])⟩
 ·cases e
theorem X7R : Spec Tryz.prog 10 zan := by
 intro args h v h' e
 unfold zan at e
 split at e
 ·rename_i l s t
  obtain ⟨hs, hl, e⟩ := YI8 e
  obtain ⟨xs, hv, e⟩ := YI8 e
  obtain ⟨ds, hd, e⟩ := YI8 e
  cases e
  refine FnAt.c (FnAt.run (by kernel_rfl) (T := ⟨[⟨11, qve, fun _ => []⟩], []⟩) ⟨⟨zcT, trivial⟩, trivial⟩ Tryz.func10 sw10 fun ho hh => ?_)
  simp only [qMC, JAX, Bool.and_eq_true] at ho
  have f1 := hl.fx ho.1.1 (sz := 34) rfl
  have f2 := hv.fx ho.1.2.1 (sz := 1) rfl
  have f3 := hd.fx ho.1.2.2.1 (sz := 2) rfl
  unfold w10
  simp only [XH8, QN9, X1r, X5W, zVq, simprocAttr, CO.tmps, Opd.tmps, optT, Nat.reducePow, Nat.reduceDiv, Nat.reduceMod, f1, f2, f3, qve]
  refine ⟨fun q => Bt.dropB _ hh (decide_eq_true (.inl (by omega))).symm, fun q => Bt.dropB _ hh (decide_eq_decide.2 ?_)⟩
  omega
 ·cases e
end Go.Proofs.YtfaccliekejngaaGreat
end
section
namespace Go.Proofs.YtfaccliekejngaaGreat
set_option maxRecDepth 100000
set_option maxHeartbeats 4000000
theorem qc0 : Spec Tryz.prog 66 (XeO qjO) := by
 intro args h v h' e
 unfold XeO at e
 split at e
 ·rename_i s
  split at e
  ·rename_i hns
   cases e
   cases s <;> first | (cases hns; done) | skip
   refine FnAt.c (FnAt.run (by kernel_rfl) (T := ⟨[], []⟩) ⟨trivial, trivial⟩ Tryz.func66 sw66 fun ho hh => ?_)
   unfold w66
   simp only [XH8, QN9, X1r, zVq, simprocAttr]
   refine YMr (S := Unit) (fun _ => 0) (fun _ => [.ns] ++ tp 1 ++ [.i .i64 0] ++ tp 11) (fun _ => True) () trivial (by simp only [X1r, zVq, simprocAttr]) fun _ _ => ?_
   simp only [X1r, zVq, simprocAttr, Int.lt_irrefl, false_implies]
   exact Bt.eq rfl (List.append_nil h)
  ·obtain ⟨l, hs, e⟩ := YI8 e
   split at e
   ·rename_i id hid
    split at e
    ·rename_i hc
     cases e
     obtain ⟨h1, h2, h3⟩ := hc
     have hlt := (List.getElem?_eq_some_iff.1 h2).1
     by_cases h0 : l.length = 0
     ·have e2 : h.set id .dead = h := XWk (by rw [h2]; unfold resB; rw [if_pos h0])
      rw [e2, h1]
      unfold rsl
      rw [if_pos h0]
      refine FnAt.c (FnAt.run (by kernel_rfl) (T := ⟨[], []⟩) ⟨trivial, trivial⟩ Tryz.func66 sw66 fun ho hh => ?_)
      unfold w66
      simp only [XH8, QN9, X1r, zVq, simprocAttr]
      refine YMr (S := Unit) (fun _ => 0) (fun _ => [.sl id 0 0 0 (some 0)] ++ tp 1 ++ [.i .i64 0] ++ tp 11) (fun _ => True) () trivial (by simp only [X1r, zVq, simprocAttr]) fun _ _ => ?_
      simp only [X1r, zVq, simprocAttr, Int.natCast_zero, Int.lt_irrefl, false_implies, lenV]
      exact Bt.eq rfl (List.append_nil h)
     ·rw [h1]
      unfold rsl
      rw [if_neg h0]
      have hb : h[id]? = some (.blk true true (qjO.cells l)) := by rw [h2]; unfold resB; rw [if_neg h0]
      refine FnAt.c (FnAt.run (by kernel_rfl) (T := ⟨[], []⟩) ⟨trivial, trivial⟩ Tryz.func66 sw66 fun ho hh => ?_)
      unfold w66
      simp only [XH8, QN9, X1r, zVq, simprocAttr]
      refine YHj (S := Nat) (fun k => l.length - k) (fun k => [.sl id 0 l.length l.length (some qjO.sz)] ++ tp 1 ++ [.i .i64 k] ++ tp 11) (fun _ => h.set id (topB (l.length * 34)) ++ []) (fun k => k ≤ l.length) 0 (Nat.zero_le _) (zlT hb (qjO.cells_len l) (by simp only [X1r, zVq, simprocAttr])) fun k hk => ?_
      by_cases hlk : k < l.length
      ·have g1 : ((k : Int) < (l.length : Int)) = True := eq_true (by omega)
       have e1 : IntKind.i64.wrap ((k : Int) + 1) = ((k + 1 : Nat) : Int) := ZL4 (by have : l.length ≤ 1000000 := h3; unfold In64; omega)
       have e3 := qOR (n := l.length * 34) hlt [] (0 + k * 34) 34 Xwp rfl rfl (by omega)
       simp only [Xwp, XH8, QN9] at e3
       simp only [XH8, QN9, X1r, zVq, simprocAttr, lenV, g1, e1, iadV, hlk, e3, false_implies]
       exact ⟨k + 1, by omega, by dsimp only; omega, X7V hlt _ _ (by simp only [List.length_cons, List.length_nil]; omega) (by simp only [X1r, zVq, simprocAttr])⟩
      ·have g1 : ((k : Int) < (l.length : Int)) = False := eq_false (by omega)
       simp only [X1r, zVq, simprocAttr, lenV, g1, false_implies]
       exact QAJ hlt
    ·cases e
   ·cases e
 ·cases e
theorem Xrt : Spec Tryz.prog 21 Yph := by
 intro args h v h' e
 unfold Yph at e
 split at e
 ·cases e
  refine FnAt.c (FnAt.run (by kernel_rfl) (T := ⟨[⟨66, XeO qjO, fun _ => []⟩, ⟨67, qsF, fun _ => []⟩], []⟩) ⟨⟨qc0, YAP, trivial⟩, trivial⟩ Tryz.func21 sw21 fun ho hh => ?_)
  unfold w21
  simp only [XH8, QN9, X1r, zVq, simprocAttr, ZGB, Ztg]
  exact Bt.drop _ hh rfl rfl
 ·rename_i l s t hne
  obtain ⟨hs, hl, e⟩ := YI8 e
  obtain ⟨xs, hv, e⟩ := YI8 e
  obtain ⟨ds, hd, e⟩ := YI8 e
  split at e
  ·rename_i i j k hi hj hk
   split at e
   ·rename_i hc
    cases e
    obtain ⟨h1, h2, h3, h4, h5, h6, n1, n2, n3, m1, m2, m3⟩ := hc
    subst h1 h3 h5
    refine FnAt.c (FnAt.run (by kernel_rfl) (T := ⟨[⟨66, XeO qjO, fun _ => []⟩, ⟨67, qsF, fun _ => []⟩], []⟩) ⟨⟨qc0, YAP, trivial⟩, trivial⟩ Tryz.func21 sw21 fun ho hh => ?_)
    have g1 := qte h2 m1
    have g2 := KNe (h := h.set i .dead) (by rw [List.getElem?_set_ne n1]; exact h4) (by rw [List.getElem?_set_ne n2]; exact h6) m2 m3 n3
    have lz : (h.set i .dead).length = h.length := List.length_set
    unfold w21
    simp only [XH8, QN9, X1r, Y9j, simprocAttr, g1, g2, lz]
    have b := Bt.drop (P := Tryz.prog) (v := .tu []) (a := .tu []) [.blk false true [rsl qjO i hs, rsl intR j xs, rsl dotR k ds]] (Q8v (Q8v (Q8v hh i) j) k) rfl rfl
    rwa [List.length_set, List.length_set, List.length_set] at b
   ·cases e
  ·cases e
 ·cases e
end Go.Proofs.YtfaccliekejngaaGreat
end
section
namespace Go.Proofs.YtfaccliekejngaaGreat
set_option maxRecDepth 100000
set_option maxHeartbeats 4000000
def rAt (v : List Int) (r : Int) : Int := if r < 1 ∨ (v.length : Int) < r then 0 else v.getD (r - 1).toNat 0
noncomputable def KoJ : List AV → List AB → Option (AV × List AB)
 | [.ag [s, t], .i .i64 r], h => (getS intR h s).bind fun v => (getS dotR h t).bind fun _ => some (.i .i64 (rAt v r), h)
 | _, _ => none
theorem Kcs : Spec Tryz.prog 121 KoJ := by
 intro args h v h' e
 unfold KoJ at e
 split at e
 ·rename_i s t r
  obtain ⟨vs, hs, e⟩ := YI8 e
  obtain ⟨ds, ht, e⟩ := YI8 e
  cases e
  refine FnAt.c (FnAt.run (by kernel_rfl) (T := ⟨[], []⟩) ⟨trivial, trivial⟩ Tryz.func121 qSP fun ho hh => ?_)
  simp only [qMC, JAX, Bool.and_eq_true] at ho
  have f1 := hs.fx ho.1.1 (sz := 1) rfl
  have f2 := ht.fx ho.1.2.1 (sz := 2) rfl
  have hm := hs.2
  unfold maxLen at hm
  unfold w121
  by_cases hr : r < 1 ∨ (vs.length : Int) < r
  ·have ev : rAt vs r = 0 := by unfold rAt; rw [if_pos hr]
   by_cases h1 : r < 1
   ·have h1' := eq_true h1
    simp only [XH8, QN9, X1r, zVq, simprocAttr, f1, f2, h1']
    exact ⟨Bt.dropI _ hh ev.symm, fun q => q.elim⟩
   ·have h1' := eq_false h1
    have h2' : ((vs.length : Int) < r) = True := eq_true (by omega)
    simp only [XH8, QN9, X1r, zVq, simprocAttr, f1, f2, h1', h2']
    exact ⟨fun q => q.elim, Bt.dropI _ hh ev.symm, fun q => q.elim⟩
  ·have h1' : (r < 1) = False := eq_false (by omega)
   have h2' : ((vs.length : Int) < r) = False := eq_false (by omega)
   have ew : IntKind.i64.wrap (r - 1) = r - 1 := ZL4 (by unfold In64; omega)
   have e2 : (0 ≤ r - 1 ∧ r - 1 < (vs.length : Int)) = True := eq_true (by omega)
   have e3 : ((r - 1).toNat < vs.length) = True := eq_true (by omega)
   simp only [XH8, QN9, X1r, zVq, simprocAttr, f1, f2, h1', h2', ew, e2, e3, JEE]
   exact ⟨fun q => q.elim, fun q => q.elim, Bt.dropI _ hh (by unfold rAt; rw [if_neg hr]; rfl)⟩
 ·cases e
noncomputable def YZu : List AV → List AB → Option (AV × List AB)
 | [.ag [s, t], .ag [s', t']], h => (getS intR h s).bind fun v => (getS dotR h t).bind fun ds => (getS intR h s').bind fun v' => (getS dotR h t').bind fun ds' => some (.i .i64 (if KXy v ds = 0 then KXy v' ds' else KXy v ds), h)
 | _, _ => none
theorem JjG : Spec Tryz.prog 120 YZu := by
 intro args h v h' e
 unfold YZu at e
 split at e
 ·rename_i s t s' t'
  obtain ⟨vs, hs, e⟩ := YI8 e
  obtain ⟨ds, ht, e⟩ := YI8 e
  obtain ⟨vs', hs', e⟩ := YI8 e
  obtain ⟨ds', ht', e⟩ := YI8 e
  cases e
  refine FnAt.c (FnAt.run (by kernel_rfl) (T := ⟨[⟨61, X1L, fun _ => []⟩], []⟩) ⟨⟨qeV, trivial⟩, trivial⟩ Tryz.func120 KOo fun ho hh => ?_)
  simp only [qMC, JAX, Bool.and_eq_true] at ho
  have f1 := hs.fx ho.1.1 (sz := 1) rfl
  have f2 := ht.fx ho.1.2.1 (sz := 2) rfl
  have f3 := hs'.fx ho.2.1.1 (sz := 1) rfl
  have f4 := ht'.fx ho.2.1.2.1 (sz := 2) rfl
  unfold w120
  simp only [XH8, QN9, X1r, zVq, simprocAttr, f1, f2, f3, f4, X1L]
  exact ⟨fun q => Bt.dropI _ hh (by rw [if_neg q]), fun q => Bt.dropI _ hh (by rw [if_pos (Decidable.not_not.1 q)])⟩
 ·cases e
def YlY (v : List Int) (ds : Dots) (d : Int × Int) : Prop := (1 ≤ d.2 ∧ d.2 ≤ rAt v d.1) ∨ d ∈ ds
instance (v : List Int) (ds : Dots) (d : Int × Int) : Decidable (YlY v ds d) := by unfold YlY; infer_instance
noncomputable def XYt : List AV → List AB → Option (AV × List AB)
 | [.ag [s, t], .ag [.i .i64 a, .i .i64 b]], h => (getS intR h s).bind fun v => (getS dotR h t).bind fun ds => some (.b (decide (YlY v ds (a, b))), h)
 | _, _ => none
theorem Qvu : Spec Tryz.prog 116 XYt := by
 intro args h v h' e
 unfold XYt at e
 split at e
 ·rename_i s t a b
  obtain ⟨vs, hs, e⟩ := YI8 e
  obtain ⟨ds, ht, e⟩ := YI8 e
  cases e
  refine FnAt.c (FnAt.frz0 fun hz => ?_)
  replace hs := hs.frz
  replace ht := ht.frz
  generalize h.map AB.freeze = h at *
  refine FnAt.run (by kernel_rfl) (T := ⟨[⟨121, KoJ, fun _ => []⟩], []⟩) ⟨⟨Kcs, trivial⟩, trivial⟩ Tryz.func116 zcS fun ho hh => ?_
  simp only [qMC, JAX, Bool.and_eq_true] at ho
  have f1 := hs.fx ho.1.1 (sz := 1) rfl
  have f2 := ht.fx ho.1.2.1 (sz := 2) rfl
  have m2 := ht.2
  unfold maxLen at m2
  unfold w116
  have yes : (1 ≤ b ∧ b ≤ rAt vs a) → true = decide (YlY vs ds (a, b)) := fun q => (decide_eq_true (.inl q)).symm
  have eq2 : ∀ w : Int × Int, XWq [.i, .i] [.i .i64 w.1, .i .i64 w.2] [.i .i64 a, .i .i64 b] = some (decide (w = (a, b))) := fun w => eqc2 w (a, b)
  simp only [XH8, QN9, X1r, Z1D, zVq, simprocAttr, CO.tmps, Opd.tmps, optT, Nat.reducePow, Nat.reduceDiv, Nat.reduceMod, f1, f2, KoJ, QZp hz, QNE hh]
  refine ⟨fun q1 => ⟨fun q2 => Bt.dropB _ hh (yes ⟨q1, q2⟩), fun q2 => ?_⟩, fun q1 => ?_⟩
  ·have no : ¬ (1 ≤ b ∧ b ≤ rAt vs a) := fun q => q2 q.2
   refine YMr (S := Nat) (fun i => ds.length - i) (fun i => tp 2 ++ [.p (h.length + 0) 0, .p (h.length + 1) 0] ++ tp 1 ++ [.i .i64 i] ++ tp 26) (fun i => i ≤ ds.length ∧ (a, b) ∉ ds.take i) 0 ⟨Nat.zero_le _, by simp⟩ (by simp only [X1r, zVq, simprocAttr]) fun i hi => ?_
   simp only [X1r, zVq, simprocAttr, f1, f2]
   refine ⟨fun g5 => ?_, fun g5 => ?_⟩
   ·have e1 : IntKind.i64.wrap ((i : Int) + 1) = ((i + 1 : Nat) : Int) := ZL4 (by unfold In64; omega)
    simp only [X1r, Z1D, zVq, simprocAttr, CO.tmps, Opd.tmps, optT, Nat.reducePow, Nat.reduceDiv, Nat.reduceMod, f1, f2, g5, KdD, eq2, e1, QZp hz, QNE hh]
    refine ⟨fun g4 => Bt.dropB _ hh ?_, fun g4 => ⟨i + 1, ⟨g5, ?_⟩, by omega, Wk.refl _⟩⟩
    ·refine (decide_eq_true (.inr ?_)).symm
     rw [← g4, List.getD_eq_getElem?_getD, List.getElem?_eq_getElem g5]
     exact List.getElem_mem g5
    ·rw [List.take_succ_eq_append_getElem g5]
     rw [List.getD_eq_getElem?_getD, List.getElem?_eq_getElem g5, Option.getD_some] at g4
     exact fun q => (List.mem_append.1 q).elim hi.2 fun q => g4 (List.mem_singleton.1 q).symm
   ·refine Bt.dropB _ hh (decide_eq_false fun q => ?_).symm
    have := hi.2
    rw [List.take_of_length_le (by omega)] at this
    exact q.elim no this
  ·have no : ¬ (1 ≤ b ∧ b ≤ rAt vs a) := fun q => q1 q.1
   refine YMr (S := Nat) (fun i => ds.length - i) (fun i => tp 2 ++ [.p (h.length + 0) 0, .p (h.length + 1) 0] ++ tp 1 ++ [.i .i64 i] ++ tp 26) (fun i => i ≤ ds.length ∧ (a, b) ∉ ds.take i) 0 ⟨Nat.zero_le _, by simp⟩ (by simp only [X1r, zVq, simprocAttr]) fun i hi => ?_
   simp only [X1r, zVq, simprocAttr, f1, f2]
   refine ⟨fun g5 => ?_, fun g5 => ?_⟩
   ·have e1 : IntKind.i64.wrap ((i : Int) + 1) = ((i + 1 : Nat) : Int) := ZL4 (by unfold In64; omega)
    simp only [X1r, Z1D, zVq, simprocAttr, CO.tmps, Opd.tmps, optT, Nat.reducePow, Nat.reduceDiv, Nat.reduceMod, f1, f2, g5, KdD, eq2, e1, QZp hz, QNE hh]
    refine ⟨fun g4 => Bt.dropB _ hh ?_, fun g4 => ⟨i + 1, ⟨g5, ?_⟩, by omega, Wk.refl _⟩⟩
    ·refine (decide_eq_true (.inr ?_)).symm
     rw [← g4, List.getD_eq_getElem?_getD, List.getElem?_eq_getElem g5]
     exact List.getElem_mem g5
    ·rw [List.take_succ_eq_append_getElem g5]
     rw [List.getD_eq_getElem?_getD, List.getElem?_eq_getElem g5, Option.getD_some] at g4
     exact fun q => (List.mem_append.1 q).elim hi.2 fun q => g4 (List.mem_singleton.1 q).symm
   ·refine Bt.dropB _ hh (decide_eq_false fun q => ?_).symm
    have := hi.2
    rw [List.take_of_length_le (by omega)] at this
    exact q.elim no this
 ·cases e
noncomputable def zEW : List AV → List AB → Option (AV × List AB)
 | [.ag [s, t], .ag [.i .i64 a, .i .i64 b]], h => (getS intR h s).bind fun v => (getS dotR h t).bind fun ds => some (.b (decide (KXy v ds = 0 ∧ YlY v ds (a, b))), h)
 | _, _ => none
theorem QKM : Spec Tryz.prog 63 zEW := by
 intro args h v h' e
 unfold zEW at e
 split at e
 ·rename_i s t a b
  obtain ⟨vs, hs, e⟩ := YI8 e
  obtain ⟨ds, ht, e⟩ := YI8 e
  cases e
  refine FnAt.c (FnAt.run (by kernel_rfl) (T := ⟨[⟨61, X1L, fun _ => []⟩, ⟨116, XYt, fun _ => []⟩], []⟩) ⟨⟨qeV, Qvu, trivial⟩, trivial⟩ Tryz.func63 sw63 fun ho hh => ?_)
  simp only [qMC, JAX, Bool.and_eq_true] at ho
  have f1 := hs.fx ho.1.1 (sz := 1) rfl
  have f2 := ht.fx ho.1.2.1 (sz := 2) rfl
  unfold w63
  simp only [XH8, QN9, X1r, zVq, simprocAttr, f1, f2, X1L, XYt]
  refine ⟨fun q => Bt.dropB _ hh ?_, fun q => Bt.dropB _ hh ?_⟩
  ·simp only [q, true_and]
  ·simp only [q, false_and, decide_false]
 ·cases e
theorem Xgv {v : List Int} {ds : Dots} (h : KXy v ds = 0) : J6E v ds ∧ ds.length ≤ 4096 ∧ fmO v ds = (v, ds) := by
 unfold KXy at h
 split at h
 ·cases h
 ·rename_i h1
  split at h
  ·cases h
  ·rename_i h2
   split at h
   ·rename_i h3
    exact ⟨Decidable.not_not.1 h1, by omega, h3⟩
   ·cases h
end Go.Proofs.YtfaccliekejngaaGreat
end
section
namespace Go.Proofs.YtfaccliekejngaaGreat
set_option maxRecDepth 100000
set_option maxHeartbeats 4000000
theorem XNb (v : List Int) (h : ∀ n ∈ v, 0 ≤ n ∧ n ≤ 1048576) (r : Int) : 0 ≤ rAt v r ∧ rAt v r ≤ 1048576 := by
 unfold rAt
 split
 ·omega
 ·rw [List.getD_eq_getElem?_getD]
  cases e : v[(r - 1).toNat]? with
  | none => simp
  | some x => exact h x (List.mem_of_getElem? e)
end Go.Proofs.YtfaccliekejngaaGreat
end
