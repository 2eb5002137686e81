/- Part 17 of what the laws' proofs rest on. No condition. -/
import Derived.Test.YtfaccliekejngaaGreatOo16
set_option linter.all false
section
namespace Go.Proofs.YtfaccliekejngaaGreat
set_option maxRecDepth 100000
set_option maxHeartbeats 4000000
open Classical in
noncomputable def QG2 : List AV → List AB → Option (AV × List AB)
 | [s, .f (.func 119) [] []], h => (getS dotR h s).bind fun l => match idOf s with
   | [id] => if l.length ≤ 1000000 ∧ s = rsl dotR id l ∧ h[id]? = some (resB dotR true l) then some (.tu [], h.set id (resB dotR true (srtD l))) else none
   | _ => none
 | _, _ => none
def boxL : List AB → Nat → Option (AV × AV)
 | .blk false true [v, d] :: _, 0 => if v.isSl = true ∧ d.isSl = true then some (v, d) else none
 | _, 0 => none
 | [], _ => none
 | _ :: L, k + 1 => boxL L k
theorem QNt (v d : AV) (L : List AB) : boxL (.blk false true [v, d] :: L) 0 = if v.isSl = true ∧ d.isSl = true then some (v, d) else none := _root_.id rfl
theorem Y4t (B : AB) (L : List AB) (k : Nat) : boxL (B :: L) (k + 1) = boxL L k := by
 cases B with
 | blk fl m xs => cases fl <;> cases m <;> (match xs with | [] => rfl | [_] => rfl | [_, _] => rfl | _ :: _ :: _ :: _ => rfl)
 | _ => rfl
theorem Zgh : ∀ (L : List AB) (k : Nat), YU6 L k = boxL L k
 | [], k => by cases k <;> simp [YU6, boxL]
 | B :: L, 0 => by
  unfold YU6 boxL
  simp only [List.getElem?_cons_zero]
  split <;> split <;> simp_all
 | B :: L, k + 1 => by
  rw [Y4t, ← Zgh L k]
  unfold YU6
  simp only [List.getElem?_cons_succ]
theorem Kme (h L : List AB) (k : Nat) : YU6 (h ++ L) (h.length + k) = boxL L k := by
 rw [← Zgh]
 unfold YU6
 rw [List.getElem?_append_right (by omega), Nat.add_sub_cancel_left]
theorem XZt (h L : List AB) (k : Nat) (v d : AV) : bx2 (h ++ L) (h.length + k) v d = h ++ L.set k (.blk false true [v, d]) := by
 unfold bx2
 rw [List.set_append_right _ _ (by omega), Nat.add_sub_cancel_left]
theorem zw7 (h L : List AB) (k : Nat) : (h ++ L)[h.length + k]? = L[k]? := by rw [List.getElem?_append_right (by omega), Nat.add_sub_cancel_left]
noncomputable def Jpg : List AV → List AB → Option (AV × List AB)
 | [s, t], h => (getS intR h s).bind fun v => (getS dotR h t).bind fun ds => if ds.length ≤ 100000 then
   if J6E v ds then
    if (fmO v ds).2.length ≤ 4096 then some (.tu [.ag [rsl intR h.length (fmO v ds).1, rsl dotR (h.length + 1) (fmO v ds).2], .i .i64 0], h ++ [resB intR true (fmO v ds).1, resB dotR true (fmO v ds).2])
    else some (.tu [.ag [.ns, .ns], .i .i64 10], h)
   else some (.tu [.ag [.ns, .ns], .i .i64 3], h)
  else none
 | _, _ => none
theorem zmR {h L : List AB} {a b : Nat} {V : List Int} {D : Dots} {e : AV} {n : Nat} (hh : HOk h) (hn : n ≤ V.length) (he : e.ok (fun i => decide (i < h.length + 2)) = true) (hre : ∀ f, e.ren f = e) (hab : a ≠ b) (ha : L[a]? = some (resB intR true V)) (hb : L[b]? = some (resB dotR true D)) :
  Bt Tryz.prog h.length [.tu [.ag [cutS (rsl intR (h.length + a) V) n, apS dotR (h.length + b) D], e]] (h ++ L) [.tu [.ag [rsl intR h.length (V.take n), apS dotR (h.length + 1) D], e]] (h ++ [resB intR true (V.take n), resB dotR true D]) := by
 have s1 : Bt Tryz.prog h.length [.tu [.ag [cutS (rsl intR (h.length + a) V) n, apS dotR (h.length + b) D], e]] (h ++ L) [.tu [.ag [cutS (rsl intR (h.length + 0) V) n, apS dotR (h.length + 1) D], e]] (h ++ [resB intR true V, resB dotR true D]) := by
  refine Bt.sel [a, b] hh (by simp [hab]) (by simp only [BlkSel, ha, hb, YEP, Option.some.injEq, exists_eq_left', and_true]) ?_
  refine ⟨.inr ⟨?_, ?_⟩, trivial⟩
  ·simp only [AV.ok, okL, Bool.and_eq_true, Bool.and_true]
   exact ⟨⟨zdI _ _ _ (by simp), ZrU _ _ _ (by simp)⟩, he⟩
  ·simp only [AV.ren, renL, Zd6, zRa, hre]
   rw [Qo0, Qo0]
   exact Wk.refl _
 refine s1.trans ?_
 have s2 := Bt.take (P := Tryz.prog) (p := h.length) (fr := [.tu [.ag [cutS (rsl intR (h.length + 0) V) n, apS dotR (h.length + 1) D], e]]) (h := h ++ [resB intR true V, resB dotR true D]) (i := h.length + 0) (n := n) (m := true) (l := V) (by rw [zw7]; rfl) hn
 rw [List.set_append_right _ _ (by omega), Nat.add_sub_cancel_left] at s2
 refine s2.trans (Bt.wk ⟨?_, trivial⟩)
 intro ρ c hv
 cases hv with
 | tu l cs hl hv =>
  refine .tu _ cs hl fun j x c hx hc => ?_
  match j, hx with
  | 0, hx =>
   cases hx
   have h0 := hv 0 _ c rfl hc
   cases h0 with
   | ag l2 cs2 hl2 hv2 =>
    refine .ag _ cs2 hl2 fun j x c hx hc => ?_
    match j, hx with
    | 0, hx => cases hx; exact Znx (r := intR) _ hn _ _ (hv2 0 _ c rfl hc)
    | 1, hx => cases hx; exact hv2 1 _ c rfl hc
  | 1, hx => cases hx; exact hv 1 _ c rfl hc
theorem ZiY {h : List AB} {H : List AB} {V : AV} {id : Nat} {D : Dots} {e : AV} : Bt Tryz.prog h.length [.tu [.ag [V, apS dotR id D], e]] H [.tu [.ag [V, rsl dotR id D], e]] H := Bt.wk ⟨by
 intro ρ c hv
 cases hv with
 | tu l cs hl hv =>
  refine .tu _ cs hl fun j x c hx hc => ?_
  match j, hx with
  | 0, hx =>
   cases hx
   have h0 := hv 0 _ c rfl hc
   cases h0 with
   | ag l2 cs2 hl2 hv2 =>
    refine .ag _ cs2 hl2 fun j x c hx hc => ?_
    match j, hx with
    | 0, hx => cases hx; exact hv2 0 _ c rfl hc
    | 1, hx => cases hx; exact J2U (r := dotR) _ _ _ _ (hv2 1 _ c rfl hc)
  | 1, hx => cases hx; exact hv 1 _ c rfl hc, trivial⟩
theorem z6M {h L : List AB} {a b : Nat} {V : List Int} {D : Dots} {e : AV} {n : Nat} (hh : HOk h) (hn : n ≤ V.length) (he : e.ok (fun i => decide (i < h.length + 2)) = true) (hre : ∀ f, e.ren f = e) (hab : a ≠ b) (ha : L[a]? = some (resB intR true V)) (hb : L[b]? = some (resB dotR true D)) :
  Bt Tryz.prog h.length [.tu [.ag [cutS (rsl intR (h.length + a) V) n, apS dotR (h.length + b) D], e]] (h ++ L) [.tu [.ag [rsl intR h.length (V.take n), rsl dotR (h.length + 1) D], e]] (h ++ [resB intR true (V.take n), resB dotR true D]) := (zmR hh hn he hre hab ha hb).trans ZiY
theorem KR4 {v : List Int} {ds : Dots} (h : J6E v ds) : (∀ n ∈ qIk [] v, n ≤ 1048576) ∧ (qIk [] v).length ≤ 16 ∧ (∀ r, vAt (qIk [] v) r = vAt v r) := by
 refine ⟨fun n hn => ?_, by rw [z5S]; have := h.1; simp; omega, fun r => ?_⟩
 ·simp only [qIk, jn, List.mem_map, List.mem_range] at hn
  obtain ⟨i, _, rfl⟩ := hn
  rw [KbM]
  have := qfs v (fun n hn => (h.2.1 n hn).2) ((i + 1 : Nat) : Int)
  omega
 ·rw [qvy, KbM]
  have := KJL v r
  omega
theorem zSD : ∀ (l : Dots) (s : AbS), (absR s l).1.length ≤ max s.1.length 16 ∧ (absR s l).2.length ≤ s.2.length + l.length
 | [], s => ⟨by simp only [absR, List.foldl_nil]; omega, by simp only [absR, List.foldl_nil]; omega⟩
 | d :: l, s => by
  have h1 := QJC s d
  have h2 := zSD l (absD s d)
  simp only [absR, List.foldl_cons, List.length_cons] at h2 ⊢
  omega
theorem Jqi (hS : Spec Tryz.prog 118 QG2) : Spec Tryz.prog 71 Jpg := by
 intro args h v h' e
 unfold Jpg at e
 split at e
 ·rename_i s t
  obtain ⟨vs, hs, e⟩ := YI8 e
  obtain ⟨ds, ht, e⟩ := YI8 e
  split at e
  ·rename_i hl
   by_cases hr : J6E vs ds
   ·rw [if_pos hr] at e
    have gr : J6E vs ds = True := eq_true hr
    obtain ⟨n1, n2, n3⟩ := KR4 hr
    have hfm := QXY (x := qIk [] vs) (ds := ds) hr n2 (KDU [] vs) n3
    have l16 := hr.1
    have gd : ∀ d ∈ srtD ds, KG5 d := fun d hd => hr.2.2 d ((Qlc ds d).1 hd)
    have gc : ((qIk [] vs).length ≤ 100000 ∧ (srtD ds).length ≤ 100000 ∧ (∀ n ∈ qIk [] vs, n ≤ 1048576) ∧ ∀ d ∈ srtD ds, KG5 d) = True := eq_true ⟨by omega, by rw [Q0e]; exact hl, n1, gd⟩
    have g1 : (ds.length ≤ 1000000) = True := eq_true (by omega)
    have g2 : (vs.length ≤ 1000000) = True := eq_true (by omega)
    have g3 : (ds.length ≤ maxLen) = True := eq_true (by unfold maxLen; omega)
    have g4 : ((srtD ds).length ≤ maxLen) = True := eq_true (by rw [Q0e]; unfold maxLen; omega)
    have g5 : ((qIk [] vs).length ≤ maxLen) = True := eq_true (by unfold maxLen; omega)
    have hfm1 : (fmO vs ds).1 = (absR (qIk [] vs, []) (srtD ds)).1.take (topI (absR (qIk [] vs, []) (srtD ds)).1 (absR (qIk [] vs, []) (srtD ds)).1.length) := by
     rw [← hfm]
     exact X0i _ _ (Nat.le_refl _)
    have hfm2 : (fmO vs ds).2 = (absR (qIk [] vs, []) (srtD ds)).2 := by rw [← hfm]; rfl
    have htr := X0i (absR (qIk [] vs, []) (srtD ds)).1 (absR (qIk [] vs, []) (srtD ds)).1.length (Nat.le_refl _)
    have hti := ZGW (absR (qIk [] vs, []) (srtD ds)).1 (absR (qIk [] vs, []) (srtD ds)).1.length
    rw [hfm1, hfm2] at e
    have g0 : (([] : List Int).length ≤ 1000000) = True := eq_true (Nat.zero_le _)
    have gsr : ∀ id, rsl dotR id ds = rsl dotR id (srtD ds) := fun id => by unfold rsl; rw [Q0e]
    have gA : ((absR (qIk [] vs, []) (srtD ds)).1.length ≤ maxLen) = True := eq_true (by have := (zSD (srtD ds) (qIk [] vs, [])).1; simp only at this; unfold maxLen; omega)
    have gB : ((absR (qIk [] vs, []) (srtD ds)).2.length ≤ maxLen) = True := eq_true (by have := (zSD (srtD ds) (qIk [] vs, [])).2; rw [Q0e] at this; simp only [List.length_nil] at this; unfold maxLen; omega)
    have hlen : (K29 (absR (qIk [] vs, []) (srtD ds)).1 (absR (qIk [] vs, []) (srtD ds)).1.length).length = topI (absR (qIk [] vs, []) (srtD ds)).1 (absR (qIk [] vs, []) (srtD ds)).1.length := by
     rw [htr, List.length_take]
     omega
    have FA : FnAt Tryz.prog 71 [s, t] h v h' := by
     refine FnAt.run (by kernel_rfl) (T := ⟨[⟨92, Qhe, fun _ => []⟩, ⟨72, JWl, fun _ => []⟩, ⟨118, QG2, fun _ => []⟩, ⟨101, qzP, fun _ => []⟩, ⟨102, Z5V, fun _ => []⟩, ⟨103, qMN, fun _ => []⟩, ⟨104, XvB, fun _ => []⟩], []⟩) ⟨⟨Qq7, qw8, hS, ZXC, Xxp, Xpz, Y1e, trivial⟩, trivial⟩ Tryz.func71 sw71 fun ho hh => ?_
     simp only [qMC, JAX, Bool.and_eq_true] at ho
     have f1 := hs.fx ho.1 (sz := 1) rfl
     have f2 := ht.fx ho.2.1 (sz := 2) rfl
     unfold w71
     by_cases hq : (absR (qIk [] vs, []) (srtD ds)).1 = qIk [] vs
     ·have gq := eq_true hq
      simp only [XH8, QN9, X1r, zVq, simprocAttr, f1, f2, Qhe, gr, JWl, QG2, qzP, g1, g2, g3, g4, g5, gc, gq, gA, gB, g0, Kme, QNt, Y4t, XZt, zw7, XPg, QV1, zoL, AV.isNs, KGT, nsSl, Z45]
      simp only [X1r, zVq, simprocAttr, gsr, Z5V, qMN, XvB, g1, g2, g3, g4, g5, gc, gq, gA, gB, Kme, QNt, Y4t, XZt, zw7, XPg, QV1, zoL, AV.isNs, KGT, nsSl, Z45]
      refine ⟨fun q => q.elim, ?_⟩
      by_cases h6 : (fmO vs ds).2.length ≤ 4096
      ·have g6 : ((4096 : Int) < ((absR (qIk [] vs, []) (srtD ds)).2.length : Int)) = False := eq_false (by rw [← hfm2]; omega)
       rw [hfm2] at h6
       rw [if_pos h6] at e
       cases e
       simp only [X1r, zVq, simprocAttr, g6, Qrq, Xev, KZm]
       rw [hq] at hlen hti ⊢
       rw [hlen]
       refine z6M (a := 3) (b := 4) hh hti ?_ (fun _ => ?_) (by decide) ?_ ?_ <;> rfl
      ·have g6 : ((4096 : Int) < ((absR (qIk [] vs, []) (srtD ds)).2.length : Int)) = True := eq_true (by rw [← hfm2]; omega)
       rw [hfm2] at h6
       rw [if_neg h6] at e
       cases e
       simp only [X1r, zVq, simprocAttr, g6, Qrq, Xev, KZm]
       exact Bt.drop _ hh rfl (by simp [AV.ok, okL])
     ·have gq := eq_false hq
      simp only [XH8, QN9, X1r, zVq, simprocAttr, f1, f2, Qhe, gr, JWl, QG2, qzP, g1, g2, g3, g4, g5, gc, gq, gA, gB, g0, Kme, QNt, Y4t, XZt, zw7, XPg, QV1, zoL, AV.isNs, KGT, nsSl, Z45]
      simp only [X1r, zVq, simprocAttr, gsr, Z5V, qMN, XvB, g1, g2, g3, g4, g5, gc, gq, gA, gB, Kme, QNt, Y4t, XZt, zw7, XPg, QV1, zoL, AV.isNs, KGT, nsSl, Z45]
      refine ⟨fun q => q.elim, ?_⟩
      by_cases h6 : (fmO vs ds).2.length ≤ 4096
      ·have g6 : ((4096 : Int) < ((absR (qIk [] vs, []) (srtD ds)).2.length : Int)) = False := eq_false (by rw [← hfm2]; omega)
       rw [hfm2] at h6
       rw [if_pos h6] at e
       cases e
       simp only [X1r, zVq, simprocAttr, g6, Qrq, Xev, KZm]
       rw [hlen]
       refine z6M (a := 4) (b := 5) hh hti ?_ (fun _ => ?_) (by decide) ?_ ?_ <;> rfl
      ·have g6 : ((4096 : Int) < ((absR (qIk [] vs, []) (srtD ds)).2.length : Int)) = True := eq_true (by rw [← hfm2]; omega)
       rw [hfm2] at h6
       rw [if_neg h6] at e
       cases e
       simp only [X1r, zVq, simprocAttr, g6, Qrq, Xev, KZm]
       exact Bt.drop _ hh rfl (by simp [AV.ok, okL])
    exact FA.c
   ·rw [if_neg hr] at e
    have gr : J6E vs ds = False := eq_false hr
    cases e
    refine FnAt.c (FnAt.run (by kernel_rfl) (T := ⟨[⟨92, Qhe, fun _ => []⟩], []⟩) ⟨⟨Qq7, trivial⟩, trivial⟩ Tryz.func71 sw71 fun ho hh => ?_)
    simp only [qMC, JAX, Bool.and_eq_true] at ho
    have f1 := hs.fx ho.1 (sz := 1) rfl
    have f2 := ht.fx ho.2.1 (sz := 2) rfl
    unfold w71
    simp only [XH8, QN9, X1r, zVq, simprocAttr, f1, f2, Qhe, gr]
    exact ⟨Bt.drop _ hh rfl (by simp [AV.ok, okL]), fun q => q⟩
  ·cases e
 ·cases e
end Go.Proofs.YtfaccliekejngaaGreat
end
section
namespace Go.Proofs.YtfaccliekejngaaGreat
section
variable {α : Type} {r : Row α} {h l : List AB}
def mskQ (base c anc : Nat) (past : List Pt) (l : List AB) : List AB := mskL base c anc past [] 0 l
def vis (base c anc : Nat) (past : List Pt) (k : Nat) : Bool := decide (k < c) || past.any (fun p => bit p.k anc && decide (p.lo ≤ base + k) && decide (base + k < p.hi))
theorem KhV (base c anc : Nat) (past : List Pt) (k : Nat) : qOk (base + c) 0 0 anc past (base + k) = vis base c anc past k := by
 rw [znw]
 unfold vis
 have e1 : decide (base + k < base + c) = decide (k < c) := decide_eq_decide.2 (by omega)
 have e2 : decide (base + k < 0) = false := decide_eq_false (by omega)
 rw [e1, e2, Bool.and_false, Bool.or_false]
theorem Yzw (base c anc : Nat) (past : List Pt) (l : List AB) (k : Nat) : (mskQ base c anc past l)[k]? = (l[k]?).map fun B => if vis base c anc past k = true then B.freeze else .dead := by
 unfold mskQ
 rw [Qh9, Nat.zero_add]
 congr 1
 funext B
 rw [KhV]
 simp [zIb]
theorem Juu (base c anc : Nat) (past : List Pt) (l : List AB) : (mskQ base c anc past l).length = l.length := by
 rcases Nat.lt_trichotomy (mskQ base c anc past l).length l.length with q | q | q
 ·have := Yzw base c anc past l (mskQ base c anc past l).length
  rw [List.getElem?_eq_none (Nat.le_refl _), List.getElem?_eq_getElem q] at this
  cases this
 ·exact q
 ·have := Yzw base c anc past l l.length
  rw [List.getElem?_eq_none (Nat.le_refl _), List.getElem?_eq_getElem q] at this
  cases this
theorem ZAO (L : List AB) (k : Nat) : ownC L k = match L[k]? with
  | some (.blk _ _ xs) => some xs
  | _ => none := by rw [← JoM]; rfl
theorem Z31 {base c anc : Nat} {past : List Pt} {k : Nat} (hv : vis base c anc past k = true) : ownC (mskQ base c anc past l) k = ownC l k := by
 rw [ZAO, ZAO, Yzw]
 cases l[k]? with
 | none => rfl
 | some B => simp only [Option.map_some, hv, if_true]; cases B <;> rfl
theorem Y7h {base c anc : Nat} {past : List Pt} {k : Nat} (hv : vis base c anc past k = true) : bxL (mskQ base c anc past l) k = bxL l k := by
 rw [← ZdW, ← ZdW]
 unfold bxS
 rw [Yzw]
 cases l[k]? with
 | none => rfl
 | some B =>
  simp only [Option.map_some, hv, if_true]
  cases B with
  | blk fl m xs => cases fl <;> (cases xs with | nil => rfl | cons a t => cases t <;> rfl)
  | _ => rfl
theorem zeu (x : List α) : ∀ (L : List AB) (k : Nat), ownR r x L k ↔ ∃ m, L[k]? = some (resB r m x)
 | [], k => by simp [ownR]
 | B :: L, 0 => by simp [ownR]
 | B :: L, k + 1 => by simpa [ownR] using zeu x L k
theorem Yek {base c anc : Nat} {past : List Pt} {k : Nat} (x : List α) (hv : vis base c anc past k = true) (hr : ownR r x l k) : ownR r x (mskQ base c anc past l) k = True := by
 refine eq_true ?_
 rw [zeu] at hr ⊢
 obtain ⟨m, e⟩ := hr
 exact ⟨false, by rw [Yzw, e, Option.map_some, if_pos hv, Q7O]⟩
theorem K9V (hz : h.map AB.freeze = h) (c anc n : Nat) (past : List Pt) (l : List AB) (hn : n = h.length + l.length) : QHx (seen (h.length + c) anc past n) [] 0 (h ++ l) = h ++ mskQ h.length c anc past l := QZp hz c anc n past [] l hn rfl
theorem Ksi (hz : h.map AB.freeze = h) (anc n : Nat) (past : List Pt) (l : List AB) (hn : n = h.length + l.length) : QHx (seen h.length anc past n) [] 0 (h ++ l) = h ++ mskQ h.length 0 anc past l := QZp hz 0 anc n past [] l hn rfl
theorem QFK (hz : h.map AB.freeze = h) (c anc n : Nat) (past : List Pt) (w0 : Nat) (ws : List Nat) (l : List AB) (hn : n = h.length + l.length) (hw : ((w0 :: ws).all fun id => decide (h.length ≤ id)) = true) : QHx (seen (h.length + c) anc past n) (w0 :: ws) 0 (h ++ l) = h ++ mskL h.length c anc past (w0 :: ws) 0 l := QZp hz c anc n past (w0 :: ws) l hn hw
theorem XGM (G x l : List AB) (hG : G.length = l.length) : Xxu [] (h ++ (G ++ x)) 0 (h ++ l) = h ++ (l ++ x) := by
 rw [JUJ [] (G ++ x) l rfl]
 congr 1
 refine List.ext_getElem? fun j => ?_
 rw [Zyq]
 by_cases hj : j < l.length
 ·rw [if_pos hj, if_neg (by simp), List.getElem?_append_left hj]
 ·rw [if_neg hj, List.getElem?_append_right (by omega), List.getElem?_append_right (by omega), hG]
def qP (anc : Nat) : List Pt → Nat → Bool
 | [], _ => false
 | ⟨k, lo, hi, _, _⟩ :: l, id => if lo ≤ id ∧ id < hi then (if anc / 2 ^ k % 2 = 1 then true else qP anc l id) else qP anc l id
theorem QPW (anc id : Nat) : qP anc [] id = false := _root_.id rfl
theorem qy2 (anc k lo hi : Nat) (rs ws : List Nat) (l : List Pt) (id : Nat) : qP anc (⟨k, lo, hi, rs, ws⟩ :: l) id = if lo ≤ id ∧ id < hi then (if anc / 2 ^ k % 2 = 1 then true else qP anc l id) else qP anc l id := _root_.id rfl
theorem J7L (anc id : Nat) : ∀ past : List Pt, qP anc past id = past.any fun p => bit p.k anc && decide (p.lo ≤ id) && decide (id < p.hi)
 | [] => rfl
 | ⟨k, lo, hi, rs, ws⟩ :: l => by
  rw [qy2, List.any_cons, J7L anc id l, qIi]
  by_cases h1 : lo ≤ id <;> by_cases h2 : id < hi <;> by_cases h3 : anc / 2 ^ k % 2 = 1 <;> simp [h1, h2, h3]
theorem Yn7 (len0 lo hi anc : Nat) (past : List Pt) (id : Nat) : qOk len0 lo hi anc past id = if id < len0 then true else if lo ≤ id ∧ id < hi then true else qP anc past id := by
 rw [znw, J7L]
 by_cases h1 : id < len0 <;> by_cases h2 : lo ≤ id <;> by_cases h3 : id < hi <;> simp [h1, h2, h3]
theorem ZIx (base c anc : Nat) (past : List Pt) (k : Nat) : vis base c anc past k = if k < c then true else qP anc past (base + k) := by
 unfold vis
 rw [J7L]
 by_cases h1 : k < c <;> simp [h1]
def sepA (anc lo hi : Nat) : List Pt → Bool
 | [] => true
 | ⟨k, lo', hi', _, _⟩ :: l => if hi' ≤ lo ∨ hi ≤ lo' then sepA anc lo hi l else if anc / 2 ^ k % 2 = 1 then false else sepA anc lo hi l
theorem XS7 (anc lo hi : Nat) : sepA anc lo hi [] = true := _root_.id rfl
theorem KMA (anc lo hi k lo' hi' : Nat) (rs ws : List Nat) (l : List Pt) : sepA anc lo hi (⟨k, lo', hi', rs, ws⟩ :: l) = if hi' ≤ lo ∨ hi ≤ lo' then sepA anc lo hi l else if anc / 2 ^ k % 2 = 1 then false else sepA anc lo hi l := _root_.id rfl
theorem Yer (anc lo hi : Nat) : ∀ past : List Pt, sepA anc lo hi past = past.all fun p' => !bit p'.k anc || decide (p'.hi ≤ lo) || decide (hi ≤ p'.lo)
 | [] => rfl
 | ⟨k, lo', hi', rs, ws⟩ :: l => by
  rw [KMA, List.all_cons, Yer anc lo hi l, qIi]
  by_cases h1 : hi' ≤ lo <;> by_cases h2 : hi ≤ lo' <;> by_cases h3 : anc / 2 ^ k % 2 = 1 <;> simp [h1, h2, h3]
def indA (len0 anc : Nat) (past0 : List Pt) (ws0 : List Nat) : List Pt → Bool
 | [] => true
 | ⟨k, lo, hi, rs, ws⟩ :: l => if anc / 2 ^ k % 2 = 1 then indA len0 anc past0 ws0 l else
   if (ws.all fun id => !qOk len0 0 0 anc past0 id) = true then
    if hi ≤ lo ∨ (len0 ≤ lo ∧ sepA anc lo hi past0 = true) then
     if (ws0.all fun id => !YXF ⟨k, lo, hi, rs, ws⟩ id && !memN id (rs ++ ws)) = true then indA len0 anc past0 ws0 l else false
    else false
   else false
theorem X4C (len0 anc : Nat) (past0 : List Pt) (ws0 : List Nat) : indA len0 anc past0 ws0 [] = true := _root_.id rfl
theorem qK5 (len0 anc : Nat) (past0 : List Pt) (ws0 : List Nat) (k lo hi : Nat) (rs ws : List Nat) (l : List Pt) : indA len0 anc past0 ws0 (⟨k, lo, hi, rs, ws⟩ :: l) = if anc / 2 ^ k % 2 = 1 then indA len0 anc past0 ws0 l else
      if (ws.all fun id => !qOk len0 0 0 anc past0 id) = true then
        if hi ≤ lo ∨ (len0 ≤ lo ∧ sepA anc lo hi past0 = true) then
          if (ws0.all fun id => !YXF ⟨k, lo, hi, rs, ws⟩ id && !memN id (rs ++ ws)) = true then indA len0 anc past0 ws0 l else false
        else false
      else false := _root_.id rfl
theorem ZRZ (len0 anc : Nat) (past0 : List Pt) (ws0 : List Nat) : ∀ past : List Pt, past.all (QPe len0 anc past0 ws0) = indA len0 anc past0 ws0 past
 | [] => rfl
 | ⟨k, lo, hi, rs, ws⟩ :: l => by
  rw [qK5, List.all_cons, ZRZ len0 anc past0 ws0 l, KdC, Yer, qIi]
  by_cases h1 : anc / 2 ^ k % 2 = 1
  ·simp [h1]
  ·simp only [h1, decide_false, Bool.false_or, if_false]
   generalize (ws.all fun id => !qOk len0 0 0 anc past0 id) = a
   generalize (past0.all fun p' => !bit p'.k anc || decide (p'.hi ≤ lo) || decide (hi ≤ p'.lo)) = b
   generalize (ws0.all fun id => !YXF ⟨k, lo, hi, rs, ws⟩ id && !memN id (rs ++ ws)) = e
   by_cases h2 : hi ≤ lo <;> by_cases h3 : len0 ≤ lo <;> cases a <;> cases b <;> cases e <;> simp [h2, h3]
def indL (anc : Nat) (rs : List Nat) : List Pt → Bool
 | [] => true
 | ⟨k, lo, hi, rs', ws⟩ :: l => if anc / 2 ^ k % 2 = 1 then indL anc rs l else
   if (rs.all fun id => !YXF ⟨k, lo, hi, rs', ws⟩ id) = true then indL anc rs l else false
theorem zKY (anc : Nat) (rs : List Nat) : indL anc rs [] = true := _root_.id rfl
theorem XiU (anc : Nat) (rs : List Nat) (k lo hi : Nat) (rs' ws : List Nat) (l : List Pt) : indL anc rs (⟨k, lo, hi, rs', ws⟩ :: l) = if anc / 2 ^ k % 2 = 1 then indL anc rs l else
      if (rs.all fun id => !YXF ⟨k, lo, hi, rs', ws⟩ id) = true then indL anc rs l else false := _root_.id rfl
theorem zjG (anc : Nat) (rs : List Nat) : ∀ past : List Pt, past.all (YFV anc rs []) = indL anc rs past
 | [] => rfl
 | ⟨k, lo, hi, rs', ws⟩ :: l => by
  rw [XiU, List.all_cons, zjG anc rs l]
  unfold YFV
  rw [qIi, List.append_nil]
  by_cases h1 : anc / 2 ^ k % 2 = 1
  ·simp [h1]
  ·simp only [h1, decide_false, if_false, List.all_nil, Bool.and_true, Bool.false_eq_true]
   generalize (rs.all fun id => !YXF ⟨k, lo, hi, rs', ws⟩ id) = a
   cases a <;> simp
variable {c : Ctx} {k : List IT} {fr : List AV} {len0 n anc : Nat} {past : List Pt} {d : Option Nat} {ops : List DOp}
theorem Jbi (w0 : Nat) (ws : List Nat) (vs : List AV) (v : AV) (G : List AB) : W c (.dmk (w0 :: ws) vs (some (v, G)) len0 n anc past d ops :: k) fr h = (okL (fun i => decide (i < h.length)) vs = true ∧ HOk h ∧ indA len0 anc past (w0 :: ws) past = true ∧ ((w0 :: ws).all fun id => decide (id < h.length)) = true ∧ h.length ≤ G.length ∧ v.ok (qOk len0 h.length G.length anc past) = true ∧
      ((w0 :: ws).all fun id => (G.getD id .dead).ok (qOk len0 h.length G.length anc past)) = true ∧ ((G.drop h.length).all fun B => B.ok (qOk len0 h.length G.length anc past)) = true ∧
      W c (.drw len0 (n + 1) (⟨n, h.length, G.length, seen len0 anc (JAW past) h.length, w0 :: ws⟩ :: past) ops :: k) (put fr d v) (Xxu (w0 :: ws) G 0 h)) := by
  rw [← ZRZ]
  exact quK (w0 :: ws) vs v G
theorem q2c (vs : List AV) (v : AV) (c0 anc' : Nat) (past' : List Pt) (x : List AB) : W c (.dmk [] vs (some (v, h ++ (mskQ h.length c0 anc' past' l ++ x))) len0 n anc past d ops :: k) fr (h ++ l) = (okL (fun i => decide (i < h.length + l.length)) vs = true ∧ HOk (h ++ l) ∧ indA len0 anc past [] past = true ∧ v.ok (qOk len0 (h.length + l.length) (h.length + (l.length + x.length)) anc past) = true ∧
      (x.all fun B => B.ok (qOk len0 (h.length + l.length) (h.length + (l.length + x.length)) anc past)) = true ∧
      W c (.drw len0 (n + 1) (⟨n, h.length + l.length, h.length + (l.length + x.length), seen len0 anc (JAW past) (h.length + l.length), []⟩ :: past) ops :: k) (put fr d v) (h ++ (l ++ x))) := by
  rw [← ZRZ, quK, XGM _ _ _ (Juu _ _ _ _ _)]
  have e1 : (h ++ l).length = h.length + l.length := List.length_append
  have e2 : (h ++ (mskQ h.length c0 anc' past' l ++ x)).length = h.length + (l.length + x.length) := by rw [List.length_append, List.length_append, Juu]
  have e3 : (h ++ (mskQ h.length c0 anc' past' l ++ x)).drop (h ++ l).length = x := by
    rw [e1, ZIs, List.drop_append_of_le_length (by rw [Juu]; exact Nat.le_refl _), List.drop_eq_nil_of_le (by rw [Juu]; exact Nat.le_refl _), List.nil_append]
  rw [e3, e2, e1]
  have e4 : (h.length + l.length ≤ h.length + (l.length + x.length)) = True := eq_true (by omega)
  simp only [List.all_nil, e4, true_and]
theorem JDl (vs : List AV) (v : AV) (c0 anc' : Nat) (past' : List Pt) : W c (.dmk [] vs (some (v, h ++ mskQ h.length c0 anc' past' l)) len0 n anc past d ops :: k) fr (h ++ l) = (okL (fun i => decide (i < h.length + l.length)) vs = true ∧ HOk (h ++ l) ∧ indA len0 anc past [] past = true ∧ v.ok (qOk len0 (h.length + l.length) (h.length + l.length) anc past) = true ∧
      W c (.drw len0 (n + 1) (⟨n, h.length + l.length, h.length + l.length, seen len0 anc (JAW past) (h.length + l.length), []⟩ :: past) ops :: k) (put fr d v) (h ++ l)) := by
  have := q2c (c := c) (k := k) (fr := fr) (len0 := len0) (n := n) (anc := anc) (past := past) (d := d) (ops := ops) (h := h) (l := l) vs v c0 anc' past' []
  simpa only [List.append_nil, List.length_nil, Nat.add_zero, List.all_nil, true_and] using this
theorem qtE (v : AV) (h' : List AB) (x : AV) : W c (.dld (some (v, h')) x len0 n anc past d ops :: k) fr h = ((if indA len0 anc past [] past = true then True else indL anc (idOf x) past = true) ∧ x.ok (qOk len0 0 0 anc past) = true ∧ v.ok (qOk len0 0 0 anc past) = true ∧ W c (.drw len0 (n + 1) (⟨n, 0, 0, idOf x, []⟩ :: past) ops :: k) (put fr d v) h) := by
 rw [← ZRZ, ← zjG]
 exact Qyu v h' x
theorem qPj {n : Nat} (h : n ≤ 1000000) : (n ≤ maxLen) = True := eq_true (by unfold maxLen; omega)
end
def X5W := (And.intro (And.intro (And.intro (And.intro (And.intro (And.intro (And.intro @q6L @qao) (And.intro @KLS @Jsy)) (And.intro (And.intro @ZH6 @ZRb) (And.intro @KDT (And.intro @qph @QNL)))) (And.intro (And.intro (And.intro @QDy @Q1z) (And.intro @ZXF (And.intro @Y1o @qS0))) (And.intro (And.intro @zPG @QkC) (And.intro @qX2 (And.intro @YZL @qtE))))) (And.intro (And.intro (And.intro (And.intro @XyI @XnF) (And.intro @K5J @qbK)) (And.intro (And.intro @JTX @QE7) (And.intro @qwE (And.intro @Kvj @Yhy)))) (And.intro (And.intro (And.intro @KBZ @Kmx) (And.intro @q3C (And.intro @z6w @zv8))) (And.intro (And.intro @XCb @zZB) (And.intro @J18 (And.intro @Qbd @qJV)))))) (And.intro (And.intro (And.intro (And.intro (And.intro @JLb @K55) (And.intro @X1F @Y3P)) (And.intro (And.intro @Zu1 @XWG) (And.intro @XpA (And.intro @Qpp @zgD)))) (And.intro (And.intro (And.intro @YRC @qkQ) (And.intro @qnJ (And.intro @XEO @KGo))) (And.intro (And.intro @XY5 @Ylq) (And.intro @K03 (And.intro @YLV @ZW8))))) (And.intro (And.intro (And.intro (And.intro @qWM @Jjm) (And.intro @J8K (And.intro @ZiE @zIb))) (And.intro (And.intro @KdN @qfU) (And.intro @KzT (And.intro @qN2 @Zf5)))) (And.intro (And.intro (And.intro @JnB @XfZ) (And.intro @qjX (And.intro @JQR @QHy))) (And.intro (And.intro @Zjq @Zrb) (And.intro @XnY (And.intro @Jsj @ZnY))))))) (And.intro (And.intro (And.intro (And.intro (And.intro (And.intro @ok_i @ok_b) (And.intro @ok_s @Yiy)) (And.intro (And.intro @qj1 @K30) (And.intro @ok_p (And.intro @ok_y @q5T)))) (And.intro (And.intro (And.intro @ok_f @JAX) (And.intro @ZVg (And.intro @YI0 @qMC))) (And.intro (And.intro @YeG @JRH) (And.intro @KNH (And.intro @JpE @Qsg))))) (And.intro (And.intro (And.intro (And.intro @JbI @qiT) (And.intro @YNo (And.intro @any_cons @zoY))) (And.intro (And.intro @YWg @Ys6) (And.intro @K90 (And.intro @JZs @YFp)))) (And.intro (And.intro (And.intro @Jat @YpS) (And.intro @YAx (And.intro @KED @Tab.ws_nil))) (And.intro (And.intro @Tab.ws_cons @decide_true) (And.intro @decide_false (And.intro @Bool.or_true @Bool.or_false)))))) (And.intro (And.intro (And.intro (And.intro (And.intro @Bool.true_or @Bool.false_or) (And.intro @Bool.not_true @Bool.not_false)) (And.intro (And.intro @KSA @XNG) (And.intro @ZyD (And.intro @Z97 @z1G)))) (And.intro (And.intro (And.intro @qbd @Zh9) (And.intro @Kwt (And.intro @ZrU @XPg))) (And.intro (And.intro @Jbi @q2c) (And.intro @JDl (And.intro @Z31 @Y7h))))) (And.intro (And.intro (And.intro (And.intro @Yek @Juu) (And.intro @ZIx (And.intro @QPW @qy2))) (And.intro (And.intro @Yn7 @XS7) (And.intro @KMA (And.intro @X4C @qK5)))) (And.intro (And.intro (And.intro @zKY @XiU) (And.intro @and_self (And.intro @false_and @and_false))) (And.intro (And.intro @or_true @true_or) (And.intro @false_or (And.intro @or_false @qPj))))))))
end Go.Proofs.YtfaccliekejngaaGreat
end
section
namespace Go.Proofs.YtfaccliekejngaaGreat
open Go.RowKit
def AV.val : AV → Value
 | .b t => .bool t
 | .i k n => .int k n
 | .s l => .string ⟨l.toArray⟩
 | _ => undef
def AV.fl : AV → Bool
 | .b _ | .i _ _ | .s _ => true
 | _ => false
theorem QSs (ρ : Mp) {a : AV} (h : a.fl = true) : VR ρ a a.val := by
 cases a <;> first | (cases h; done) | skip
 ·exact .b _
 ·exact .i _ _
 ·exact .s _ _ rfl
theorem Xjg {ρ : Mp} {a : AV} {v : Value} (h : a.fl = true) (e : VR ρ a v) : v = a.val := by
 cases a <;> first | (cases h; done) | skip
 ·cases e; rfl
 ·cases e; rfl
 ·cases e with
  | s l bs hb => subst hb; rfl
theorem qJ6 (ρ : Mp) : ∀ (l : List AV), (∀ a ∈ l, a.fl = true) → VL ρ l (l.map AV.val).toArray
 | [], _ => VL.nil ρ
 | a :: l, h => VL.cons (QSs ρ (h a (.head _))) (qJ6 ρ l fun b hb => h b (.tail _ hb))
theorem Y5G {ρ : Mp} {l : List AV} {cs : Array Value} (h : VL ρ l cs) : VR ρ (.ag l) (.agg cs) := .ag l cs h.1 h.2
structure In (K : Code → CC → Prop) (ρ : Mp) (h : List AB) (w : World) : Prop where
 rel : Rel K ρ h w
 frz : ∀ B ∈ h, B.mut = false
variable {K : Code → CC → Prop} {ρ : Mp} {h : List AB} {w : World}
theorem In.nil (w : World) : In K [] [] w := ⟨⟨rfl, fun i B b o n h => by simp at h, fun i j bi oi bj oj Bi Bj _ h => by simp at h⟩, fun B h => by simp at h⟩
theorem In.push (r : In K ρ h w) {B : AB} {b o n : Nat} (hm : B.mut = false) (hB : BR K (ρ ++ [(b, o, n)]) w b o n B) : In K (ρ ++ [(b, o, n)]) (h ++ [B]) w := by
 have hf : ∀ C ∈ h ++ [B], C.mut = false := fun C hC => by
  rcases List.mem_append.1 hC with q | q
  ·exact r.frz C q
  ·rw [List.mem_singleton.1 q]; exact hm
 refine ⟨⟨by simp [r.rel.len], fun i C b' o' n' h1 h2 => ?_, fun i j bi oi bj oj Bi Bj _ h1 _ _ _ hm' _ => ?_⟩, hf⟩
 ·by_cases hi : i < h.length
  ·rw [List.getElem?_append_left hi] at h1
   rw [List.getElem?_append_left (by rw [r.rel.len]; exact hi)] at h2
   exact (r.rel.blk i C b' o' n' h1 h2).same (Ext.push _ _) fun _ => rfl
  ·have hlt := (List.getElem?_eq_some_iff.1 h1).1
   rw [List.length_append, List.length_singleton] at hlt
   have : i = h.length := by omega
   subst this
   rw [List.getElem?_append_right (Nat.le_refl _), Nat.sub_self] at h1
   rw [List.getElem?_append_right (by rw [r.rel.len]; exact Nat.le_refl _), r.rel.len, Nat.sub_self] at h2
   cases h1
   cases h2
   exact hB
 ·rw [hf Bi (List.mem_of_getElem? h1)] at hm'
  cases hm'
theorem In.slice {α : Type} {r : Row α} (i : In K ρ h w) {v : Value} {l : List α} (hfl : ∀ x, ∀ a ∈ r.f x, a.fl = true) (hs : Sl w v l.length ((r.cells l).map AV.val)) :
  l.length ≤ maxLen ∧ ∃ x, In K (ρ ++ [x]) (h ++ [resB r false l]) w ∧ VR (ρ ++ [x]) (rsl r h.length l) v := by
 have hrl := i.rel.len
 by_cases h0 : l.length = 0
 ·have : l = [] := List.eq_nil_of_length_eq_zero h0
  subst this
  refine ⟨Nat.zero_le _, (0, 0, 0), i.push (by simp [resB, AB.mut]) (by simp [resB, BR]), ?_⟩
  simp only [rsl, List.length_nil, if_true]
  rcases hs with ⟨⟨a, rfl⟩, _, _⟩ | ⟨b, off, cap, rfl, _, hc, _⟩
  ·exact .sz _ _ _ _ (Nat.zero_le _) fun _ => rfl
  ·exact .sz _ _ _ _ hc fun q => by cases q
 ·rcases hs with ⟨_, q, _⟩ | ⟨b, off, cap, rfl, hlc, hc, hcells⟩
  ·exact absurd q h0
  ·have hlen : (r.cells l).length = l.length * r.sz := r.cells_len l
   have hpos : 0 < l.length * r.sz := Nat.mul_pos (by omega) r.pos
   have hall : ∀ a ∈ r.cells l, a.fl = true := fun a ha => by
    obtain ⟨x, _, hx⟩ := List.mem_flatMap.1 ha
    exact hfl x a hx
   have hat : ∀ k (hk : k < (r.cells l).length), w.cell? ⟨b, off + k, none⟩ = some ((r.cells l)[k]).val := fun k hk => hcells k _ (by rw [List.getElem?_map, List.getElem?_eq_getElem hk]; rfl)
   obtain ⟨cs, e, fz, hb⟩ : ∃ cs e fz, w.heap[b]? = some (.cells cs e fz) := by
    have := hat 0 (by omega)
    unfold World.cell? at this
    split at this
    ·rename_i c e fz hb
     exact ⟨c, e, fz, hb⟩
    ·cases this
   have hat' : ∀ k (hk : k < (r.cells l).length), cs[off + k]? = some ((r.cells l)[k]).val := fun k hk => by
    have := hat k hk
    unfold World.cell? at this
    rw [hb] at this
    simpa using this
   refine ⟨by omega, (b, off, off + cap * r.sz), i.push (by simp [resB, h0, AB.mut]) ?_, ?_⟩
   ·simp only [resB, if_neg h0, BR]
    refine ⟨cs, e, fz, hb, (fun q => by cases q), ?_, fun k a c ha hc' => ?_⟩
    ·have := (Array.getElem?_eq_some_iff.1 (hat' ((r.cells l).length - 1) (by omega))).1
     omega
    ·have hk := (List.getElem?_eq_some_iff.1 ha).1
     rw [hat' k hk] at hc'
     have : a = (r.cells l)[k] := (List.getElem?_eq_some_iff.1 ha).2.symm
     subst this
     cases hc'
     exact QSs _ (hall _ (List.getElem_mem hk))
   ·simp only [rsl, if_neg h0]
    exact .sl h.length 0 l.length l.length (some r.sz) b off (off + cap * r.sz) cap (by rw [← hrl, List.getElem?_append_right (Nat.le_refl _), Nat.sub_self]; rfl) (Nat.le_refl _) hlc hc (fun q => by cases q) (fun z hz _ => by cases hz; exact Nat.le_refl _)
theorem JtS {P : Program} {g : Nat} {az : List AV} {vals : Array Value} {h' : List AB} (i : In (KC P) ρ h w) (hv : VL ρ az vals) (e : FnC P g az h (.b true) h') : Calls P g vals w (fun e w' => e = .returned (.bool true) ∧ Kept NoS w w') := by
 refine (e.2 ρ w vals i.rel hv).mono ?_
 rintro e w' ⟨v', ρ', rfl, hva, _, heff⟩
 cases hva
 refine ⟨rfl, heff.os, heff.tape, heff.output.1, heff.size, fun b hb _ => heff.keep b hb fun ⟨j, B, o, h1, h2, _⟩ => ?_⟩
 rw [i.frz B (List.mem_of_getElem? h1)] at h2
 cases h2
theorem QjL (x : Int) : ∀ a ∈ intR.f x, a.fl = true := fun a ha => by simp [JEE] at ha; subst ha; rfl
theorem JNn (x : Int × Int) : ∀ a ∈ dotR.f x, a.fl = true := fun a ha => by simp [KdD] at ha; rcases ha with rfl | rfl <;> rfl
end Go.Proofs.YtfaccliekejngaaGreat
end
section
namespace Go.Proofs.YtfaccliekejngaaGreat
structure Dg where
 l : List UInt8
 h : l.length = 32
deriving DecidableEq
def u8A (b : UInt8) : AV := .i .u8 (b.toNat : Int)
theorem KSR {a b : UInt8} (e : u8A a = u8A b) : a = b := by
 unfold u8A at e
 have e2 : (a.toNat : Int) = (b.toNat : Int) := by
  injection e
 exact UInt8.toNat.inj (by omega)
theorem KNe {α β : Type} {f : α → β} (hf : ∀ a b, f a = f b → a = b) : ∀ {l l' : List α}, l.map f = l'.map f → l = l'
 | [], [], _ => rfl
 | [], _ :: _, e => by simp at e
 | _ :: _, [], e => by simp at e
 | a :: l, b :: l', e => by
  simp only [List.map_cons, List.cons.injEq] at e
  rw [hf a b e.1, KNe hf e.2]
theorem Dg.ext {a b : Dg} (e : a.l = b.l) : a = b := by
 cases a; cases b
 cases e
 rfl
def KFp : Dg := ⟨List.replicate 32 0, by simp⟩
def idR : Row Dg := ⟨fun x => x.l.map u8A, 32, fun x => by rw [List.length_map]; exact x.h, by decide, KFp, fun x y e => Dg.ext (KNe (fun a b => KSR) e)⟩
abbrev Hd := (Int × Int) × Dg
def qjO : Row Hd := ⟨fun x => [.i .i64 x.1.1, .i .i64 x.1.2] ++ idR.f x.2, 34, fun x => by rw [List.length_append, idR.len]; rfl, by decide, ((0, 0), KFp), fun x y e => by
 simp only [List.cons_append, List.nil_append, List.cons.injEq, AV.i.injEq, true_and] at e
 exact Prod.ext (Prod.ext e.1 e.2.1) (idR.inj _ _ e.2.2)⟩
theorem QvR : idR.sz = 32 := _root_.id rfl
theorem YuL : qjO.sz = 34 := _root_.id rfl
theorem YA0 (x : Hd) : qjO.f x = .i .i64 x.1.1 :: .i .i64 x.1.2 :: idR.f x.2 := _root_.id rfl
theorem qfY (x : Hd) : ((qjO.f x).drop 2).take 32 = idR.f x.2 := by
 rw [YA0]
 simp only [List.drop_succ_cons, List.drop_zero]
 exact List.take_of_length_le (by rw [idR.len]; exact Nat.le_refl _)
theorem eqcB : ∀ (l l' : List UInt8), l.length = l'.length → XWq (List.replicate l.length .i) (l.map u8A) (l'.map u8A) = some (decide (l = l'))
 | [], [], _ => by simp [XWq]
 | [], _ :: _, e => by simp at e
 | _ :: _, [], e => by simp at e
 | a :: l, b :: l', e => by
  simp only [List.length_cons, List.replicate_succ, List.map_cons, XWq, u8A, ZtW, if_true, Option.bind_some]
  have ih := eqcB l l' (by simpa using e)
  rw [ih, Option.map_some]
  congr 1
  have h1 : ((a.toNat : Int) == (b.toNat : Int)) = decide (a = b) := by
   rw [Bool.eq_iff_iff]
   simp only [beq_iff_eq, decide_eq_true_eq]
   exact ⟨fun q => UInt8.toNat.inj (by omega), fun q => by rw [q]⟩
  rw [h1, Bool.eq_iff_iff]
  simp
theorem QLO (a b : Dg) : XWq [.i, .i, .i, .i, .i, .i, .i, .i, .i, .i, .i, .i, .i, .i, .i, .i, .i, .i, .i, .i, .i, .i, .i, .i, .i, .i, .i, .i, .i, .i, .i, .i] (idR.f a) (idR.f b) = some (decide (a = b)) := by
 have := eqcB a.l b.l (a.h.trans b.h.symm)
 rw [a.h] at this
 refine (show XWq [.i, .i, .i, .i, .i, .i, .i, .i, .i, .i, .i, .i, .i, .i, .i, .i, .i, .i, .i, .i, .i, .i, .i, .i, .i, .i, .i, .i, .i, .i, .i, .i] (idR.f a) (idR.f b) = some (decide (a.l = b.l)) from this).trans ?_
 congr 1
 exact decide_eq_decide.2 ⟨Dg.ext, fun q => by rw [q]⟩
theorem ZK0 (a b : Hd) : XWq [.i, .i, .i, .i, .i, .i, .i, .i, .i, .i, .i, .i, .i, .i, .i, .i, .i, .i, .i, .i, .i, .i, .i, .i, .i, .i, .i, .i, .i, .i, .i, .i, .i, .i] (qjO.f a) (qjO.f b) = some (decide (a = b)) := by
 have h1 := QLO a.2 b.2
 have h2 : XWq [.i, .i, .i, .i, .i, .i, .i, .i, .i, .i, .i, .i, .i, .i, .i, .i, .i, .i, .i, .i, .i, .i, .i, .i, .i, .i, .i, .i, .i, .i, .i, .i, .i, .i] (qjO.f a) (qjO.f b) = ((ZtW .i (.i .i64 a.1.1) (.i .i64 b.1.1)).bind fun r => (((ZtW .i (.i .i64 a.1.2) (.i .i64 b.1.2)).bind fun r => (XWq [.i, .i, .i, .i, .i, .i, .i, .i, .i, .i, .i, .i, .i, .i, .i, .i, .i, .i, .i, .i, .i, .i, .i, .i, .i, .i, .i, .i, .i, .i, .i, .i] (idR.f a.2) (idR.f b.2)).map (r && ·))).map (r && ·)) := rfl
 rw [h2, h1]
 simp only [ZtW, if_true, Option.bind_some, Option.map_some, Option.some.injEq]
 rw [Bool.eq_iff_iff]
 simp only [Bool.and_eq_true, beq_iff_eq, decide_eq_true_eq]
 constructor
 ·rintro ⟨q1, q2, q3⟩
  exact Prod.ext (Prod.ext q1 q2) q3
 ·rintro rfl
  exact ⟨rfl, rfl, rfl⟩
theorem JUL (q : Nat → Bool) : ∀ l : List UInt8, okL q (l.map u8A) = true
 | [] => by simp [okL]
 | a :: l => by simp [okL, u8A, AV.ok, JUL q l]
theorem Zph (q : Nat → Bool) (d : Dg) : okL q (idR.f d) = true := JUL q d.l
theorem KJo (q : Nat → Bool) (d : Hd) : okL q (qjO.f d) = true := by rw [YA0, qMC, qMC, ok_i, ok_i, Zph]; rfl
theorem YDd : ∀ l : List UInt8, (l.map u8A).all (wrOk true) = true
 | [] => rfl
 | a :: l => by rw [List.map_cons, List.all_cons, YDd l]; rfl
theorem Ydx (d : Dg) : (idR.f d).all (wrOk true) = true := YDd d.l
theorem XEe (d : Hd) : (qjO.f d).all (wrOk true) = true := by rw [YA0, List.all_cons, List.all_cons, Ydx]; rfl
theorem QnJ {α : Type} {r : Row α} (h : ∀ d, (r.f d).all (wrOk true) = true) : ∀ l : List α, (r.cells l).all (wrOk true) = true
 | [] => rfl
 | d :: l => by
  have := QnJ h l
  simp only [Row.cells, List.flatMap_cons, List.all_append, h d, Bool.true_and] at this ⊢
  exact this
theorem JpP (l : List Hd) : (qjO.cells l).all (wrOk true) = true := QnJ XEe l
theorem XQU (x : Dg) : ∀ a ∈ idR.f x, a.fl = true := fun a ha => by
 obtain ⟨b, _, rfl⟩ := List.mem_map.1 (show a ∈ x.l.map u8A from ha)
 rfl
theorem Jxj (x : Hd) : ∀ a ∈ qjO.f x, a.fl = true := fun a ha => by
 rw [YA0] at ha
 rcases List.mem_cons.1 ha with rfl | ha
 ·rfl
 ·rcases List.mem_cons.1 ha with rfl | ha
  ·rfl
  ·exact XQU _ a ha
end Go.Proofs.YtfaccliekejngaaGreat
end
section
namespace Go.Proofs.YtfaccliekejngaaGreat
set_option maxRecDepth 100000
set_option maxHeartbeats 4000000
noncomputable def z7B : List AV → List AB → Option (AV × List AB)
 | [a, b], h => (getS qjO h a).bind fun xs => (getS qjO h b).bind fun ys => some (.b (decide (xs = ys)), h)
 | _, _ => none
theorem Quq : Spec Tryz.prog 64 z7B := by
 intro args h v h' e
 unfold z7B at e
 split at e
 ·rename_i a b
  obtain ⟨xs, ha, e⟩ := YI8 e
  obtain ⟨ys, hb, e⟩ := YI8 e
  cases e
  refine FnAt.c (FnAt.frz0 fun hz => ?_)
  replace ha := ha.frz
  replace hb := hb.frz
  generalize h.map AB.freeze = h at *
  refine FnAt.run (by kernel_rfl) (T := ⟨[], []⟩) ⟨trivial, trivial⟩ Tryz.func64 sw64 fun ho hh => ?_
  simp only [qMC, Bool.and_eq_true] at ho
  have fa := ha.fx ho.1 (sz := 34) rfl
  have fb := hb.fx ho.2.1 (sz := 34) rfl
  unfold w64
  simp only [XH8, QN9, X1r, zVq, simprocAttr, fa, fb]
  refine YMr (S := Nat) (fun i => xs.length - i) (fun i => [a, b] ++ tp 3 ++ [.b (decide (xs.length = ys.length ∧ xs.take i = ys.take i)), .i .i64 i] ++ tp 24) (fun i => xs.length = ys.length → i ≤ xs.length) 0 (fun _ => Nat.zero_le _) (by simp only [X1r, zVq, simprocAttr, List.take_zero]) fun i hi => ?_
  simp only [X1r, zVq, simprocAttr, fa, fb]
  refine ⟨fun h1 => ⟨fun h2 => ?_, fun h2 => ?_⟩, fun h1 => ?_⟩
  ·have h3 : i < ys.length := by omega
   have e1 : IntKind.i64.wrap ((i : Int) + 1) = ((i + 1 : Nat) : Int) := ZL4 (by have := ha.2; unfold maxLen at this; unfold In64; omega)
   simp only [X1r, X5W, zVq, simprocAttr, CO.tmps, Opd.tmps, optT, Nat.reducePow, Nat.reduceDiv, Nat.reduceMod, fa, fb, h2, h3, ZK0, KJo, Nat.zero_lt_one, e1]
   refine ⟨i + 1, fun _ => h2, by omega, ?_, Wk.refl _⟩
   have e2 : (xs.length = ys.length ∧ xs.take (i + 1) = ys.take (i + 1)) = (xs.getD i qjO.d = ys.getD i qjO.d) := propext (by rw [and_iff_right h1.1]; exact qGK _ h2 h3 h1.2)
   simp only [e2, qSo]
  ·exact Bt.eq (by simp only [AV.b.injEq, decide_eq_decide]; exact KpQ (by omega)) (List.append_nil h)
  ·exact Bt.eq (by simp only [AV.b.injEq, decide_eq_decide]; exact iff_of_false h1 (zt2 h1)) (List.append_nil h)
 ·cases e
noncomputable def JuR : List AV → List AB → Option (AV × List AB)
 | [a, b], h => (getS idR h a).bind fun xs => (getS idR h b).bind fun ys => some (.b (decide (xs = ys)), h)
 | _, _ => none
theorem Q5j : Spec Tryz.prog 29 JuR := by
 intro args h v h' e
 unfold JuR at e
 split at e
 ·rename_i a b
  obtain ⟨xs, ha, e⟩ := YI8 e
  obtain ⟨ys, hb, e⟩ := YI8 e
  cases e
  refine FnAt.c (FnAt.frz0 fun hz => ?_)
  replace ha := ha.frz
  replace hb := hb.frz
  generalize h.map AB.freeze = h at *
  refine FnAt.run (by kernel_rfl) (T := ⟨[], []⟩) ⟨trivial, trivial⟩ Tryz.func29 sw29 fun ho hh => ?_
  simp only [qMC, Bool.and_eq_true] at ho
  have fa := ha.fx ho.1 (sz := 32) rfl
  have fb := hb.fx ho.2.1 (sz := 32) rfl
  unfold w29
  simp only [XH8, QN9, X1r, zVq, simprocAttr, fa, fb]
  refine YMr (S := Nat) (fun i => xs.length - i) (fun i => [a, b] ++ tp 3 ++ [.b (decide (xs.length = ys.length ∧ xs.take i = ys.take i)), .i .i64 i] ++ tp 24) (fun i => xs.length = ys.length → i ≤ xs.length) 0 (fun _ => Nat.zero_le _) (by simp only [X1r, zVq, simprocAttr, List.take_zero]) fun i hi => ?_
  simp only [X1r, zVq, simprocAttr, fa, fb]
  refine ⟨fun h1 => ⟨fun h2 => ?_, fun h2 => ?_⟩, fun h1 => ?_⟩
  ·have h3 : i < ys.length := by omega
   have e1 : IntKind.i64.wrap ((i : Int) + 1) = ((i + 1 : Nat) : Int) := ZL4 (by have := ha.2; unfold maxLen at this; unfold In64; omega)
   simp only [X1r, X5W, zVq, simprocAttr, CO.tmps, Opd.tmps, optT, Nat.reducePow, Nat.reduceDiv, Nat.reduceMod, fa, fb, h2, h3, QLO, Zph, Nat.zero_lt_one, e1]
   refine ⟨i + 1, fun _ => h2, by omega, ?_, Wk.refl _⟩
   have e2 : (xs.length = ys.length ∧ xs.take (i + 1) = ys.take (i + 1)) = (xs.getD i idR.d = ys.getD i idR.d) := propext (by rw [and_iff_right h1.1]; exact qGK _ h2 h3 h1.2)
   simp only [e2, qSo]
  ·exact Bt.eq (by simp only [AV.b.injEq, decide_eq_decide]; exact KpQ (by omega)) (List.append_nil h)
  ·exact Bt.eq (by simp only [AV.b.injEq, decide_eq_decide]; exact iff_of_false h1 (zt2 h1)) (List.append_nil h)
 ·cases e
noncomputable def Kdw : List AV → List AB → Option (AV × List AB)
 | [.ag [l, v, d], .ag [l', v', d']], h => (getS qjO h l).bind fun hs => (getS intR h v).bind fun xs => (getS dotR h d).bind fun ds => (getS qjO h l').bind fun hs' => (getS intR h v').bind fun xs' => (getS dotR h d').bind fun ds' =>
   some (.b (decide (hs = hs' ∧ xs = xs' ∧ ds = ds')), h)
 | _, _ => none
noncomputable def JXE : List AV → List AB → Option (AV × List AB)
 | [.ag [l, v, d]], h => (getS qjO h l).bind fun hs => (getS intR h v).bind fun xs => (getS dotR h d).bind fun ds => if hs.length ≤ 1000000 ∧ xs.length ≤ 1000000 ∧ ds.length ≤ 1000000 then
   some (.ag [rsl qjO h.length hs, rsl intR (h.length + 1) xs, rsl dotR (h.length + 2) ds], h ++ [resB qjO true hs, resB intR true xs, resB dotR true ds]) else none
 | _, _ => none
noncomputable def zan : List AV → List AB → Option (AV × List AB)
 | [.ag [l, s, t]], h => (getS qjO h l).bind fun hs => (getS intR h s).bind fun v => (getS dotR h t).bind fun ds => some (.b (decide (20 < hs.length ∨ 20 < v.length ∨ 30 < ds.length)), h)
 | _, _ => none
end Go.Proofs.YtfaccliekejngaaGreat
end
section
namespace Go.Proofs.YtfaccliekejngaaGreat
set_option maxRecDepth 100000
set_option maxHeartbeats 4000000
theorem zc6 {α : Type} (r : Row α) (m : Bool) : resB r m [] = .dead := _root_.id rfl
end Go.Proofs.YtfaccliekejngaaGreat
end
section
namespace Go.Proofs.YtfaccliekejngaaGreat
set_option maxRecDepth 100000
set_option maxHeartbeats 4000000
theorem QeN : Spec Tryz.prog 19 Kdw := by
 intro args h v h' e
 unfold Kdw at e
 split at e
 ·rename_i l s t l' s' t'
  obtain ⟨hs, hl, e⟩ := YI8 e
  obtain ⟨xs, hv, e⟩ := YI8 e
  obtain ⟨ds, hd, e⟩ := YI8 e
  obtain ⟨hs', hl', e⟩ := YI8 e
  obtain ⟨xs', hv', e⟩ := YI8 e
  obtain ⟨ds', hd', e⟩ := YI8 e
  cases e
  refine FnAt.c (FnAt.run (by kernel_rfl) (T := ⟨[⟨64, z7B, fun _ => []⟩, ⟨23, Jb1, fun _ => []⟩], []⟩) ⟨⟨Quq, Kx2, trivial⟩, trivial⟩ Tryz.func19 sw19 fun ho hh => ?_)
  simp only [qMC, JAX, Bool.and_eq_true] at ho
  have f1 := hl.fx ho.1.1 (sz := 34) rfl
  have f2 := hv.fx ho.1.2.1 (sz := 1) rfl
  have f3 := hd.fx ho.1.2.2.1 (sz := 2) rfl
  have f4 := hl'.fx ho.2.1.1 (sz := 34) rfl
  have f5 := hv'.fx ho.2.1.2.1 (sz := 1) rfl
  have f6 := hd'.fx ho.2.1.2.2.1 (sz := 2) rfl
  unfold w19
  simp only [XH8, QN9, X1r, X5W, zVq, simprocAttr, CO.tmps, Opd.tmps, optT, Nat.reducePow, Nat.reduceDiv, Nat.reduceMod, f1, f2, f3, f4, f5, f6, z7B, Jb1]
  refine ⟨fun h1 => Bt.dropB _ hh (by simp [h1]), fun h1 => Bt.dropB _ hh (by simp [h1])⟩
 ·cases e
theorem X7R : Spec Tryz.prog 10 zan := by
 intro args h v h' e
 unfold zan at e
 split at e
 ·rename_i l s t
  obtain ⟨hs, hl, e⟩ := YI8 e
  obtain ⟨xs, hv, e⟩ := YI8 e
  obtain ⟨ds, hd, e⟩ := YI8 e
  cases e
  refine FnAt.c (FnAt.run (by kernel_rfl) (T := ⟨[⟨11, qve, fun _ => []⟩], []⟩) ⟨⟨zcT, trivial⟩, trivial⟩ Tryz.func10 sw10 fun ho hh => ?_)
  simp only [qMC, JAX, Bool.and_eq_true] at ho
  have f1 := hl.fx ho.1.1 (sz := 34) rfl
  have f2 := hv.fx ho.1.2.1 (sz := 1) rfl
  have f3 := hd.fx ho.1.2.2.1 (sz := 2) rfl
  unfold w10
  simp only [XH8, QN9, X1r, X5W, zVq, simprocAttr, CO.tmps, Opd.tmps, optT, Nat.reducePow, Nat.reduceDiv, Nat.reduceMod, f1, f2, f3, qve]
  refine ⟨fun q => Bt.dropB _ hh (decide_eq_true (.inl (by omega))).symm, fun q => Bt.dropB _ hh (decide_eq_decide.2 ?_)⟩
  omega
 ·cases e
end Go.Proofs.YtfaccliekejngaaGreat
end
section
namespace Go.Proofs.YtfaccliekejngaaGreat
set_option maxRecDepth 100000
set_option maxHeartbeats 4000000
noncomputable def qjp : List AV → List AB → Option (AV × List AB)
 | [.ag [n, k, v, d], .ag [n', k', v', d']], h => (getS qjO h n).bind fun hs => (getS dotR h k).bind fun ks => (getS intR h v).bind fun xs => (getS dotR h d).bind fun ds => (getS qjO h n').bind fun hs' => (getS dotR h k').bind fun ks' => (getS intR h v').bind fun xs' => (getS dotR h d').bind fun ds' =>
   some (.b (decide (hs = hs' ∧ ks = ks' ∧ xs = xs' ∧ ds = ds')), h)
 | _, _ => none
theorem Jie : Spec Tryz.prog 20 qjp := by
 intro args h v h' e
 unfold qjp at e
 split at e
 ·rename_i n k s t n' k' s' t'
  obtain ⟨hs, hl, e⟩ := YI8 e
  obtain ⟨ks, hk, e⟩ := YI8 e
  obtain ⟨xs, hv, e⟩ := YI8 e
  obtain ⟨ds, hd, e⟩ := YI8 e
  obtain ⟨hs', hl', e⟩ := YI8 e
  obtain ⟨ks', hk', e⟩ := YI8 e
  obtain ⟨xs', hv', e⟩ := YI8 e
  obtain ⟨ds', hd', e⟩ := YI8 e
  cases e
  refine FnAt.c (FnAt.run (by kernel_rfl) (T := ⟨[⟨64, z7B, fun _ => []⟩, ⟨65, QYH, fun _ => []⟩, ⟨23, Jb1, fun _ => []⟩], []⟩) ⟨⟨Quq, Zmf, Kx2, trivial⟩, trivial⟩ Tryz.func20 sw20 fun ho hh => ?_)
  simp only [qMC, JAX, Bool.and_eq_true] at ho
  have f1 := hl.fx ho.1.1 (sz := 34) rfl
  have f2 := hk.fx ho.1.2.1 (sz := 2) rfl
  have f3 := hv.fx ho.1.2.2.1 (sz := 1) rfl
  have f4 := hd.fx ho.1.2.2.2.1 (sz := 2) rfl
  have f5 := hl'.fx ho.2.1.1 (sz := 34) rfl
  have f6 := hk'.fx ho.2.1.2.1 (sz := 2) rfl
  have f7 := hv'.fx ho.2.1.2.2.1 (sz := 1) rfl
  have f8 := hd'.fx ho.2.1.2.2.2.1 (sz := 2) rfl
  unfold w20
  simp only [XH8, QN9, X1r, X5W, zVq, simprocAttr, CO.tmps, Opd.tmps, optT, Nat.reducePow, Nat.reduceDiv, Nat.reduceMod, f1, f2, f3, f4, f5, f6, f7, f8, z7B, QYH, Jb1]
  refine ⟨fun h1 => ⟨fun h2 => ?_, fun h2 => ?_⟩, fun h1 => ?_⟩ <;> exact Bt.dropB _ hh (by simp [*])
 ·cases e
end Go.Proofs.YtfaccliekejngaaGreat
end
section
namespace Go.Proofs.YtfaccliekejngaaGreat
set_option maxRecDepth 100000
set_option maxHeartbeats 4000000
def rAt (v : List Int) (r : Int) : Int := if r < 1 ∨ (v.length : Int) < r then 0 else v.getD (r - 1).toNat 0
noncomputable def KoJ : List AV → List AB → Option (AV × List AB)
 | [.ag [s, t], .i .i64 r], h => (getS intR h s).bind fun v => (getS dotR h t).bind fun _ => some (.i .i64 (rAt v r), h)
 | _, _ => none
def YlY (v : List Int) (ds : Dots) (d : Int × Int) : Prop := (1 ≤ d.2 ∧ d.2 ≤ rAt v d.1) ∨ d ∈ ds
instance (v : List Int) (ds : Dots) (d : Int × Int) : Decidable (YlY v ds d) := by unfold YlY; infer_instance
noncomputable def XYt : List AV → List AB → Option (AV × List AB)
 | [.ag [s, t], .ag [.i .i64 a, .i .i64 b]], h => (getS intR h s).bind fun v => (getS dotR h t).bind fun ds => some (.b (decide (YlY v ds (a, b))), h)
 | _, _ => none
noncomputable def zEW : List AV → List AB → Option (AV × List AB)
 | [.ag [s, t], .ag [.i .i64 a, .i .i64 b]], h => (getS intR h s).bind fun v => (getS dotR h t).bind fun ds => some (.b (decide (KXy v ds = 0 ∧ YlY v ds (a, b))), h)
 | _, _ => none
end Go.Proofs.YtfaccliekejngaaGreat
end
section
namespace Go.Proofs.YtfaccliekejngaaGreat
set_option maxRecDepth 100000
set_option maxHeartbeats 4000000
def maxR (v : List Int) (ds : Dots) (r : Int) : Nat → Int
 | 0 => rAt v r
 | i + 1 => if (ds.getD i dotR.d).1 = r then max (maxR v ds r i) (ds.getD i dotR.d).2 else maxR v ds r i
def qRf (v : List Int) (ds : Dots) (r : Int) : (Int × Int) × Int :=
 if KXy v ds ≠ 0 then ((0, 0), KXy v ds) else if r < 1 ∨ 16 < r then ((0, 0), 3)
 else if maxR v ds r ds.length = 1048576 then ((0, 0), 10) else ((r, maxR v ds r ds.length + 1), 0)
theorem XNb (v : List Int) (h : ∀ n ∈ v, 0 ≤ n ∧ n ≤ 1048576) (r : Int) : 0 ≤ rAt v r ∧ rAt v r ≤ 1048576 := by
 unfold rAt
 split
 ·omega
 ·rw [List.getD_eq_getElem?_getD]
  cases e : v[(r - 1).toNat]? with
  | none => simp
  | some x => exact h x (List.mem_of_getElem? e)
theorem JMs (v : List Int) (ds : Dots) (h : J6E v ds) (r : Int) : ∀ i, i ≤ ds.length → 0 ≤ maxR v ds r i ∧ maxR v ds r i ≤ 1048576
 | 0, _ => XNb v h.2.1 r
 | i + 1, hi => by
  have h1 := JMs v ds h r i (Nat.le_of_succ_le hi)
  have h2 := h.2.2 (ds.getD i dotR.d) (by rw [List.getD_eq_getElem?_getD, List.getElem?_eq_getElem hi]; exact List.getElem_mem hi)
  obtain ⟨_, _, h3, h4⟩ := h2
  unfold maxR
  split <;> omega
noncomputable def Yh9 : List AV → List AB → Option (AV × List AB)
 | [.ag [s, t], .i .i64 r], h => (getS intR h s).bind fun v => (getS dotR h t).bind fun ds => some (.tu [.ag [.i .i64 (qRf v ds r).1.1, .i .i64 (qRf v ds r).1.2], .i .i64 (qRf v ds r).2], h)
 | _, _ => none
end Go.Proofs.YtfaccliekejngaaGreat
end
section
namespace Go.Proofs.YtfaccliekejngaaGreat
set_option maxRecDepth 100000
set_option maxHeartbeats 4000000
def XF1 (v v' : List Int) (n : Nat) : List Int := (List.range n).map fun i => max (rAt v ((i + 1 : Nat) : Int)) (rAt v' ((i + 1 : Nat) : Int))
theorem ZsI (v v' : List Int) (n : Nat) : (XF1 v v' n).length = n := by simp [XF1]
theorem XIy (v v' : List Int) (h : ∀ n ∈ v, 0 ≤ n ∧ n ≤ 1048576) (h' : ∀ n ∈ v', 0 ≤ n ∧ n ≤ 1048576) (n : Nat) : ∀ x ∈ XF1 v v' n, 0 ≤ x ∧ x ≤ 1048576 := fun x hx => by
 obtain ⟨i, -, rfl⟩ := List.mem_map.1 hx
 have h1 := XNb v h ((i + 1 : Nat) : Int)
 have h2 := XNb v' h' ((i + 1 : Nat) : Int)
 omega
theorem Zdb {v v' : List Int} {ds ds' : Dots} (h : J6E v ds) (h' : J6E v' ds') : J6E (XF1 v v' 16) (ds ++ ds') :=
 ⟨by rw [ZsI]; omega, XIy v v' h.2.1 h'.2.1 16, fun d hd => (List.mem_append.1 hd).elim (h.2.2 d) (h'.2.2 d)⟩
end Go.Proofs.YtfaccliekejngaaGreat
end
