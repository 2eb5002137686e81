/- Part 17 of what the laws' proofs rest on. No condition. -/
import Derived.Test.YthhghdebjiiliaaDoorPb16
set_option linter.all false
section
namespace Go.Proofs.YthhghdebjiiliaaDoor
def tl0 : List (Option TC) := [none, none, none, none, some (.cf w4), none, none, none, some (.cf w8), some (.cf w9), none, some (.cf w11), none, some (.cf w13), some (.cf w14), some (.cf w15)]
theorem ta0 : AllN Tryd.prog 0 tl0 := (AllN.skip (AllN.skip (AllN.skip (AllN.skip (AllN.cons Tryd.func4 sw4 (AllN.skip (AllN.skip (AllN.skip (AllN.cons Tryd.func8 sw8 (AllN.cons Tryd.func9 sw9 (AllN.skip (AllN.cons Tryd.func11 sw11 (AllN.skip (AllN.cons Tryd.func13 sw13 (AllN.cons Tryd.func14 sw14 (AllN.cons Tryd.func15 sw15 trivial))))))))))))))))
def tl1 : List (Option TC) := [some (.cf w16), some (.cf w17), some (.cf w18), some (.cf w19), none, none, none, some (.cf w23), some (.cf w24), some (.cf w25), some (.cf w26), none, none, some (.cf w29), some (.cf w30), some (.cf w31)]
theorem ta1 : AllN Tryd.prog 16 tl1 := (AllN.cons Tryd.func16 sw16 (AllN.cons Tryd.func17 sw17 (AllN.cons Tryd.func18 sw18 (AllN.cons Tryd.func19 sw19 (AllN.skip (AllN.skip (AllN.skip (AllN.cons Tryd.func23 sw23 (AllN.cons Tryd.func24 sw24 (AllN.cons Tryd.func25 sw25 (AllN.cons Tryd.func26 sw26 (AllN.skip (AllN.skip (AllN.cons Tryd.func29 sw29 (AllN.cons Tryd.func30 sw30 (AllN.cons Tryd.func31 sw31 trivial))))))))))))))))
def tl2 : List (Option TC) := [some (.cf w32), some (.cf w33), some (.cf w34), some (.nv JXM), some (.cf w36), some (.cf w37), some (.cf w38), some (.cf w39), some (.cf w40), some (.cf w41), some (.cf w42), none, some (.cf w44), some (.cf w45), some (.cf w46), some (.cf w47)]
theorem ta2 : AllN Tryd.prog 32 tl2 := (AllN.cons Tryd.func32 sw32 (AllN.cons Tryd.func33 sw33 (AllN.cons Tryd.func34 sw34 (AllN.nv YL7 (AllN.cons Tryd.func36 sw36 (AllN.cons Tryd.func37 sw37 (AllN.cons Tryd.func38 sw38 (AllN.cons Tryd.func39 sw39 (AllN.cons Tryd.func40 sw40 (AllN.cons Tryd.func41 sw41 (AllN.cons Tryd.func42 sw42 (AllN.skip (AllN.cons Tryd.func44 sw44 (AllN.cons Tryd.func45 sw45 (AllN.cons Tryd.func46 sw46 (AllN.cons Tryd.func47 sw47 trivial))))))))))))))))
def tl3 : List (Option TC) := [none, some (.cf w49), some (.cf w50), some (.cf w51), none, none, some (.cf w54), some (.cf w55), none, none, none, none, none, none, none, none]
theorem ta3 : AllN Tryd.prog 48 tl3 := (AllN.skip (AllN.cons Tryd.func49 sw49 (AllN.cons Tryd.func50 sw50 (AllN.cons Tryd.func51 sw51 (AllN.skip (AllN.skip (AllN.cons Tryd.func54 sw54 (AllN.cons Tryd.func55 sw55 (AllN.skip (AllN.skip (AllN.skip (AllN.skip (AllN.skip (AllN.skip (AllN.skip (AllN.skip trivial))))))))))))))))
def tls : List (List (Option TC)) := [tl0, tl1, tl2, tl3]
noncomputable def TT : TB := tabn tls
theorem JIl : zDq Tryd.prog TT := QrT tls (AllNs.cons ta0 (AllNs.cons ta1 (AllNs.cons ta2 (AllNs.cons ta3 trivial))))
end Go.Proofs.YthhghdebjiiliaaDoor
end
section
namespace Go.Proofs.YthhghdebjiiliaaDoor
set_option maxRecDepth 100000
set_option maxHeartbeats 4000000
def idD (s : List UInt8) : Dg := if idF s = none then ⟨idBs s, X7v s⟩ else XB5
theorem Ypo (s : List UInt8) : idC s = idR.f (idD s) := by
 unfold idC idD
 split <;> rfl
theorem JhG (s : List UInt8) : idV s = .tu [.ag (idR.f (idD s)), fltA 8 (idF s)] := by
 unfold idV
 rw [Ypo]
theorem qDJ (e : Int) (x : Option Nat) : ∃ a b, fltA e x = .ag [.i .i64 a, .i .i64 b] := by
 cases x with
 | none => exact ⟨0, 0, rfl⟩
 | some p => exact ⟨e, p, rfl⟩
end Go.Proofs.YthhghdebjiiliaaDoor
end
section
namespace Go.Proofs.YthhghdebjiiliaaDoor
set_option maxRecDepth 100000
theorem JOy : ∀ n : _root_.Fin 16, hexP ((hexC n.val).toNat : Int) ∧ hexD (hexC n.val) = n.val := by decide +kernel
theorem q4I : ∀ n : _root_.Fin 256, hexP (n.val : Int) → hexC (hexD (UInt8.ofNat n.val)) = UInt8.ofNat n.val := by decide +kernel
theorem Z0H {b : UInt8} (h : hexP (b.toNat : Int)) : hexC (hexD b) = b := by
 have := q4I ⟨b.toNat, b.toNat_lt⟩ h
 rw [UInt8.ofNat_toNat] at this
 exact this
theorem XHb : ∀ (w t : List UInt8) (pos : Nat), (∀ b ∈ w, b.toNat < 128) → (∀ b ∈ t, hexP (b.toNat : Int)) → runB YfK Y9b (w ++ t) pos (w, t.length) = none
 | [], [], pos, _, _ => rfl
 | [], b :: t, pos, hw, ht => by
  have hb := ht b (.head _)
  have hs : YfK ([], (b :: t).length) (b.toNat : Int) = some ([], t.length) := by
   show (if 0 < (b :: t).length ∧ hexP (b.toNat : Int) then some ([], (b :: t).length - 1) else none) = _
   rw [if_pos ⟨by simp, hb⟩]
   rfl
  show runB YfK Y9b (b :: t) pos ([], (b :: t).length) = none
  unfold runB
  rw [if_pos (show b.toNat < 128 by unfold hexP at hb; omega), hs]
  exact XHb [] t (pos + 1) (fun _ h => by cases h) fun y hy => ht y (.tail _ hy)
 | x :: w, t, pos, hw, ht => by
  have hx := hw x (.head _)
  have hs : YfK (x :: w, t.length) (x.toNat : Int) = some (w, t.length) := by
   show (if (x.toNat : Int) = (x.toNat : Int) ∧ (x.toNat : Int) < 128 then some (w, t.length) else none) = _
   rw [if_pos ⟨rfl, by omega⟩]
  rw [List.cons_append]
  unfold runB
  rw [if_pos hx, hs]
  exact XHb w t (pos + 1) (fun y hy => hw y (.tail _ hy)) ht
theorem qRo {q q' q'' : QX} {x y : UInt8} (hx : YfK q (x.toNat : Int) = some q') (hy : YfK q (y.toNat : Int) = some q'') : x = y ∨ q' = q'' := by
 obtain ⟨w, n⟩ := q
 cases w with
 | nil =>
  simp only [YfK] at hx hy
  split at hx
  ·split at hy
   ·cases hx; cases hy; exact .inr rfl
   ·cases hy
  ·cases hx
 | cons c w =>
  simp only [YfK] at hx hy
  split at hx
  ·split at hy
   ·rename_i h1 h2
    exact .inl (UInt8.toNat_inj.1 (by omega))
   ·cases hy
  ·cases hx
theorem zHY : ∀ (u : List UInt8) (x y : UInt8) (r : List UInt8) (pos : Nat) (q : QX), runB YfK Y9b (u ++ x :: r) pos q = none → x ≠ y → runB YfK Y9b (u ++ y :: r) pos q = none ∨ runB YfK Y9b (u ++ y :: r) pos q = some (pos + u.length)
 | [], x, y, r, pos, q, h, hne => by
  rw [List.nil_append] at h ⊢
  unfold runB at h ⊢
  cases hx : (if x.toNat < 128 then YfK q x.toNat else none) with
  | none => rw [hx] at h; cases h
  | some q' =>
   rw [hx] at h
   dsimp only at h
   cases hy : (if y.toNat < 128 then YfK q y.toNat else none) with
   | none => exact .inr rfl
   | some q'' =>
    split at hx
    ·split at hy
     ·rcases qRo hx hy with e | rfl
      ·exact absurd e hne
      ·exact .inl h
     ·cases hy
    ·cases hx
 | z :: u, x, y, r, pos, q, h, hne => by
  rw [List.cons_append] at h ⊢
  unfold runB at h ⊢
  cases hz : (if z.toNat < 128 then YfK q z.toNat else none) with
  | none => rw [hz] at h; cases h
  | some q' =>
   rw [hz] at h
   dsimp only at h ⊢
   rcases zHY u x y r (pos + 1) q' h hne with e | e
   ·exact .inl e
   ·exact .inr (by rw [e, List.length_cons]; congr 1; omega)
theorem JHh {Q : Type} {step : Q → Int → Option Q} {ends : Q → Bool} : ∀ (s : List UInt8) (pos : Nat) (q : Q) (p : Nat), runB step ends s pos q = some p → p ≤ pos + s.length
 | [], pos, q, p, h => by
  unfold runB at h
  split at h
  ·cases h
  ·cases h; exact Nat.le_refl _
 | b :: l, pos, q, p, h => by
  unfold runB at h
  split at h
  ·cases h; exact Nat.le_add_right _ _
  ·rename_i q' _
   have := JHh l (pos + 1) q' p h
   simp only [List.length_cons]
   omega
theorem Ysa {α β : Type} (f g : α → β) : ∀ (l : List α) (j : Nat), (l.flatMap fun b => [f b, g b])[2 * j]? = l[j]?.map f ∧ (l.flatMap fun b => [f b, g b])[2 * j + 1]? = l[j]?.map g
 | [], j => by simp
 | a :: l, 0 => ⟨rfl, rfl⟩
 | a :: l, j + 1 => by
  have := Ysa f g l j
  rw [List.flatMap_cons]
  exact this
theorem z4X {l : List UInt8} {i : Nat} (hi : i < l.length) : (txB l).getD (7 + 2 * i) 0 = hexC ((l.getD i 0).toNat / 16) ∧ (txB l).getD (8 + 2 * i) 0 = hexC ((l.getD i 0).toNat % 16) := by
 have e1 := Ysa (fun b : UInt8 => hexC (b.toNat / 16)) (fun b => hexC (b.toNat % 16)) l i
 have hg : l[i]? = some (l.getD i 0) := by rw [List.getD_eq_getElem?_getD, List.getElem?_eq_getElem hi]; rfl
 rw [hg] at e1
 unfold txB
 have h7 : QlD.length = 7 := rfl
 constructor
 ·rw [List.getD_eq_getElem?_getD, List.getElem?_append_right (by omega), h7, show 7 + 2 * i - 7 = 2 * i from by omega, e1.1]
  rfl
 ·rw [List.getD_eq_getElem?_getD, List.getElem?_append_right (by omega), h7, show 8 + 2 * i - 7 = 2 * i + 1 from by omega, e1.2]
  rfl
theorem ZGK (l : List UInt8) : ∀ b ∈ (l.flatMap fun b => [hexC (b.toNat / 16), hexC (b.toNat % 16)]), hexP (b.toNat : Int) := fun b hb => by
 obtain ⟨a, _, ha⟩ := List.mem_flatMap.1 hb
 have := a.toNat_lt
 simp only [List.mem_cons, List.not_mem_nil, or_false] at ha
 rcases ha with rfl | rfl
 ·exact (JOy ⟨a.toNat / 16, by omega⟩).1
 ·exact (JOy ⟨a.toNat % 16, by omega⟩).1
theorem QIC (d : Dg) : idF (txB d.l) = none := by
 have hl := X1L d.l
 have hd := d.h
 have := XHb QlD (d.l.flatMap fun b => [hexC (b.toNat / 16), hexC (b.toNat % 16)]) 0 (by decide) (ZGK d.l)
 have e : (d.l.flatMap fun b => [hexC (b.toNat / 16), hexC (b.toNat % 16)]).length = 64 := by
  unfold txB at hl
  rw [List.length_append] at hl
  have h7 : QlD.length = 7 := rfl
  omega
 rw [e] at this
 exact this
theorem Qv3 (d : Dg) : idBs (txB d.l) = d.l := by
 have hd := d.h
 refine List.ext_getElem? fun i => ?_
 by_cases hi : i < 32
 ·obtain ⟨h1, h2⟩ := z4X (l := d.l) (i := i) (by omega)
  have h3 := JpI (txB d.l) hi
  rw [h1, h2] at h3
  have hb := (d.l.getD i 0).toNat_lt
  rw [(JOy ⟨(d.l.getD i 0).toNat / 16, by omega⟩).2, (JOy ⟨(d.l.getD i 0).toNat % 16, by omega⟩).2] at h3
  dsimp only at h3
  rw [show (d.l.getD i 0).toNat / 16 * 16 + (d.l.getD i 0).toNat % 16 = (d.l.getD i 0).toNat from by omega, UInt8.ofNat_toNat] at h3
  have g1 : (idBs (txB d.l))[i]? = some ((idBs (txB d.l)).getD i 0) := by rw [List.getD_eq_getElem?_getD, List.getElem?_eq_getElem (by rw [X7v]; exact hi)]; rfl
  have g2 : d.l[i]? = some (d.l.getD i 0) := by rw [List.getD_eq_getElem?_getD, List.getElem?_eq_getElem (by omega)]; rfl
  rw [g1, g2, h3]
 ·rw [List.getElem?_eq_none (by rw [X7v]; omega), List.getElem?_eq_none (by omega)]
theorem K66 (d : Dg) : idD (txB d.l) = d := by
 unfold idD
 rw [if_pos (QIC d)]
 exact Dg.ext (Qv3 d)
theorem XXt {s : List UInt8} (h : idF s = none) : txB (idD s).l = s := by
 unfold idD
 rw [if_pos h]
 obtain ⟨t, rfl, e2, e3⟩ := Jte s QlD 64 0 h
 show QlD ++ _ = QlD ++ t
 congr 1
 have key : ∀ i, i < 32 → ∃ x y, t[2 * i]? = some x ∧ t[2 * i + 1]? = some y ∧ hexP (x.toNat : Int) ∧ hexP (y.toNat : Int) ∧ (idBs (QlD ++ t))[i]? = some (UInt8.ofNat (hexD x * 16 + hexD y)) := fun i hi => by
  have l1 : 2 * i < t.length := by omega
  have l2 : 2 * i + 1 < t.length := by omega
  refine ⟨t[2 * i], t[2 * i + 1], List.getElem?_eq_getElem l1, List.getElem?_eq_getElem l2, e3 _ (List.getElem_mem l1), e3 _ (List.getElem_mem l2), ?_⟩
  have h3 := JpI (QlD ++ t) hi
  have h7 : QlD.length = 7 := rfl
  have a1 : (QlD ++ t).getD (7 + 2 * i) 0 = t[2 * i] := by
   rw [List.getD_eq_getElem?_getD, List.getElem?_append_right (by omega), h7, show 7 + 2 * i - 7 = 2 * i from by omega, List.getElem?_eq_getElem l1]
   rfl
  have a2 : (QlD ++ t).getD (8 + 2 * i) 0 = t[2 * i + 1] := by
   rw [List.getD_eq_getElem?_getD, List.getElem?_append_right (by omega), h7, show 8 + 2 * i - 7 = 2 * i + 1 from by omega, List.getElem?_eq_getElem l2]
   rfl
  rw [a1, a2] at h3
  rw [← h3, List.getD_eq_getElem?_getD, List.getElem?_eq_getElem (by rw [X7v]; exact hi)]
  rfl
 refine List.ext_getElem? fun j => ?_
 have hj : j = 2 * (j / 2) ∨ j = 2 * (j / 2) + 1 := by omega
 have hp := Ysa (fun b : UInt8 => hexC (b.toNat / 16)) (fun b => hexC (b.toNat % 16)) (idBs (QlD ++ t)) (j / 2)
 by_cases hi : j / 2 < 32
 ·obtain ⟨x, y, t1, t2, hx, hy, hb⟩ := key _ hi
  have dx := zwt hx
  have dy := zwt hy
  have hto : (UInt8.ofNat (hexD x * 16 + hexD y)).toNat = hexD x * 16 + hexD y := by rw [UInt8.toNat_ofNat', Nat.mod_eq_of_lt (by omega)]
  rw [hb, Option.map_some, Option.map_some, hto, show (hexD x * 16 + hexD y) / 16 = hexD x from by omega, show (hexD x * 16 + hexD y) % 16 = hexD y from by omega, Z0H hx, Z0H hy] at hp
  rcases hj with e | e
  ·rw [e, hp.1, t1]
  ·rw [e, hp.2, t2]
 ·rw [List.getElem?_eq_none (l := idBs (QlD ++ t)) (by rw [X7v]; omega)] at hp
  rcases hj with e | e
  ·rw [e, hp.1, List.getElem?_eq_none (by omega)]; rfl
  ·rw [e, hp.2, List.getElem?_eq_none (by omega)]; rfl
theorem QzA {d : Dg} {at' : Nat} (h : at' < 71) {y : UInt8} (hne : (txB d.l).getD at' 0 ≠ y) :
  (idF ((txB d.l).set at' y) = some at') ∨ (idF ((txB d.l).set at' y) = none ∧ idD ((txB d.l).set at' y) ≠ d ∧ 7 ≤ at') := by
 have hl : (txB d.l).length = 71 := by rw [X1L, d.h]
 obtain ⟨t, ht⟩ : ∃ t, t = txB d.l := ⟨_, rfl⟩
 have hacc : idF t = none := by rw [ht]; exact QIC d
 rw [← ht] at hne hl ⊢
 have e1 : t = t.take at' ++ t.getD at' 0 :: t.drop (at' + 1) := by
  conv => lhs; rw [← List.take_append_drop at' t, List.drop_eq_getElem_cons (by omega)]
  rw [List.getD_eq_getElem?_getD, List.getElem?_eq_getElem (by omega)]
  rfl
 have e2 : t.set at' y = t.take at' ++ y :: t.drop (at' + 1) := by
  rw [List.set_eq_take_append_cons_drop, if_pos (by omega)]
 have lt : (t.take at').length = at' := by rw [List.length_take]; omega
 have h0 : runB YfK Y9b (t.take at' ++ t.getD at' 0 :: t.drop (at' + 1)) 0 (QlD, 64) = none := by rw [← e1]; exact hacc
 have hs := zHY (t.take at') (t.getD at' 0) y (t.drop (at' + 1)) 0 (QlD, 64) h0 hne
 rw [← e2, lt, Nat.zero_add] at hs
 rcases hs with hs | hs
 ·refine .inr ⟨hs, fun e => ?_, ?_⟩
  ·have q := XXt (s := t.set at' y) hs
   rw [e, ← ht] at q
   have : t.getD at' 0 = (t.set at' y).getD at' 0 := by rw [← q]
   rw [List.getD_eq_getElem?_getD (l := t.set at' y), List.getElem?_set, if_pos rfl, if_pos (by omega)] at this
   exact hne this
  ·rcases Nat.lt_or_ge at' 7 with q | q
   ·exfalso
    obtain ⟨u, f1, _, _⟩ := Jte _ QlD 64 0 hs
    have g1 : (t.set at' y).getD at' 0 = QlD.getD at' 0 := by
     rw [f1, List.getD_eq_getElem?_getD, List.getElem?_append_left (show at' < QlD.length from q), List.getD_eq_getElem?_getD]
    rw [List.getD_eq_getElem?_getD, List.getElem?_set, if_pos rfl, if_pos (by omega)] at g1
    have g2 : t.getD at' 0 = QlD.getD at' 0 := by
     rw [ht]
     unfold txB
     rw [List.getD_eq_getElem?_getD, List.getElem?_append_left (show at' < QlD.length from q), List.getD_eq_getElem?_getD]
    exact hne (g2.trans g1.symm)
   ·exact q
 ·exact .inl hs
end Go.Proofs.YthhghdebjiiliaaDoor
end
section
namespace Go.Proofs.YthhghdebjiiliaaDoor
theorem ct4 : runT TT 60 w4 = true := by kernel_rfl
theorem fc4 (h : List AB) : FnC Tryd.prog 4 [] h (.b true) h := FnC.closed (by kernel_rfl) JIl 60 4 (by kernel_rfl) ct4 h
end Go.Proofs.YthhghdebjiiliaaDoor
end
section
namespace Go.Proofs.YthhghdebjiiliaaDoor
set_option maxRecDepth 100000
set_option maxHeartbeats 4000000
def KdI : List AV → List AB → Option (AV × List AB)
 | [], h => some (.b true, h)
 | _, _ => none
theorem QTR : Spec Tryd.prog 4 KdI := by
 intro args h v h' e
 unfold KdI at e
 split at e
 ·cases e
  exact fc4 _
 ·cases e
def XqU : List AV → List AB → Option (AV × List AB)
 | [], h => some (.ag [.i .i64 0, .i .i64 0], h)
 | _, _ => none
theorem Z51 : Spec Tryd.prog 14 XqU := by
 intro args h v h' e
 unfold XqU at e
 split at e
 ·cases e
  refine FnAt.c (FnAt.run (by kernel_rfl) (T := ⟨[], []⟩) ⟨trivial, trivial⟩ Tryd.func14 sw14 fun ho hh => ?_)
  unfold w14
  simp only [XSG, YPr, XUb, KIu, Xgj, if_true, if_false, ↓reduceIte, Nat.reduceAdd, Nat.reduceSub, Nat.reduceLeDiff, Nat.reduceEqDiff, Nat.reduceMul, Nat.reduceLT, Int.reduceLT, Int.reduceLE, Int.reduceEq, CO.tmps, Opd.tmps, optT, Nat.reducePow, Nat.reduceDiv, Nat.reduceMod]
  exact Bt.drop _ hh rfl rfl
 ·cases e
def qIJ : List AV → List AB → Option (AV × List AB)
 | [.i .i64 a, .i .i64 b], h => if (-9223372036854775808 ≤ a ∧ a ≤ 9223372036854775807) ∧ 0 < b ∧ b ≤ 1000000 then some (.i .i64 (a % b), h) else none
 | _, _ => none
theorem qB1 : Spec Tryd.prog 20 qIJ := by
 intro args h v h' e
 unfold qIJ at e
 split at e
 ·rename_i a b
  split at e
  ·rename_i hc
   obtain ⟨ha, hb, hb2⟩ := hc
   cases e
   refine FnAt.c (FnAt.run (by kernel_rfl) (T := ⟨[], []⟩) ⟨trivial, trivial⟩ Tryd.func20 sw20 fun ho hh => ?_)
   unfold w20
   have h0' : (b ≤ 0) = False := eq_false (by omega)
   have e1 : binV .rem (.i .i64 a) (.i .i64 b) = some (.i .i64 (a.tmod b)) := by
    show (if b = 0 then none else some (AV.i .i64 (a.tmod b))) = _
    rw [if_neg (by omega)]
   have t1 : -b < a.tmod b ∧ a.tmod b < b := ⟨Int.lt_tmod_of_pos a (by omega), Int.tmod_lt_of_pos a (by omega)⟩
   have em : a % b = a.tmod b % b := by
    have h1 := Int.mul_tdiv_add_tmod a b
    conv => lhs; rw [← h1]
    exact Int.mul_add_emod_self_left b _ _
   by_cases hn : a.tmod b < 0
   ·have e2 : IntKind.i64.wrap (a.tmod b + b) = a.tmod b + b := Jeb (by unfold In64; omega)
    have e3 : a % b = a.tmod b + b := by rw [em, ← Int.add_emod_right, Int.emod_eq_of_lt (by omega) (by omega)]
    have hn' := eq_true hn
    simp only [XSG, YPr, XUb, KIu, Xgj, if_true, if_false, ↓reduceIte, Nat.reduceAdd, Nat.reduceSub, Nat.reduceLeDiff, Nat.reduceEqDiff, Nat.reduceMul, Nat.reduceLT, Int.reduceLT, Int.reduceLE, Int.reduceEq, CO.tmps, Opd.tmps, optT, Nat.reducePow, Nat.reduceDiv, Nat.reduceMod, h0', e1, e2, hn', e3, decide_true, decide_false, ne_eq, not_false_eq_true, not_true_eq_false, false_implies, forall_const, and_true, true_and]
    exact Bt.drop _ hh rfl rfl
   ·have e3 : a % b = a.tmod b := by rw [em, Int.emod_eq_of_lt (by omega) (by omega)]
    have hn' := eq_false hn
    simp only [XSG, YPr, XUb, KIu, Xgj, if_true, if_false, ↓reduceIte, Nat.reduceAdd, Nat.reduceSub, Nat.reduceLeDiff, Nat.reduceEqDiff, Nat.reduceMul, Nat.reduceLT, Int.reduceLT, Int.reduceLE, Int.reduceEq, CO.tmps, Opd.tmps, optT, Nat.reducePow, Nat.reduceDiv, Nat.reduceMod, h0', e1, hn', e3, decide_true, decide_false, ne_eq, not_false_eq_true, not_true_eq_false, false_implies, forall_const, and_true, true_and]
    exact Bt.drop _ hh rfl rfl
  ·cases e
 ·cases e
end Go.Proofs.YthhghdebjiiliaaDoor
end
section
namespace Go.Proofs.YthhghdebjiiliaaDoor
set_option maxRecDepth 100000
set_option maxHeartbeats 4000000
theorem qZv : (false == true) = false := _root_.id rfl
theorem qXC : (true == true) = true := _root_.id rfl
theorem J5n : (true == false) = false := _root_.id rfl
theorem qFe : (false == false) = true := _root_.id rfl
end Go.Proofs.YthhghdebjiiliaaDoor
end
section
namespace Go.Proofs.YthhghdebjiiliaaDoor
set_option maxRecDepth 100000
set_option maxHeartbeats 8000000
theorem XZV {T : Env} {fr : List AV} {h : List AB} (x : Opd) : opR T (.s2b x) fr h = (match x.ev fr with
  | .s l => if l.length ≤ maxLen then some (.sl h.length 0 l.length l.length (some 1), h ++ [.blk true true (l.map u8A)]) else none
  | _ => none) := _root_.id rfl
theorem JTa {a k : Nat} (h : a ^^^ k = a) : k = 0 := by
 have : a ^^^ (a ^^^ k) = a ^^^ a := by rw [h]
 rw [← Nat.xor_assoc, Nat.xor_self, Nat.zero_xor] at this
 exact this
theorem Q0w (x : UInt8) {k : Int} (h0 : 0 ≤ k) (h1 : k ≤ 255) : ∃ y : UInt8, binV .xor (.i .u8 (x.toNat : Int)) (.i .u8 k) = some (.i .u8 (y.toNat : Int)) ∧ (k ≠ 0 → x ≠ y) := by
 obtain ⟨n, rfl⟩ := Int.eq_ofNat_of_zero_le h0
 have hx := x.toNat_lt
 have hlt : x.toNat ^^^ n < 2 ^ 8 := Nat.xor_lt_two_pow (by omega) (by omega)
 have e1 : binV .xor (.i .u8 (x.toNat : Int)) (.i .u8 (n : Int)) = some (.i .u8 (IntKind.u8.wrap (BitVec.ofInt IntKind.u8.bits (x.toNat : Int) ^^^ BitVec.ofInt IntKind.u8.bits (n : Int)).toNat)) := by simp [binV, binI]
 have e2 : (BitVec.ofInt IntKind.u8.bits (x.toNat : Int) ^^^ BitVec.ofInt IntKind.u8.bits (n : Int)).toNat = x.toNat ^^^ n := by
  show (BitVec.ofInt 8 (x.toNat : Int) ^^^ BitVec.ofInt 8 (n : Int)).toNat = _
  rw [BitVec.toNat_xor, BitVec.ofInt_natCast, BitVec.ofInt_natCast, BitVec.toNat_ofNat, BitVec.toNat_ofNat, Nat.mod_eq_of_lt (by omega), Nat.mod_eq_of_lt (by omega)]
 have e3 : (UInt8.ofNat (x.toNat ^^^ n)).toNat = x.toNat ^^^ n := by rw [UInt8.toNat_ofNat', Nat.mod_eq_of_lt (by omega)]
 refine ⟨UInt8.ofNat (x.toNat ^^^ n), ?_, fun hk e => ?_⟩
 ·rw [e1, e2, e3, KLb (by omega) (by omega)]
 ·have : x.toNat = x.toNat ^^^ n := by rw [← e3, ← e]
  exact hk (by rw [JTa this.symm]; rfl)
theorem XtY : (idR.f XB5) = [.i .u8 0, .i .u8 0, .i .u8 0, .i .u8 0, .i .u8 0, .i .u8 0, .i .u8 0, .i .u8 0, .i .u8 0, .i .u8 0, .i .u8 0, .i .u8 0, .i .u8 0, .i .u8 0, .i .u8 0, .i .u8 0, .i .u8 0, .i .u8 0, .i .u8 0, .i .u8 0, .i .u8 0, .i .u8 0, .i .u8 0, .i .u8 0, .i .u8 0, .i .u8 0, .i .u8 0, .i .u8 0, .i .u8 0, .i .u8 0, .i .u8 0, .i .u8 0] := by rfl
theorem XZl {h : List AB} (hz : h.map AB.freeze = h) (d : Dg) (s : List UInt8) (w0 : Int) (hw : -9223372036854775808 ≤ w0 ∧ w0 ≤ 9223372036854775807) (tb : Int) (hb : 0 ≤ tb ∧ tb ≤ 255) : FnAt Tryd.prog 5 [.ag (idR.f d), .s s, .i .i64 w0, .i .u8 tb] h (.b true) h := by
 refine FnAt.run (by kernel_rfl) (T := ⟨[⟨4, KdI, fun _ => []⟩, ⟨11, zW2, fun _ => []⟩, ⟨9, T_ID, fun _ => []⟩, ⟨14, XqU, fun _ => []⟩, ⟨20, qIJ, fun _ => []⟩], []⟩) ⟨⟨QTR, Jpw, QKC, Z51, qB1, trivial⟩, trivial⟩ Tryd.func5 sw5 fun ho hh => ?_
 have f1 : (idR.f d).length = 32 := idR.len d
 have f2 := QGw d
 have f3 := fun q => XiP q d
 have f4 : (idR.f d).take 32 = idR.f d := List.take_of_length_le (by omega)
 have ov : ∀ (D : Dg) (l : List AV), l.length = 32 → over l 0 (idR.f D) = idR.f D := fun D l hl => by
  have := idR.len D
  simp only [over, List.take_zero, List.nil_append, Nat.zero_add]
  rw [List.drop_eq_nil_of_le (by rw [this, XSv]; omega), List.append_nil]
 have f5 := ov d
 have fq : qE2 [CK.i, CK.i, CK.i, CK.i, CK.i, CK.i, CK.i, CK.i, CK.i, CK.i, CK.i, CK.i, CK.i, CK.i, CK.i, CK.i, CK.i, CK.i, CK.i, CK.i, CK.i, CK.i, CK.i, CK.i, CK.i, CK.i, CK.i, CK.i, CK.i, CK.i, CK.i, CK.i] (idR.f d) (idR.f d) = some true := by
  have := Xrx d d
  rw [decide_eq_true rfl] at this
  exact this
 obtain ⟨t, ht⟩ : ∃ t, t = txB d.l := ⟨_, rfl⟩
 have tl : t.length = 71 := by rw [ht, X1L, d.h]
 have tg := JnU d
 have tx : ∀ H, zW2 [.ag (idR.f d)] H = some (.s t, H) := fun H => by
  show (dgOf _).map _ = _
  rw [tg, ht]
  rfl
 have ti : ∀ H, T_ID [.s t] H = some (.tu [.ag (idR.f d), .ag [.i .i64 0, .i .i64 0]], H) := fun H => by
  show (if t.length ≤ 1000000 then some (idV t, H) else none) = _
  rw [if_pos (by omega), JhG, ht, K66, QIC]
  rfl
 have q0 : qE2 [CK.i, CK.i] [.i .i64 0, .i .i64 0] [.i .i64 0, .i .i64 0] = some true := rfl
 have l71 : ((71 : Nat) : Int) = 71 := rfl
 have tlI : (t.length : Int) = 71 := by omega
 have tp : ∃ m : Nat, m < 71 ∧ ∀ H, qIJ [.i .i64 w0, .i .i64 71] H = some (.i .i64 (m : Int), H) := by
  have e1 := Int.emod_nonneg w0 (b := 71) (by omega)
  have e2 := Int.emod_lt_of_pos w0 (b := 71) (by omega)
  refine ⟨(w0 % 71).toNat, by omega, fun H => ?_⟩
  show (if _ then some (AV.i .i64 (w0 % 71), H) else none) = _
  rw [if_pos ⟨hw, by omega, by omega⟩, show (((w0 % 71).toNat : Nat) : Int) = w0 % 71 from by omega]
 obtain ⟨m, hm, tp⟩ := tp
 obtain ⟨y, hy, hne⟩ := Q0w (t.getD m 0) hb.1 hb.2
 obtain ⟨x, hx⟩ : ∃ x, t.getD m 0 = x := ⟨_, rfl⟩
 rw [hx] at hy hne
 obtain ⟨t', ht'⟩ : ∃ t', t' = t.set m y := ⟨_, rfl⟩
 have tl' : t'.length = 71 := by rw [ht', List.length_set, tl]
 have c1 : (t.map u8A).length = 71 := by rw [List.length_map, tl]
 have c2 : (t.map u8A)[m]? = some (.i .u8 (x.toNat : Int)) := by
  rw [List.getElem?_map, List.getElem?_eq_getElem (by omega), ← hx, List.getD_eq_getElem?_getD, List.getElem?_eq_getElem (by omega)]
  rfl
 have c3 : over (t.map u8A) m [.i .u8 (y.toNat : Int)] = t'.map u8A := by
  rw [ht', List.map_set]
  unfold over
  rw [List.set_eq_take_append_cons_drop, if_pos (by rw [c1]; exact hm), List.length_singleton, List.append_assoc]
  rfl
 have c4 : (t'.map u8A).length = 71 := by rw [List.length_map, tl']
 have c5 : (t'.map u8A).take 71 = t'.map u8A := List.take_of_length_le (by omega)
 have c6 : (m + 1 ≤ 71) = True := eq_true (by omega)
 have c7 := XED t'
 have ia : ∀ id, iadV 1 (.sl id 0 71 71 (some 1)) (.i .i64 (m : Int)) = some (.p id m) := fun id => by
  unfold iadV
  dsimp only
  rw [if_pos (by omega), Int.toNat_natCast]
  simp
 have lm : (71 ≤ maxLen) = True := eq_true (by unfold maxLen; omega)
 obtain ⟨a', b', hf'⟩ := qDJ 8 (idF t')
 obtain ⟨D, hD⟩ : ∃ D, D = idD t' := ⟨_, rfl⟩
 have ti' : ∀ H, T_ID [.s t'] H = some (.tu [.ag (idR.f D), .ag [.i .i64 a', .i .i64 b']], H) := fun H => by
  show (if t'.length ≤ 1000000 then some (idV t', H) else none) = _
  rw [if_pos (by omega), JhG, hf', hD]
 have d1 : (idR.f D).length = 32 := idR.len D
 have d2 := QGw D
 have d3 := fun q => XiP q D
 have d4 : (idR.f D).take 32 = idR.f D := List.take_of_length_le (by omega)
 have d5 := ov D
 have k7 : (7 ≤ (m : Int)) = True ∨ idF t' = some m ∨ tb = 0 := by
  by_cases z : tb = 0
  ·exact .inr (.inr z)
  ·rcases QzA (d := d) hm (y := y) (by rw [← ht, hx]; exact hne z) with q | ⟨_, _, q⟩
   ·rw [← ht, ← ht'] at q; exact .inr (.inl q)
   ·exact .inl (eq_true (by omega))
 have fin : (tb = 0 ∧ (tb = 0) = True) ∨ ((tb = 0) = False ∧ qE2 [CK.i, CK.i] [.i .i64 a', .i .i64 b'] [.i .i64 8, .i .i64 (m : Int)] = some true) ∨ ((tb = 0) = False ∧ qE2 [CK.i, CK.i] [.i .i64 a', .i .i64 b'] [.i .i64 8, .i .i64 (m : Int)] = some false ∧ qE2 [CK.i, CK.i] [.i .i64 a', .i .i64 b'] [.i .i64 0, .i .i64 0] = some true ∧ qE2 [CK.i, CK.i, CK.i, CK.i, CK.i, CK.i, CK.i, CK.i, CK.i, CK.i, CK.i, CK.i, CK.i, CK.i, CK.i, CK.i, CK.i, CK.i, CK.i, CK.i, CK.i, CK.i, CK.i, CK.i, CK.i, CK.i, CK.i, CK.i, CK.i, CK.i, CK.i, CK.i] (idR.f D) (idR.f d) = some false ∧ (7 ≤ (m : Int)) = True) := by
  by_cases z : tb = 0
  ·exact .inl ⟨z, eq_true z⟩
  ·rcases QzA (d := d) hm (y := y) (by rw [← ht, hx]; exact hne z) with q | ⟨q, q2, q3⟩
   ·rw [← ht, ← ht'] at q
    rw [q] at hf'
    cases hf'
    exact .inr (.inl ⟨eq_false z, by simp [qE2, YLt]⟩)
   ·rw [← ht, ← ht'] at q q2
    rw [q] at hf'
    cases hf'
    refine .inr (.inr ⟨eq_false z, by simp [qE2, YLt], rfl, ?_, eq_true (by omega)⟩)
    have := Xrx D d
    rw [decide_eq_false (by rw [hD]; exact q2)] at this
    exact this
 unfold w5
 by_cases g1 : (s.length : Int) ≤ 200
 ·have g1' := eq_true g1
  obtain ⟨E, hE⟩ : ∃ E, E = idD s := ⟨_, rfl⟩
  have e1 : (idR.f E).length = 32 := idR.len E
  have e2 := QGw E
  have e3 := fun q => XiP q E
  have e4 : (idR.f E).take 32 = idR.f E := List.take_of_length_le (by omega)
  have e5 := ov E
  cases hs : idF s with
  | none =>
   have ts : ∀ H, T_ID [.s s] H = some (.tu [.ag (idR.f E), .ag [.i .i64 0, .i .i64 0]], H) := fun H => by
    show (if s.length ≤ 1000000 then some (idV s, H) else none) = _
    rw [if_pos (by omega), JhG, hs, hE]
    rfl
   have tt : ∀ H, zW2 [.ag (idR.f E)] H = some (.s s, H) := fun H => by
    show (dgOf _).map _ = _
    rw [JnU, Option.map_some, hE, XXt hs]
   have ns : binV .neq (.s s) (.s s) = some (.b false) := by
    show some (AV.b (!(s == s))) = _
    simp
   rcases fin with ⟨_, k1⟩ | ⟨k1, k2⟩ | ⟨k1, k2, k3, k4, k5⟩
   ·(simp only [XSG, YPr, XUb, KIu, Xgj, if_true, if_false, ↓reduceIte, Nat.reduceAdd, Nat.reduceSub, Nat.reduceLeDiff, Nat.reduceEqDiff, Nat.reduceMul, Nat.reduceLT, Int.reduceLT, Int.reduceLE, Int.reduceEq, CO.tmps, Opd.tmps, optT, Nat.reducePow, Nat.reduceDiv, Nat.reduceMod, g1', KdI, tx, ti, XqU, f1, f2, f3, f4, f5, fq, q0, tl, tlI, tp, XZV, zFE, c1, c2, c3, c4, c5, c6, c7, ia, lm, hy, ti', d1, d2, d3, d4, d5, k1, e1, e2, e3, e4, e5, ts, tt, ns, J9H, qiT, K8I hh, KAP hz, qnX hz, Jod hz, Bool.not_true, Bool.not_false, bne, qZv, qXC, J5n, qFe, Option.map_some, decide_true, decide_false, ne_eq, not_false_eq_true, not_true_eq_false, false_implies, forall_const, and_true, true_and]; exact Bt.dropB _ hh rfl)
   ·(simp only [XSG, YPr, XUb, KIu, Xgj, if_true, if_false, ↓reduceIte, Nat.reduceAdd, Nat.reduceSub, Nat.reduceLeDiff, Nat.reduceEqDiff, Nat.reduceMul, Nat.reduceLT, Int.reduceLT, Int.reduceLE, Int.reduceEq, CO.tmps, Opd.tmps, optT, Nat.reducePow, Nat.reduceDiv, Nat.reduceMod, g1', KdI, tx, ti, XqU, f1, f2, f3, f4, f5, fq, q0, tl, tlI, tp, XZV, zFE, c1, c2, c3, c4, c5, c6, c7, ia, lm, hy, ti', d1, d2, d3, d4, d5, k1, k2, e1, e2, e3, e4, e5, ts, tt, ns, J9H, qiT, K8I hh, KAP hz, qnX hz, Jod hz, Bool.not_true, Bool.not_false, bne, qZv, qXC, J5n, qFe, Option.map_some, decide_true, decide_false, ne_eq, not_false_eq_true, not_true_eq_false, false_implies, forall_const, and_true, true_and]; exact Bt.dropB _ hh rfl)
   ·(simp only [XSG, YPr, XUb, KIu, Xgj, if_true, if_false, ↓reduceIte, Nat.reduceAdd, Nat.reduceSub, Nat.reduceLeDiff, Nat.reduceEqDiff, Nat.reduceMul, Nat.reduceLT, Int.reduceLT, Int.reduceLE, Int.reduceEq, CO.tmps, Opd.tmps, optT, Nat.reducePow, Nat.reduceDiv, Nat.reduceMod, g1', KdI, tx, ti, XqU, f1, f2, f3, f4, f5, fq, q0, tl, tlI, tp, XZV, zFE, c1, c2, c3, c4, c5, c6, c7, ia, lm, hy, ti', d1, d2, d3, d4, d5, k1, k2, k3, k4, k5, e1, e2, e3, e4, e5, ts, tt, ns, J9H, qiT, K8I hh, KAP hz, qnX hz, Jod hz, Bool.not_true, Bool.not_false, bne, qZv, qXC, J5n, qFe, Option.map_some, decide_true, decide_false, ne_eq, not_false_eq_true, not_true_eq_false, false_implies, forall_const, and_true, true_and]; exact Bt.dropB _ hh rfl)
  | some p =>
   have hp := JHh s 0 _ p hs
   have ts : ∀ H, T_ID [.s s] H = some (.tu [.ag (idR.f E), .ag [.i .i64 8, .i .i64 (p : Int)]], H) := fun H => by
    show (if s.length ≤ 1000000 then some (idV s, H) else none) = _
    rw [if_pos (by omega), JhG, hs, hE]
    rfl
   have hz0 : E = XB5 := by rw [hE]; unfold idD; rw [if_neg (by rw [hs]; simp)]
   have qz : qE2 [CK.i, CK.i, CK.i, CK.i, CK.i, CK.i, CK.i, CK.i, CK.i, CK.i, CK.i, CK.i, CK.i, CK.i, CK.i, CK.i, CK.i, CK.i, CK.i, CK.i, CK.i, CK.i, CK.i, CK.i, CK.i, CK.i, CK.i, CK.i, CK.i, CK.i, CK.i, CK.i] (idR.f E) [.i .u8 0, .i .u8 0, .i .u8 0, .i .u8 0, .i .u8 0, .i .u8 0, .i .u8 0, .i .u8 0, .i .u8 0, .i .u8 0, .i .u8 0, .i .u8 0, .i .u8 0, .i .u8 0, .i .u8 0, .i .u8 0, .i .u8 0, .i .u8 0, .i .u8 0, .i .u8 0, .i .u8 0, .i .u8 0, .i .u8 0, .i .u8 0, .i .u8 0, .i .u8 0, .i .u8 0, .i .u8 0, .i .u8 0, .i .u8 0, .i .u8 0, .i .u8 0] = some true := by
    have := Xrx E E
    rw [decide_eq_true rfl] at this
    rw [hz0] at this ⊢
    rw [← XtY]
    exact this
   have qp : qE2 [CK.i, CK.i] [.i .i64 8, .i .i64 (p : Int)] [.i .i64 0, .i .i64 0] = some false := by simp [qE2, YLt]
   have p0 : ((p : Int) < 0) = False := eq_false (by omega)
   have p1 : ((s.length : Int) < (p : Int)) = False := eq_false (by omega)
   rcases fin with ⟨_, k1⟩ | ⟨k1, k2⟩ | ⟨k1, k2, k3, k4, k5⟩
   ·(simp only [XSG, YPr, XUb, KIu, Xgj, if_true, if_false, ↓reduceIte, Nat.reduceAdd, Nat.reduceSub, Nat.reduceLeDiff, Nat.reduceEqDiff, Nat.reduceMul, Nat.reduceLT, Int.reduceLT, Int.reduceLE, Int.reduceEq, CO.tmps, Opd.tmps, optT, Nat.reducePow, Nat.reduceDiv, Nat.reduceMod, g1', KdI, tx, ti, XqU, f1, f2, f3, f4, f5, fq, q0, tl, tlI, tp, XZV, zFE, c1, c2, c3, c4, c5, c6, c7, ia, lm, hy, ti', d1, d2, d3, d4, d5, k1, e1, e2, e3, e4, e5, ts, qz, qp, p0, p1, J9H, qiT, K8I hh, KAP hz, qnX hz, Jod hz, Bool.not_true, Bool.not_false, bne, qZv, qXC, J5n, qFe, Option.map_some, decide_true, decide_false, ne_eq, not_false_eq_true, not_true_eq_false, false_implies, forall_const, and_true, true_and]; exact Bt.dropB _ hh rfl)
   ·(simp only [XSG, YPr, XUb, KIu, Xgj, if_true, if_false, ↓reduceIte, Nat.reduceAdd, Nat.reduceSub, Nat.reduceLeDiff, Nat.reduceEqDiff, Nat.reduceMul, Nat.reduceLT, Int.reduceLT, Int.reduceLE, Int.reduceEq, CO.tmps, Opd.tmps, optT, Nat.reducePow, Nat.reduceDiv, Nat.reduceMod, g1', KdI, tx, ti, XqU, f1, f2, f3, f4, f5, fq, q0, tl, tlI, tp, XZV, zFE, c1, c2, c3, c4, c5, c6, c7, ia, lm, hy, ti', d1, d2, d3, d4, d5, k1, k2, e1, e2, e3, e4, e5, ts, qz, qp, p0, p1, J9H, qiT, K8I hh, KAP hz, qnX hz, Jod hz, Bool.not_true, Bool.not_false, bne, qZv, qXC, J5n, qFe, Option.map_some, decide_true, decide_false, ne_eq, not_false_eq_true, not_true_eq_false, false_implies, forall_const, and_true, true_and]; exact Bt.dropB _ hh rfl)
   ·(simp only [XSG, YPr, XUb, KIu, Xgj, if_true, if_false, ↓reduceIte, Nat.reduceAdd, Nat.reduceSub, Nat.reduceLeDiff, Nat.reduceEqDiff, Nat.reduceMul, Nat.reduceLT, Int.reduceLT, Int.reduceLE, Int.reduceEq, CO.tmps, Opd.tmps, optT, Nat.reducePow, Nat.reduceDiv, Nat.reduceMod, g1', KdI, tx, ti, XqU, f1, f2, f3, f4, f5, fq, q0, tl, tlI, tp, XZV, zFE, c1, c2, c3, c4, c5, c6, c7, ia, lm, hy, ti', d1, d2, d3, d4, d5, k1, k2, k3, k4, k5, e1, e2, e3, e4, e5, ts, qz, qp, p0, p1, J9H, qiT, K8I hh, KAP hz, qnX hz, Jod hz, Bool.not_true, Bool.not_false, bne, qZv, qXC, J5n, qFe, Option.map_some, decide_true, decide_false, ne_eq, not_false_eq_true, not_true_eq_false, false_implies, forall_const, and_true, true_and]; exact Bt.dropB _ hh rfl)
 ·have g1' := eq_false g1
  rcases fin with ⟨_, k1⟩ | ⟨k1, k2⟩ | ⟨k1, k2, k3, k4, k5⟩
  ·(simp only [XSG, YPr, XUb, KIu, Xgj, if_true, if_false, ↓reduceIte, Nat.reduceAdd, Nat.reduceSub, Nat.reduceLeDiff, Nat.reduceEqDiff, Nat.reduceMul, Nat.reduceLT, Int.reduceLT, Int.reduceLE, Int.reduceEq, CO.tmps, Opd.tmps, optT, Nat.reducePow, Nat.reduceDiv, Nat.reduceMod, g1', KdI, tx, ti, XqU, f1, f2, f3, f4, f5, fq, q0, tl, tlI, tp, XZV, zFE, c1, c2, c3, c4, c5, c6, c7, ia, lm, hy, ti', d1, d2, d3, d4, d5, k1, J9H, qiT, K8I hh, KAP hz, qnX hz, Jod hz, Bool.not_true, Bool.not_false, bne, qZv, qXC, J5n, qFe, Option.map_some, decide_true, decide_false, ne_eq, not_false_eq_true, not_true_eq_false, false_implies, forall_const, and_true, true_and]; exact Bt.dropB _ hh rfl)
  ·(simp only [XSG, YPr, XUb, KIu, Xgj, if_true, if_false, ↓reduceIte, Nat.reduceAdd, Nat.reduceSub, Nat.reduceLeDiff, Nat.reduceEqDiff, Nat.reduceMul, Nat.reduceLT, Int.reduceLT, Int.reduceLE, Int.reduceEq, CO.tmps, Opd.tmps, optT, Nat.reducePow, Nat.reduceDiv, Nat.reduceMod, g1', KdI, tx, ti, XqU, f1, f2, f3, f4, f5, fq, q0, tl, tlI, tp, XZV, zFE, c1, c2, c3, c4, c5, c6, c7, ia, lm, hy, ti', d1, d2, d3, d4, d5, k1, k2, J9H, qiT, K8I hh, KAP hz, qnX hz, Jod hz, Bool.not_true, Bool.not_false, bne, qZv, qXC, J5n, qFe, Option.map_some, decide_true, decide_false, ne_eq, not_false_eq_true, not_true_eq_false, false_implies, forall_const, and_true, true_and]; exact Bt.dropB _ hh rfl)
  ·(simp only [XSG, YPr, XUb, KIu, Xgj, if_true, if_false, ↓reduceIte, Nat.reduceAdd, Nat.reduceSub, Nat.reduceLeDiff, Nat.reduceEqDiff, Nat.reduceMul, Nat.reduceLT, Int.reduceLT, Int.reduceLE, Int.reduceEq, CO.tmps, Opd.tmps, optT, Nat.reducePow, Nat.reduceDiv, Nat.reduceMod, g1', KdI, tx, ti, XqU, f1, f2, f3, f4, f5, fq, q0, tl, tlI, tp, XZV, zFE, c1, c2, c3, c4, c5, c6, c7, ia, lm, hy, ti', d1, d2, d3, d4, d5, k1, k2, k3, k4, k5, J9H, qiT, K8I hh, KAP hz, qnX hz, Jod hz, Bool.not_true, Bool.not_false, bne, qZv, qXC, J5n, qFe, Option.map_some, decide_true, decide_false, ne_eq, not_false_eq_true, not_true_eq_false, false_implies, forall_const, and_true, true_and]; exact Bt.dropB _ hh rfl)
end Go.Proofs.YthhghdebjiiliaaDoor
end
