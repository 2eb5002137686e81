/- Part 4 of what the laws' proofs rest on. No condition. -/
import Derived.Test.YthhghdebjiiliaaDoorPb3
set_option linter.all false
section
namespace Go.Proofs.YthhghdebjiiliaaDoor
open Go.RowKit
section
variable {P : Program} {K : Code → CC → Prop}
theorem zPz {ρ : Mp} {h h' : List AB} {w : World} {s : Sem Unit} (g : ∃ w', s.run P w = .ok () w' ∧ Rel K ρ h' w' ∧ Eff ρ h w ρ h' w') : ZsK K P ρ h w (do s; pure .skip) (.tu [], h') :=
 let ⟨w', e, h1, h2⟩ := g
 ⟨undef, w', ρ, .inr ⟨by simp [e], rfl⟩, Ext.refl _, h1, .tu [] #[] rfl (fun j a c h => by simp at h), h2⟩
theorem Z0c {ρ : Mp} {h : List AB} {w : World} (hr : Rel K ρ h w) {a : AV} {v : Value} (hv : VR ρ a v) : ZsK K P ρ h w (pure (.value v)) (a, h) :=
 ⟨v, w, ρ, .inl rfl, Ext.refl _, hr, hv, Eff.refl _ _ _⟩
set_option maxHeartbeats 4000000 in
theorem qm1 {ρ : Mp} {h : List AB} {w : World} (hr : Rel K ρ h w) {f : Operand → Value} {fr : List AV} (hev : EV ρ f (Opd.ev fr)) {o : Oper} {co : CO} (hc : XtX P o.op = some co) {r : AV × List AB} (er : co.run (Opd.ev fr) h = some r) : ZsK K P ρ h w (execOp f o) r := by
 obtain ⟨dst, op, ty, pos, after, guard⟩ := o
 unfold execOp
 cases op with
 | move x =>
  obtain ⟨a, ha, rfl⟩ := Option.map_eq_some_iff.1 hc
  cases er
  exact Z0c hr (hev x a ha)
 | assign x =>
  obtain ⟨a, ha, rfl⟩ := Option.map_eq_some_iff.1 hc
  cases er
  exact Z0c hr (hev x a ha)
 | pick c a b =>
  simp only [XtX] at hc
  obtain ⟨c', h1, hc⟩ := Option.bind_eq_some_iff.1 hc
  obtain ⟨a', h2, hc⟩ := Option.bind_eq_some_iff.1 hc
  obtain ⟨b', h3, rfl⟩ := Option.map_eq_some_iff.1 hc
  simp only [CO.run] at er
  split at er
  ·rename_i t ht
   cases er
   have v1 := hev c c' h1
   rw [ht] at v1
   dsimp only
   generalize f c = vc at v1 ⊢
   cases v1
   cases t
   ·exact ⟨_, w, ρ, .inl (by simp [asBool]), Ext.refl _, hr, hev b b' h3, Eff.refl _ _ _⟩
   ·exact ⟨_, w, ρ, .inl (by simp [asBool]), Ext.refl _, hr, hev a a' h2, Eff.refl _ _ _⟩
  ·cases er
 | alloc e =>
  obtain ⟨zs, hz, rfl⟩ := Option.map_eq_some_iff.1 hc
  obtain ⟨i, z, hi, hzz, hl⟩ := KPh hz
  have g := Ycj (P := P) hr e _ (YJF ρ hl) er
  obtain ⟨v', w', ρ', e1, rest⟩ := g
  refine ⟨v', w', ρ', .inl ?_, rest⟩
  have e2 : (Instr.alloc e true (.tuple #[])).run P w = .ok v' w' := by
   rw [← e1]
   simp [Instr.alloc, zeroValue, typeInfo, hi, hzz]
  simp [e2]
 | box e x =>
  simp only [XtX] at hc
  obtain ⟨a, ha, hc⟩ := Option.bind_eq_some_iff.1 hc
  obtain ⟨zs, hz, rfl⟩ := Option.map_eq_some_iff.1 hc
  simp only [CO.run] at er
  split at er
  ·rename_i hl
   have hk : (Opd.ev fr a).known = true := by
    have := (K2I er).1
    cases hq : Opd.ev fr a <;> first | rfl | (rw [hq] at this; simp [AV.cells, wrOk, AV.flat, AV.one] at this)
   exact (Ycj (P := P) hr e _ ((hev x a ha).cellsVL hk) er).next
  ·cases er
 | build t ps =>
  simp only [XtX] at hc
  obtain ⟨zs, hz, hc⟩ := Option.bind_eq_some_iff.1 hc
  obtain ⟨i, z, hi, hzz, hl⟩ := KPh hz
  split at hc
  ·rename_i fs hu
   obtain ⟨pl, hpl, hc⟩ := Option.bind_eq_some_iff.1 hc
   obtain ⟨q, hq, rfl⟩ := Option.map_eq_some_iff.1 hc
   obtain ⟨cs, hcs, rfl⟩ := Option.map_eq_some_iff.1 er
   refine (Y7M t hu hi hzz (places := pl.toArray) (fun w => qhO fs _ pl w (JNK fs.toList pl hpl w)) (parts := ps.map fun (i, x) => (i, f x)) ?_ (YJF ρ hl) hcs).next hr
   have := hev.parts hq
   simpa using this
  ·rename_i n e hu
   obtain ⟨k, hk, hc⟩ := Option.bind_eq_some_iff.1 hc
   obtain ⟨q, hq, rfl⟩ := Option.map_eq_some_iff.1 hc
   obtain ⟨cs, hcs, rfl⟩ := Option.map_eq_some_iff.1 er
   obtain ⟨ie, hie, rfl⟩ := qoB hk
   refine (X6T t e hu hi hzz hie (parts := ps.map fun (i, x) => (i, f x)) ?_ (YJF ρ hl) hcs).next hr
   have := hev.parts hq
   simpa using this
  ·cases hc
 | buildSlice t len ps =>
  simp only [XtX] at hc
  split at hc
  ·rename_i e hu
   obtain ⟨ie, hie, hc⟩ := Option.bind_eq_some_iff.1 hc
   obtain ⟨z, hz, hc⟩ := Option.bind_eq_some_iff.1 hc
   obtain ⟨zs, hzs, hc⟩ := Option.bind_eq_some_iff.1 hc
   obtain ⟨ze, hze, hc⟩ := Option.bind_eq_some_iff.1 hc
   split at hc
   ·rename_i hb
    obtain ⟨q, hq, rfl⟩ := Option.map_eq_some_iff.1 hc
    simp only [CO.run] at er
    obtain ⟨cs, hcs, er⟩ := Option.bind_eq_some_iff.1 er
    refine (QP4 (P := P) hr t e hu hie hz len hb.1 _ (parts := ps.map fun (i, x) => (i, f x)) ?_ (YJF ρ hzs) hcs hb.2 er).next
    have := hev.parts hq
    simpa using this
   ·cases hc
  ·cases hc
 | load t x =>
  simp only [XtX] at hc
  obtain ⟨a, ha, hc⟩ := Option.bind_eq_some_iff.1 hc
  obtain ⟨n, hn, rfl⟩ := Option.map_eq_some_iff.1 hc
  obtain ⟨d, i, hd, hi, rfl⟩ := zEV hn
  obtain ⟨v, hv, rfl⟩ := Option.map_eq_some_iff.1 er
  exact (z2F hr t hd hi (hev x a ha) hv).next
 | store t x y =>
  simp only [XtX] at hc
  obtain ⟨a, ha, hc⟩ := Option.bind_eq_some_iff.1 hc
  obtain ⟨b, hb, hc⟩ := Option.bind_eq_some_iff.1 hc
  obtain ⟨n, hn, hc⟩ := Option.bind_eq_some_iff.1 hc
  split at hc
  ·rename_i h1
   cases hc
   obtain ⟨d, i, hd, hi, rfl⟩ := zEV hn
   obtain ⟨h', hv, rfl⟩ := Option.map_eq_some_iff.1 er
   refine zPz (Q9F hr t (ag := isAg d) hi (fun hd => ?_) (hev x a ha) (hev y b hb) hv)
   have := h1 (by rw [hd]; rfl)
   unfold szOf at this
   rw [hi] at this
   simpa using this
  ·cases hc
 | nilCheck x =>
  obtain ⟨a, ha, rfl⟩ := Option.map_eq_some_iff.1 hc
  have va := hev x a ha
  simp only [CO.run] at er
  dsimp only
  generalize f x = vx at va ⊢
  split at er
  ·rename_i hq
   rw [hq] at va
   cases er
   cases va with
   | p _ _ b o n hh => exact Z0c hr (VR.p _ _ b o n hh)
  ·rename_i hq
   rw [hq] at va
   cases er
   cases va with
   | f _ _ _ fst' cap' h0 h1 h2 h3 => exact Z0c hr (VR.f _ _ _ fst' cap' h0 h1 h2 h3)
  ·rename_i hq
   rw [hq] at va
   cases er
   cases va with
   | f _ _ _ fst' cap' h0 h1 h2 h3 => exact Z0c hr (VR.f _ _ _ fst' cap' h0 h1 h2 h3)
  ·rename_i hq
   rw [hq] at va
   cases er
   cases va with
   | ifc _ _ v' h1 => exact Z0c hr (VR.ifc _ _ v' h1)
  ·cases er
 | binOp op t x y yt => exact z7r hr hev hc er
 | unOp op t x =>
  obtain ⟨a, ha, rfl⟩ := Option.map_eq_some_iff.1 hc
  obtain ⟨v, hv, rfl⟩ := Option.map_eq_some_iff.1 er
  exact (J7L op (hev x a ha) hv).next hr
 | convert src dst x =>
  simp only [XtX, Q02] at hc
  obtain ⟨a, ha, hc1⟩ := Option.bind_eq_some_iff.1 hc
  clear hc
  have hc := hc1
  clear hc1
  have va := hev x a ha
  split at hc
  ·rename_i k0 k hs hd
   cases hc
   obtain ⟨n, hn, rfl⟩ := Option.map_eq_some_iff.1 er
   exact (JKU src dst k hs hd va hn).next hr
  ·rename_i hs hd
   cases hc
   simp only [CO.run] at er
   split at er
   ·rename_i l hl
    cases er
    rw [hl] at va
    exact (XJD src dst hs hd va).next hr
   ·cases er
  ·rename_i e hs hd
   split at hc
   ·rename_i he
    cases hc
    simp only [CO.run] at er
    split at er
    ·cases er
    ·rename_i hns
     obtain ⟨⟨m, cs⟩, hsrc, er⟩ := Option.bind_eq_some_iff.1 er
     obtain ⟨l, hl, rfl⟩ := Option.map_eq_some_iff.1 er
     exact (quP (P := P) hr src dst e hs he hd (XBI (by simpa using hns)) va hsrc hl).next
   ·cases hc
  ·rename_i e hs hd
   split at hc
   ·rename_i he
    cases hc
    simp only [CO.run] at er
    split at er
    ·rename_i l hl
     split at er
     ·rename_i hlm
      cases er
      rw [hl] at va
      exact (Xoy (P := P) hr src dst e hs hd he va hlm).next
     ·cases er
    ·cases er
   ·cases hc
  ·rename_i e0 e hs hd
   split at hc
   ·rename_i hsd
    subst hsd
    split at hc
    ·rename_i he
     cases hc
     simp only [CO.run] at er
     split at er
     ·rename_i id off n c k hl
      split at er
      ·cases er
      ·rename_i hn
       split at er
       ·rename_i fl xs hi
        cases er
        rw [hl] at va
        exact (qmA (P := P) hr src e hd he hn va hi).next
       ·cases er
     ·cases er
    ·cases hc
   ·cases hc
  ·cases hc
 | makeInterface t x =>
  simp only [XtX] at hc
  obtain ⟨a, ha, hc⟩ := Option.bind_eq_some_iff.1 hc
  split at hc
  ·cases hc
  ·cases hc
  ·rename_i d hn1 hn2
   cases hc
   cases er
   cases hu : P.underlying t with
   | none => exact absurd hu hn1
   | some d => exact (zNj t hu (fun ms e => hn2 ms (by rw [hu, e])) (hev x a ha)).next hr
 | makeFunc fn first cap =>
  simp only [XtX] at hc
  obtain ⟨l0, hl0, hc⟩ := Option.bind_eq_some_iff.1 hc
  obtain ⟨l, hl, rfl⟩ := Option.map_eq_some_iff.1 hc
  cases er
  have hv0 := hev.vl hl0
  have hv := hev.vl hl
  refine (Ans.mk (P := P) (v := .func fn (first.map f) (cap.map f)) (fun w => by simp [Instr.makeFunc]) (.f fn _ _ _ _ ?_ ?_ ?_ ?_)).next hr
  ·have := hv0.1; simpa using this
  ·have := hv.1; simpa using this
  ·intro j a c h1 h2
   exact hv0.2 j a c h1 (by simpa using h2)
  ·intro j a c h1 h2
   exact hv.2 j a c h1 (by simpa using h2)
 | makeSlice t l c =>
  simp only [XtX] at hc
  obtain ⟨a, ha, hc⟩ := Option.bind_eq_some_iff.1 hc
  obtain ⟨b, hb, hc⟩ := Option.bind_eq_some_iff.1 hc
  split at hc
  ·rename_i e hu
   obtain ⟨ie, hie, hc⟩ := Option.bind_eq_some_iff.1 hc
   obtain ⟨zs, hz, hc⟩ := Option.bind_eq_some_iff.1 hc
   split at hc
   ·rename_i hq
    cases hc
    obtain ⟨i, z, hi, hzz, hl⟩ := KPh hz
    rw [hie] at hi
    cases hi
    simp only [CO.run] at er
    have va := hev l a ha
    have vb := hev c b hb
    split at er
    ·rename_i k1 n1 k2 n2 q1 q2
     split at er
     ·rename_i hcond
      rw [q1] at va
      rw [q2] at vb
      dsimp only
      generalize f l = vl at va ⊢
      generalize f c = vc at vb ⊢
      cases va
      cases vb
      have hvz := YJF ρ hl
      exact (qFo (P := P) hr t e hu hie hzz (by rw [← hvz.1]; exact hq.1) hq.2 _ hvz hcond.1 hcond.2.1 hcond.2.2.1 hcond.2.2.2 er).next
     ·cases er
    ·cases er
   ·cases hc
  ·cases hc
 | slice t x lo hi mx =>
  simp only [XtX] at hc
  obtain ⟨a, ha, hc⟩ := Option.bind_eq_some_iff.1 hc
  obtain ⟨lo', h1, hc⟩ := Option.bind_eq_some_iff.1 hc
  obtain ⟨hi', h2, hc⟩ := Option.bind_eq_some_iff.1 hc
  obtain ⟨mx', h3, hc⟩ := Option.bind_eq_some_iff.1 hc
  have va := hev x a ha
  have v1 := hev.vo h1
  have v2 := hev.vo h2
  have v3 := hev.vo h3
  split at hc
  ·rename_i hu
   split at hc
   ·rename_i hm
    cases hc
    simp only [CO.run] at er
    split at er
    ·rename_i l hl
     obtain ⟨v, hv, rfl⟩ := Option.map_eq_some_iff.1 er
     rw [hl] at va
     cases mx with
     | none => exact (Kr7 t hu va v1 v2 hv).next hr
     | some m =>
      obtain ⟨m', _, rfl⟩ := Option.map_eq_some_iff.1 h3
      simp at hm
    ·cases er
   ·cases hc
  ·rename_i e hu
   obtain ⟨n, hn, rfl⟩ := Option.map_eq_some_iff.1 hc
   obtain ⟨i, hi, rfl⟩ := qoB hn
   obtain ⟨v, hv, rfl⟩ := Option.map_eq_some_iff.1 er
   exact (qLo t e hu hi va v1 v2 v3 hv).next hr
  ·rename_i k e hu
   split at hc
   ·rename_i hk
    obtain ⟨n, hn, rfl⟩ := Option.map_eq_some_iff.1 hc
    obtain ⟨i, hi, rfl⟩ := qoB hn
    obtain ⟨v, hv, rfl⟩ := Option.map_eq_some_iff.1 er
    exact (quK t e hu hi hk va v1 v2 v3 hv).next hr
   ·cases hc
  ·cases hc
 | fieldAddr s x fi =>
  simp only [XtX, Ykx] at hc
  obtain ⟨a, ha, hc⟩ := Option.bind_eq_some_iff.1 hc
  obtain ⟨⟨off, n, k⟩, h1, hc⟩ := Option.bind_eq_some_iff.1 hc
  simp only at hc
  split at h1
  ·rename_i fs hu
   obtain ⟨fd, hfd, h1⟩ := Option.bind_eq_some_iff.1 h1
   obtain ⟨n', hn, h1⟩ := Option.bind_eq_some_iff.1 h1
   obtain ⟨k', hk, h1⟩ := Option.map_eq_some_iff.1 h1
   cases h1
   obtain ⟨i, hi, rfl⟩ := qoB hk
   split at hc
   ·rename_i hz
    cases hc
    simp only [CO.run] at er
    have va := hev x a ha
    split at er
    ·rename_i id o hq
     cases er
     rw [hq] at va
     exact (qWl s fi hu hfd hi hz va).next hr
    ·cases er
   ·cases hc
  ·cases h1
 | field s x fi =>
  simp only [XtX, Ykx] at hc
  obtain ⟨a, ha, hc⟩ := Option.bind_eq_some_iff.1 hc
  obtain ⟨⟨off, n, k⟩, h1, rfl⟩ := Option.map_eq_some_iff.1 hc
  split at h1
  ·rename_i fs hu
   obtain ⟨fd, hfd, h1⟩ := Option.bind_eq_some_iff.1 h1
   obtain ⟨n', hn, h1⟩ := Option.bind_eq_some_iff.1 h1
   obtain ⟨k', hk, h1⟩ := Option.map_eq_some_iff.1 h1
   cases h1
   obtain ⟨d, i, hd, hi, rfl⟩ := zEV hn
   simp only [CO.run] at er
   have va := hev x a ha
   split at er
   ·rename_i l hl
    rw [hl] at va
    have key : ∃ v, zCU (isAg d) fd.offset i.size l = some v ∧ r = (v, h) := by
     unfold zCU
     cases hag : isAg d
     ·simp only [hag, Bool.false_eq_true, if_false] at er ⊢
      obtain ⟨v, hv, rfl⟩ := Option.map_eq_some_iff.1 er
      exact ⟨v, hv, rfl⟩
     ·simp only [hag, if_true] at er ⊢
      cases er
      exact ⟨_, rfl, rfl⟩
    obtain ⟨v, hv, rfl⟩ := key
    exact (qQl s fi hu hfd hi hd va hv).next hr
   ·cases er
  ·cases h1
 | indexAddr t x i =>
  simp only [XtX] at hc
  obtain ⟨a, ha, hc⟩ := Option.bind_eq_some_iff.1 hc
  obtain ⟨b, hb, hc⟩ := Option.bind_eq_some_iff.1 hc
  have va := hev x a ha
  have vb := hev i b hb
  split at hc
  ·rename_i e hu
   obtain ⟨n, hn, rfl⟩ := Option.map_eq_some_iff.1 hc
   obtain ⟨ie, hie, rfl⟩ := qoB hn
   simp only [CO.run] at er
   split at er
   ·rename_i q1 q2
    split at er
    ·rename_i hcond
     cases er
     rw [q1] at va
     rw [q2] at vb
     dsimp only
     generalize f i = vi at vb ⊢
     cases vb
     exact (Kw6 t e hu hie va hcond.1 hcond.2).next hr
    ·cases er
   ·cases er
  ·rename_i k e hu
   obtain ⟨n, hn, rfl⟩ := Option.map_eq_some_iff.1 hc
   obtain ⟨ie, hie, rfl⟩ := qoB hn
   simp only [CO.run] at er
   split at er
   ·rename_i q1 q2
    split at er
    ·rename_i hcond
     cases er
     rw [q1] at va
     rw [q2] at vb
     dsimp only
     generalize f i = vi at vb ⊢
     cases vb
     exact (K80 t e hu hie va hcond.1 hcond.2).next hr
    ·cases er
   ·cases er
  ·cases hc
 | index t x i =>
  simp only [XtX] at hc
  obtain ⟨a, ha, hc⟩ := Option.bind_eq_some_iff.1 hc
  obtain ⟨b, hb, hc⟩ := Option.bind_eq_some_iff.1 hc
  have va := hev x a ha
  have vb := hev i b hb
  split at hc
  ·rename_i hu
   cases hc
   simp only [CO.run] at er
   split at er
   ·rename_i q1 q2
    split at er
    ·rename_i h0
     obtain ⟨u, hu', rfl⟩ := Option.map_eq_some_iff.1 er
     rw [q1] at va
     rw [q2] at vb
     dsimp only
     generalize f i = vi at vb ⊢
     cases vb
     exact (qHx t hu va h0 hu').next hr
    ·cases er
   ·cases er
  ·rename_i k e hu
   obtain ⟨n, hn, hc⟩ := Option.bind_eq_some_iff.1 hc
   obtain ⟨g, hg, rfl⟩ := Option.map_eq_some_iff.1 hc
   obtain ⟨ie, hie, rfl⟩ := qoB hn
   obtain ⟨d, i2, hd, hi2, rfl⟩ := zEV hg
   rw [hie] at hi2
   cases hi2
   simp only [CO.run] at er
   split at er
   ·rename_i l kk m q1 q2
    split at er
    ·rename_i hcond
     rw [q1] at va
     rw [q2] at vb
     dsimp only
     generalize f i = vi at vb ⊢
     cases vb
     have key : ∃ v, zCU (isAg d) (m.toNat * ie.size) ie.size l = some v ∧ r = (v, h) := by
      unfold zCU
      cases hag : isAg d
      ·simp only [hag, Bool.false_eq_true, if_false, Option.isSome_none] at er ⊢
       obtain ⟨v, hv, rfl⟩ := Option.map_eq_some_iff.1 er
       exact ⟨v, hv, rfl⟩
      ·simp only [hag, if_true, Option.isSome_some] at er ⊢
       cases er
       exact ⟨_, rfl, rfl⟩
     obtain ⟨v, hv, rfl⟩ := key
     exact (XeD t e hu hie hd va hcond.1 hcond.2 hv).next hr
    ·cases er
   ·cases er
  ·cases hc
 | typeAssert x tx t ok =>
  simp only [XtX] at hc
  obtain ⟨a, ha, hc⟩ := Option.bind_eq_some_iff.1 hc
  obtain ⟨z, hz, hc⟩ := Option.bind_eq_some_iff.1 hc
  obtain ⟨zv, hzv, hc⟩ := Option.bind_eq_some_iff.1 hc
  obtain ⟨i, hi, hz⟩ := Option.bind_eq_some_iff.1 hz
  split at hc
  ·cases hc
  ·cases hc
  ·rename_i hn1 hn2
   cases hc
   cases hu : P.underlying t with
   | none => exact absurd hu hn1
   | some d =>
    have key : ∃ v, tasV t ok zv (Opd.ev fr a) = some v ∧ r = (v, h) := by
     unfold tasV
     simp only [CO.run] at er
     split at er
     ·rename_i hq
      try rw [hq]
      split at er
      ·rename_i he; cases er; exact ⟨_, by simp [he], rfl⟩
      ·rename_i he
       split at er
       ·rename_i ho; cases er; exact ⟨_, by simp [he, ho], rfl⟩
       ·cases er
     ·rename_i hq
      try rw [hq]
      split at er
      ·rename_i ho; cases er; exact ⟨_, by simp [ho], rfl⟩
      ·cases er
     ·cases er
    obtain ⟨v, hv, rfl⟩ := key
    exact (X44 tx t ok hu (fun ms e => hn2 ms (by rw [hu, e])) hi hz (XmU ρ hzv) (hev x a ha) hv).next hr
 | extract x i =>
  obtain ⟨a, ha, rfl⟩ := Option.map_eq_some_iff.1 hc
  simp only [CO.run] at er
  have va := hev x a ha
  split at er
  ·rename_i l hl
   obtain ⟨v, hv, rfl⟩ := Option.map_eq_some_iff.1 er
   rw [hl] at va
   exact (zGT va i hv).next hr
  ·cases er
 | call c => exact zaY hr hev hc er
 | range t x =>
  simp only [XtX] at hc
  obtain ⟨a, ha, hc⟩ := Option.bind_eq_some_iff.1 hc
  have va := hev x a ha
  split at hc
  ·rename_i ht
   cases hc
   simp only [CO.run] at er
   split at er
   ·rename_i l hl
    cases er
    rw [hl] at va
    exact (XWY (P := P) hr t ht va).next
   ·cases er
  ·cases hc
 | next x b =>
  simp only [XtX] at hc
  obtain ⟨a, ha, hc1⟩ := Option.bind_eq_some_iff.1 hc
  clear hc
  have hc := hc1
  clear hc1
  have va := hev x a ha
  split at hc
  ·rename_i hb
   subst hb
   cases hc
   simp only [CO.run] at er
   split at er
   ·rename_i id hl
    split at er
    ·rename_i s pos hi
     rw [hl] at va
     exact (Z8l (P := P) hr _ va hi er).next
    ·cases er
   ·cases er
  ·cases hc
 | _ => cases hc
end
end Go.Proofs.YthhghdebjiiliaaDoor
end
section
namespace Go.Proofs.YthhghdebjiiliaaDoor
open Go.RowKit
def Opd.tmps : Opd → List Nat
 | .t n => [n]
 | .c _ => []
def optT : Option Opd → List Nat
 | some x => x.tmps
 | none => []
def CO.tmps : CO → List Nat
 | .mv a0 => a0.tmps
 | .pick a0 a1 a2 => a0.tmps ++ a1.tmps ++ a2.tmps
 | .bin _ a1 a2 => a1.tmps ++ a2.tmps
 | .eqb _ a1 a2 => a1.tmps ++ a2.tmps
 | .eqc _ _ a2 a3 => a2.tmps ++ a3.tmps
 | .eqn _ a1 a2 => a1.tmps ++ a2.tmps
 | .un _ a1 => a1.tmps
 | .cvi _ a1 => a1.tmps
 | .cvs a0 => a0.tmps
 | .fad _ a1 => a1.tmps
 | .fld _ _ a2 => a2.tmps
 | .iad _ a1 a2 => a1.tmps ++ a2.tmps
 | .iaa _ _ a2 a3 => a2.tmps ++ a3.tmps
 | .ixs a0 a1 => a0.tmps ++ a1.tmps
 | .ixa _ _ _ a3 a4 => a3.tmps ++ a4.tmps
 | .sls a0 a1 a2 => a0.tmps ++ optT a1 ++ optT a2
 | .sll _ a1 a2 a3 a4 => a1.tmps ++ optT a2 ++ optT a3 ++ optT a4
 | .sla _ _ a2 a3 a4 a5 => a2.tmps ++ optT a3 ++ optT a4 ++ optT a5
 | .ifc _ a1 => a1.tmps
 | .mkf _ a1 a2 => a1.flatMap Opd.tmps ++ a2.flatMap Opd.tmps
 | .ext a0 _ => a0.tmps
 | .len _ a1 => a1.tmps
 | .lnc _ => []
 | .mm _ a1 a2 => a1.tmps ++ a2.tmps
 | .nck a0 => a0.tmps
 | .tas a0 _ _ _ => a0.tmps
 | .ld _ a1 => a1.tmps
 | .st _ a1 a2 => a1.tmps ++ a2.tmps
 | .new _ _ => []
 | .box _ _ a2 => a2.tmps
 | .bld _ a1 => a1.flatMap (fun x => x.2.2.tmps)
 | .bls _ _ _ a3 => a3.flatMap (fun x => x.2.2.tmps)
 | .mks _ _ _ a3 a4 => a3.tmps ++ a4.tmps
 | .app _ _ _ _ a4 a5 => a4.tmps ++ a5.tmps
 | .cpy _ _ a2 a3 => a2.tmps ++ a3.tmps
 | .capo a0 => a0.tmps
 | .apz _ _ _ a3 a4 => a3.tmps ++ a4.tmps
 | .stop => []
 | .b2s a0 => a0.tmps
 | .clr _ a1 => a1.tmps
 | .bcmp a0 a1 => a0.tmps ++ a1.tmps
 | .s2b a0 => a0.tmps
 | .rng a0 => a0.tmps
 | .nxt a0 => a0.tmps
 | .s2s a0 => a0.tmps
 | .bix a0 a1 => a0.tmps ++ a1.tmps
 | .call a0 a1 => a0.tmps ++ a1.flatMap Opd.tmps
def COper.tmps (o : COper) : List Nat := (match o.guard with | some (t, _) => [t] | none => []) ++ o.op.tmps
def memN (n : Nat) : List Nat → Bool
 | [] => false
 | m :: l => if Nat.beq m n then true else memN n l
def bit (k m : Nat) : Bool := Nat.beq (Nat.land (Nat.shiftRight m k) 1) 1
def KyQ (l : List Nat) : Nat := l.foldl (fun m k => Nat.lor m (Nat.shiftLeft 1 k)) 0
def clos : List Nat → List (COper × List Nat) → List DOp
 | _, [] => []
 | acc, (o, deps) :: l =>
  let anc := deps.foldl (fun m d => Nat.lor m (Nat.lor (Nat.shiftLeft 1 d) (acc.getD d 0))) 0
  ⟨o, anc, KyQ o.tmps⟩ :: clos (acc ++ [anc]) l
def XEH (e d : DOp) : Bool :=
  (match e.o.dst with
   | none => true
   | some t => !bit t d.us && (match d.o.dst with | none => true | some u => !Nat.beq u t)) &&
  (match d.o.dst with
   | none => true
   | some t => !bit t e.us)
def QVr (d : DOp) : Nat → List DOp → Bool
 | _, [] => true
 | j, e :: es => (if bit j d.anc then Nat.beq (Nat.land e.anc d.anc) e.anc else XEH e d) && QVr d (j + 1) es
def KPd : List DOp → List DOp → List (List Nat) → Bool
 | _, [], [] => true
 | pre, d :: ds, dp :: dps => (dp.all fun x => bit x d.anc) && Nat.blt d.anc (2 ^ pre.length) && QVr d 0 pre && KPd (pre ++ [d]) ds dps
 | _, _, _ => false
inductive CI where
 | code (c : CC)
 | blk (id : Nat)
 | lp (c : CC)
 | sc
 | ops (l : List COper)
 | br
inductive RC where
 | t (n : Nat)
 | cell (n : Nat) (sz : Option Nat)
def cOps (P : Program) (ops : Array Oper) : List Nat → Option (List COper)
 | [] => some []
 | i :: is => (ops[i]?).bind fun o => (XyB P ops o).bind fun c => (cOps P ops is).map (c :: ·)
def ZMj (o : Oper) : List Nat := (o.after.toList.filter (Region.binds .any)).map (·.on)
def zgB (P : Program) (ops : Array Oper) : List Nat → Option (List (COper × List Nat))
 | [] => some []
 | i :: is => (ops[i]?).bind fun o => (XyB P ops o).bind fun c => (zgB P ops is).map ((c, ZMj o) :: ·)
def Jwm (P : Program) : Code → Option CC
 | .skip | .label _ => some .skip
 | .region id ops d => if d then (zgB P ops (List.range ops.size)).map (fun l => if KPd [] (clos [] l) (l.map (·.2)) then .drw id (clos [] l) else .stop) else (cOps P ops (List.range ops.size)).map (.reg id)
 | .seq a b => (Jwm P a).bind fun x => (Jwm P b).map (.seq x)
 | .cond c a b => match cOpd c with
  | none => some .stop
  | some o => (Jwm P a).bind fun x => (Jwm P b).map (.cond o x)
 | .block id a => (Jwm P a).map (.block id)
 | .loop a => (Jwm P a).map .loop
 | .scope a => (Jwm P a).map .scope
 | .exit id => some (.exit id)
 | .ret => some .ret
 | .rangeFunc g ps a b => match cOpd g with
  | none => some .stop
  | some o => (Jwm P a).bind fun x => (Jwm P b).map (.rf o ps.toList x)
 | _ => some .stop
def cRes (P : Program) : List ResultVar → Option (List RC)
 | [] => some []
 | .tmp t :: rs => (cRes P rs).map (.t t :: ·)
 | .cell a t :: rs => (agN P t).bind fun n => (cRes P rs).map (.cell a n :: ·)
structure CF where
 ntmps : Nat
 res : List RC
 body : CC
def qXD (P : Program) (f : Func) : Option CF :=
 if f.name = "runtime.NumGoroutine" then none else f.body.bind fun c => (Jwm P c).bind fun b => (cRes P f.results.toList).map fun r => ⟨f.ntmps, r, b⟩
def qdM (fr : List AV) (h : List AB) : RC → Option AV
 | .t n => some (fr.getD n (.tu []))
 | .cell n sz => ldV h sz (fr.getD n (.tu []))
def JBx (fr : List AV) (h : List AB) : List RC → Option (List AV)
 | [] => some []
 | r :: rs => (qdM fr h r).bind fun a => (JBx fr h rs).map (a :: ·)
def resV (fr : List AV) (h : List AB) (rs : List RC) : Option AV :=
 (JBx fr h rs).map fun
  | [a] => a
  | l => .tu l
section
variable {P : Program}
def IR (P : Program) : CI → Item → Prop
 | .code c, .code c' => Jwm P c' = some c
 | .blk id, .inBlock id' => id' = id
 | .lp c, .inLoop c' => Jwm P c' = some c
 | .sc, .inScope _ => True
 | .ops l, .inRegion ops is => cOps P ops is = some l
 | .br, .beginRound => True
 | _, _ => False
def IRs (P : Program) : List CI → List Item → Prop
 | [], [] => True
 | c :: cs, i :: is => IR P c i ∧ IRs P cs is
 | _, _ => False
structure EffP (p : Nat) (ρ : Mp) (h : List AB) (w : World) (ρ' : Mp) (h' : List AB) (w' : World) : Prop where
 os : w'.os = w.os
 tape : w'.tape = w.tape
 output : w'.output = w.output ∧ dr w ≤ dr w'
 size : w.heap.size ≤ w'.heap.size
 keep : ∀ b, b < w.heap.size → ¬ Own ρ h b → w'.heap[b]? = w.heap[b]?
 own : ∀ b, Own ρ' h' b → Own ρ h b ∨ w.heap.size ≤ b
 acc : ∀ (i b : Nat), At ρ' h' i b → (∃ j, At ρ h j b ∧ (i < p → j = i) ∧ (p ≤ i → p ≤ j)) ∨ Own ρ h b ∨ w.heap.size ≤ b
 fix : ∀ i, i < p → ρ'[i]? = ρ[i]?
theorem Rel.toP {K : Code → CC → Prop} {p : Nat} {ρ ρ' : Mp} {h h' : List AB} {w w' : World} (r : Rel K ρ h w) (c : RelC K ρ' h' w') (e : EffP p ρ h w ρ' h' w') : Rel K ρ' h' w' ∧ EffP p ρ h w ρ' h' w' :=
 ⟨⟨c.len, c.blk, c.sep, r.gl.keep e.size e.keep e.own⟩, e⟩
theorem EffP.trans {p : Nat} {ρ1 ρ2 ρ3 : Mp} {h1 h2 h3 : List AB} {w1 w2 w3 : World} (a : EffP p ρ1 h1 w1 ρ2 h2 w2) (c : EffP p ρ2 h2 w2 ρ3 h3 w3) : EffP p ρ1 h1 w1 ρ3 h3 w3 :=
  ⟨c.os.trans a.os, c.tape.trans a.tape, ⟨c.output.1.trans a.output.1, Nat.le_trans a.output.2 c.output.2⟩, Nat.le_trans a.size c.size,
   fun b hb hn => (c.keep b (Nat.lt_of_lt_of_le hb a.size) (fun ho => by
     rcases a.own b ho with h | h
     · exact hn h
     · omega)).trans (a.keep b hb hn),
   fun b hb => by
     rcases c.own b hb with h | h
     · exact a.own b h
     · exact .inr (Nat.le_trans a.size h),
   fun i b hb => by
     rcases c.acc i b hb with ⟨j, h, h1, h2⟩ | h | h
     · rcases a.acc j b h with ⟨j', h', h3, h4⟩ | h | h
       · exact .inl ⟨j', h', fun q => by have := h1 q; subst this; exact h3 q, fun q => h4 (h2 q)⟩
       · exact .inr (.inl h)
       · exact .inr (.inr h)
     · exact .inr (a.own b h)
     · exact .inr (.inr (Nat.le_trans a.size h)),
   fun i hi => (c.fix i hi).trans (a.fix i hi)⟩
theorem Ext.len {ρ ρ' : Mp} (h : Ext ρ ρ') : ρ.length ≤ ρ'.length := by
 rcases Nat.lt_or_ge ρ'.length ρ.length with q | q
 ·have := h ρ'.length _ (List.getElem?_eq_getElem q)
  rw [List.getElem?_eq_none (Nat.le_refl _)] at this
  cases this
 ·exact q
theorem Eff.p {p : Nat} {ρ ρ' : Mp} {h h' : List AB} {w w' : World} (e : Eff ρ h w ρ' h' w') (x : Ext ρ ρ') (hp : p ≤ ρ.length) : EffP p ρ h w ρ' h' w' :=
 ⟨e.os, e.tape, e.output, e.size, e.keep, e.own, fun i b ha => by
  rcases e.liv i b ha with q | q
  ·exact .inl ⟨i, q, fun _ => rfl, fun hi => hi⟩
  ·exact .inr q, fun i hi => by
  have := x i _ (List.getElem?_eq_getElem (Nat.lt_of_lt_of_le hi hp))
  rw [this]
  exact (List.getElem?_eq_getElem (Nat.lt_of_lt_of_le hi hp)).symm⟩
theorem EffP.refl (p : Nat) (ρ : Mp) (h : List AB) (w : World) : EffP p ρ h w ρ h w :=
 ⟨rfl, rfl, ⟨rfl, Nat.le_refl _⟩, Nat.le_refl _, fun _ _ _ => rfl, fun _ h => .inl h, fun i _ h => .inl ⟨i, h, fun _ => rfl, fun q => q⟩, fun _ _ => rfl⟩
theorem EffP.weak {p q : Nat} {ρ ρ' : Mp} {h h' : List AB} {w w' : World} (e : EffP q ρ h w ρ' h' w') (hp : p ≤ q) : EffP p ρ h w ρ' h' w' :=
 ⟨e.os, e.tape, e.output, e.size, e.keep, e.own, fun i b ha => by
  rcases e.acc i b ha with ⟨j, h1, h2, h3⟩ | k
  ·refine .inl ⟨j, h1, fun hi => h2 (by omega), fun hi => ?_⟩
   by_cases hq : i < q
   ·have := h2 hq; omega
   ·have := h3 (by omega); omega
  ·exact .inr k, fun i hi => e.fix i (by omega)⟩
def KC (P : Program) : Code → CC → Prop := fun c cc => Jwm P c = some cc
structure EffX (X : List Nat) (p : Nat) (ρ : Mp) (h : List AB) (w : World) (ρ' : Mp) (h' : List AB) (w' : World) : Prop where
 os : w'.os = w.os
 tape : w'.tape = w.tape
 output : w'.output = w.output ∧ dr w ≤ dr w'
 size : w.heap.size ≤ w'.heap.size
 keep : ∀ b, b < w.heap.size → ¬ Own ρ h b → b ∉ X → w'.heap[b]? = w.heap[b]?
 own : ∀ b, Own ρ' h' b → Own ρ h b ∨ w.heap.size ≤ b
 acc : ∀ (i b : Nat), At ρ' h' i b → (∃ j, At ρ h j b ∧ (i < p → j = i) ∧ (p ≤ i → p ≤ j)) ∨ Own ρ h b ∨ w.heap.size ≤ b
 fix : ∀ i, i < p → ρ'[i]? = ρ[i]?
theorem EffP.x {p : Nat} {ρ ρ' : Mp} {h h' : List AB} {w w' : World} (e : EffP p ρ h w ρ' h' w') (X : List Nat) : EffX X p ρ h w ρ' h' w' :=
 ⟨e.os, e.tape, e.output, e.size, fun b hb hn _ => e.keep b hb hn, e.own, e.acc, e.fix⟩
theorem EffX.p {p : Nat} {ρ ρ' : Mp} {h h' : List AB} {w w' : World} (e : EffX [] p ρ h w ρ' h' w') : EffP p ρ h w ρ' h' w' :=
 ⟨e.os, e.tape, e.output, e.size, fun b hb hn => e.keep b hb hn (by simp), e.own, e.acc, e.fix⟩
theorem EffP.then {p : Nat} {X Y : List Nat} {ρ1 ρ2 ρ3 : Mp} {h1 h2 h3 : List AB} {w1 w2 w3 : World} (a : EffP p ρ1 h1 w1 ρ2 h2 w2) (c : EffX Y p ρ2 h2 w2 ρ3 h3 w3) (hY : ∀ r ∈ Y, r ∈ X ∨ w1.heap.size ≤ r) : EffX X p ρ1 h1 w1 ρ3 h3 w3 :=
  ⟨c.os.trans a.os, c.tape.trans a.tape, ⟨c.output.1.trans a.output.1, Nat.le_trans a.output.2 c.output.2⟩, Nat.le_trans a.size c.size,
   fun b hb hn hx => (c.keep b (Nat.lt_of_lt_of_le hb a.size) (fun ho => by
     rcases a.own b ho with h | h
     · exact hn h
     · omega) (fun hy => by
     rcases hY b hy with h | h
     · exact hx h
     · omega)).trans (a.keep b hb hn),
   fun b hb => by
     rcases c.own b hb with h | h
     · exact a.own b h
     · exact .inr (Nat.le_trans a.size h),
   fun i b hb => by
     rcases c.acc i b hb with ⟨j, h, h1, h2⟩ | h | h
     · rcases a.acc j b h with ⟨j', h', h3, h4⟩ | h | h
       · exact .inl ⟨j', h', fun q => by have := h1 q; subst this; exact h3 q, fun q => h4 (h2 q)⟩
       · exact .inr (.inl h)
       · exact .inr (.inr h)
     · exact .inr (a.own b h)
     · exact .inr (.inr (Nat.le_trans a.size h)),
   fun i hi => (c.fix i hi).trans (a.fix i hi)⟩
def PostR (P : Program) (p : Nat) (X : List Nat) (ρ : Mp) (h : List AB) (w : World) (R : AV → List AB → Prop) (v : Value) (w' : World) : Prop :=
 ∃ a h' ρ', R a h' ∧ VR ρ' a v ∧ Rel (KC P) ρ' h' w' ∧ EffX X p ρ h w ρ' h' w'
theorem PostR.from {p : Nat} {X Y : List Nat} {ρ ρ1 : Mp} {h h1 : List AB} {w w1 : World} {R : AV → List AB → Prop} {v : Value} {w' : World} (e : EffP p ρ h w ρ1 h1 w1) (q : PostR P p Y ρ1 h1 w1 R v w') (hY : ∀ r ∈ Y, r ∈ X ∨ w.heap.size ≤ r) : PostR P p X ρ h w R v w' :=
 let ⟨a, h', ρ', q1, q2, q3, q4⟩ := q
 ⟨a, h', ρ', q1, q2, q3, e.then q4 hY⟩
def Ret (P : Program) (rd : Option Nat) (b : Frame) (cs : List Frame) (Rv : Value → World → Prop) (m : Machine) : Prop :=
 ∃ v w', Rv v w' ∧ match rd with
  | none => ∃ frm, Steps P m (lone frm cs w') ∧ frm.fn = b.fn ∧ frm.leaving P w' (.returned v)
  | some _ => ∀ c cs', cs = c :: cs' → Steps P m (lone (c.finish v) cs' w')
theorem Ret.steps {rd : Option Nat} {b : Frame} {cs : List Frame} {Rv : Value → World → Prop} {m m1 : Machine} (s : Steps P m m1) (h : Ret P rd b cs Rv m1) : Ret P rd b cs Rv m := by
 obtain ⟨v, w', q1, q2⟩ := h
 refine ⟨v, w', q1, ?_⟩
 cases rd with
 | none =>
  obtain ⟨frm, q3, q4⟩ := q2
  exact ⟨frm, s.trans q3, q4⟩
 | some l => exact fun c cs' e => s.trans (q2 c cs' e)
theorem Ret.mono {rd : Option Nat} {b : Frame} {cs : List Frame} {Rv Rv' : Value → World → Prop} {m : Machine} (h : Ret P rd b cs Rv m) (hr : ∀ v w, Rv v w → Rv' v w) : Ret P rd b cs Rv' m :=
 let ⟨v, w', q1, q2⟩ := h
 ⟨v, w', hr _ _ q1, q2⟩
def mkD (r : Nat) : Deferred := { target := .collected r, args := #[] }
def Marks (ρ : Mp) (h : List AB) (w : World) (rs : List Nat) : Prop := rs.Nodup ∧ ∀ r ∈ rs, w.heap[r]? = some (.deferred (some [])) ∧ ∀ i, ¬ At ρ h i r
theorem Own.at {ρ : Mp} {h : List AB} {b : Nat} (o : Own ρ h b) : ∃ i, At ρ h i b := by
 obtain ⟨i, B, x, h1, h2, h3⟩ := o
 exact ⟨i, B, x, h1, AB.live_of_mut h2, h3⟩
theorem Marks.eff {p : Nat} {ρ ρ' : Mp} {h h' : List AB} {w w' : World} {rs : List Nat} (m : Marks ρ h w rs) (e : EffP p ρ h w ρ' h' w') : Marks ρ' h' w' rs :=
 ⟨m.1, fun r hr => by
  obtain ⟨h1, h2⟩ := m.2 r hr
  have hlt : r < w.heap.size := (Array.getElem?_eq_some_iff.1 h1).1
  have hno : ¬ Own ρ h r := fun o => by
   obtain ⟨i, hi⟩ := o.at
   exact h2 i hi
  refine ⟨(e.keep r hlt hno).trans h1, fun i ha => ?_⟩
  rcases e.acc i r ha with ⟨j, hj, _⟩ | h | h
  ·exact h2 j hj
  ·exact hno h
  ·omega⟩
def RdOk (ρ : Mp) (b : Frame) : Option Nat → Prop
 | none => b.roundOf = none
 | some id => ∃ l on, ρ[id]? = some (l, on) ∧ b.roundOf = some l
theorem RdOk.ext {ρ ρ' : Mp} {b : Frame} {rd : Option Nat} (h : RdOk ρ b rd) (e : Ext ρ ρ') : RdOk ρ' b rd := by
 cases rd with
 | none => exact h
 | some id =>
  obtain ⟨l, on, h1, h2⟩ := h
  exact ⟨l, on, e _ _ h1, h2⟩
def AM (P : Program) (p : Nat) (rd : Option Nat) (fn : FuncId) (todo : List CI) (fr : List AV) (h : List AB) (R : AV → List AB → Prop) : Prop :=
 ∀ (ρ : Mp) (w : World) (tmps : Array Value) (items : List Item) (b : Frame) (cs : List Frame) (rs : List Nat), b.fn = fn → b.kind = .normal → RdOk ρ b rd → p ≤ h.length → IRs P todo items → VL ρ fr tmps → Rel (KC P) ρ h w → Marks ρ h w rs →
  Ret P rd b cs (PostR P p rs ρ h w R) (lone (b.atR { tmps, defers := rs.map mkD } items) cs w)
end
end Go.Proofs.YthhghdebjiiliaaDoor
end
section
namespace Go.Proofs.YthhghdebjiiliaaDoor
open Go.RowKit
section
variable {P : Program}
theorem Q9l {c' : Code} {c : CC} (h : Jwm P c' = some c) : match c with
  | .skip => c' = .skip ∨ ∃ l, c' = .label l
  | .reg id ops => ∃ o, c' = .region id o false ∧ cOps P o (List.range o.size) = some ops
  | .drw id ds => ∃ o l, c' = .region id o true ∧ zgB P o (List.range o.size) = some l ∧ ds = clos [] l ∧ KPd [] ds (l.map (·.2)) = true
  | .seq a b => ∃ x y, c' = .seq x y ∧ Jwm P x = some a ∧ Jwm P y = some b
  | .cond q a b => ∃ o x y, c' = .cond o x y ∧ cOpd o = some q ∧ Jwm P x = some a ∧ Jwm P y = some b
  | .block id a => ∃ x, c' = .block id x ∧ Jwm P x = some a
  | .loop a => ∃ x, c' = .loop x ∧ Jwm P x = some a
  | .scope a => ∃ x, c' = .scope x ∧ Jwm P x = some a
  | .exit id => c' = .exit id
  | .ret => c' = .ret
  | .stop => True
  | .rf g ps a b => ∃ o qs x y, c' = .rangeFunc o qs x y ∧ cOpd o = some g ∧ qs.toList = ps ∧ Jwm P x = some a ∧ Jwm P y = some b := by
 cases c' with
 | skip => cases h; exact .inl rfl
 | label l => cases h; exact .inr ⟨l, rfl⟩
 | region id ops d =>
  simp only [Jwm] at h
  cases d with
  | true =>
   simp only [if_true] at h
   obtain ⟨l, hl, h⟩ := Option.map_eq_some_iff.1 h
   split at h
   ·rename_i hok
    cases h
    exact ⟨ops, l, rfl, hl, rfl, hok⟩
   ·cases h; trivial
  | false =>
   simp only [Bool.false_eq_true, if_false] at h
   obtain ⟨l, hl, rfl⟩ := Option.map_eq_some_iff.1 h
   exact ⟨ops, rfl, hl⟩
 | seq a b =>
  simp only [Jwm] at h
  obtain ⟨x, hx, h⟩ := Option.bind_eq_some_iff.1 h
  obtain ⟨y, hy, rfl⟩ := Option.map_eq_some_iff.1 h
  exact ⟨a, b, rfl, hx, hy⟩
 | cond q a b =>
  simp only [Jwm] at h
  split at h
  ·cases h; trivial
  ·rename_i o ho
   obtain ⟨x, hx, h⟩ := Option.bind_eq_some_iff.1 h
   obtain ⟨y, hy, rfl⟩ := Option.map_eq_some_iff.1 h
   exact ⟨q, a, b, rfl, ho, hx, hy⟩
 | rangeFunc g ps a b =>
  simp only [Jwm] at h
  split at h
  ·cases h; trivial
  ·rename_i o ho
   obtain ⟨x, hx, h⟩ := Option.bind_eq_some_iff.1 h
   obtain ⟨y, hy, rfl⟩ := Option.map_eq_some_iff.1 h
   exact ⟨g, ps, a, b, rfl, ho, rfl, hx, hy⟩
 | block id a =>
  simp only [Jwm] at h
  obtain ⟨x, hx, rfl⟩ := Option.map_eq_some_iff.1 h
  exact ⟨a, rfl, hx⟩
 | loop a =>
  simp only [Jwm] at h
  obtain ⟨x, hx, rfl⟩ := Option.map_eq_some_iff.1 h
  exact ⟨a, rfl, hx⟩
 | scope a =>
  simp only [Jwm] at h
  obtain ⟨x, hx, rfl⟩ := Option.map_eq_some_iff.1 h
  exact ⟨a, rfl, hx⟩
 | exit id => cases h; rfl
 | ret => cases h; rfl
 | _ => cases h; trivial
theorem IRs.code {c : CC} {k : List CI} {items : List Item} (h : IRs P (.code c :: k) items) : ∃ c' its, items = .code c' :: its ∧ Jwm P c' = some c ∧ IRs P k its := by
 cases items with
 | nil => exact h.elim
 | cons i its =>
  obtain ⟨h1, h2⟩ := h
  cases i with
  | code c' => exact ⟨c', its, rfl, h1, h2⟩
  | _ => exact h1.elim
theorem IRs.blk {id : Nat} {k : List CI} {items : List Item} (h : IRs P (.blk id :: k) items) : ∃ its, items = .inBlock id :: its ∧ IRs P k its := by
 cases items with
 | nil => exact h.elim
 | cons i its =>
  obtain ⟨h1, h2⟩ := h
  cases i with
  | inBlock id' =>
   cases h1
   exact ⟨its, rfl, h2⟩
  | _ => exact h1.elim
theorem IRs.lp {c : CC} {k : List CI} {items : List Item} (h : IRs P (.lp c :: k) items) : ∃ c' its, items = .inLoop c' :: its ∧ Jwm P c' = some c ∧ IRs P k its := by
 cases items with
 | nil => exact h.elim
 | cons i its =>
  obtain ⟨h1, h2⟩ := h
  cases i with
  | inLoop c' => exact ⟨c', its, rfl, h1, h2⟩
  | _ => exact h1.elim
theorem IRs.sc {k : List CI} {items : List Item} (h : IRs P (.sc :: k) items) : ∃ c' its, items = .inScope c' :: its ∧ IRs P k its := by
 cases items with
 | nil => exact h.elim
 | cons i its =>
  obtain ⟨h1, h2⟩ := h
  cases i with
  | inScope c' => exact ⟨c', its, rfl, h2⟩
  | _ => exact h1.elim
theorem IRs.ops {l : List COper} {k : List CI} {items : List Item} (h : IRs P (.ops l :: k) items) : ∃ ops is its, items = .inRegion ops is :: its ∧ cOps P ops is = some l ∧ IRs P k its := by
 cases items with
 | nil => exact h.elim
 | cons i its =>
  obtain ⟨h1, h2⟩ := h
  cases i with
  | inRegion ops is => exact ⟨ops, is, its, rfl, h1, h2⟩
  | _ => exact h1.elim
theorem IRs.br {k : List CI} {items : List Item} (h : IRs P (.br :: k) items) : ∃ its, items = .beginRound :: its ∧ IRs P k its := by
 cases items with
 | nil => exact h.elim
 | cons i its =>
  obtain ⟨h1, h2⟩ := h
  cases i with
  | beginRound => exact ⟨its, rfl, h2⟩
  | _ => exact h1.elim
theorem IRs.mbr {k : List CI} {its : List Item} (g : IRs P k its) : IRs P (.br :: k) (.beginRound :: its) := ⟨trivial, g⟩
theorem IRs.mcode {a : CC} {x : Code} {k : List CI} {its : List Item} (h : Jwm P x = some a) (g : IRs P k its) : IRs P (.code a :: k) (.code x :: its) := ⟨h, g⟩
theorem IRs.mlp {a : CC} {x : Code} {k : List CI} {its : List Item} (h : Jwm P x = some a) (g : IRs P k its) : IRs P (.lp a :: k) (.inLoop x :: its) := ⟨h, g⟩
theorem IRs.mblk (id : Nat) {k : List CI} {its : List Item} (g : IRs P k its) : IRs P (.blk id :: k) (.inBlock id :: its) := ⟨rfl, g⟩
theorem IRs.msc (x : Code) {k : List CI} {its : List Item} (g : IRs P k its) : IRs P (.sc :: k) (.inScope x :: its) := ⟨trivial, g⟩
theorem IRs.mops {l : List COper} {ops : Array Oper} {is : List Nat} {k : List CI} {its : List Item} (h : cOps P ops is = some l) (g : IRs P k its) : IRs P (.ops l :: k) (.inRegion ops is :: its) := ⟨h, g⟩
def YrY (id : Nat) : List CI → Option (List CI)
 | .blk id' :: k => if id' = id then some k else YrY id k
 | _ :: k => YrY id k
 | [] => none
theorem XBe (id : Nat) : ∀ (k k' : List CI) (items : List Item), IRs P k items → YrY id k = some k' → ∃ its, exitTo id items = some its ∧ IRs P k' its
 | [], k', items, _, e => by cases e
 | .blk id' :: k, k', items, h, e => by
  obtain ⟨its, rfl, h'⟩ := h.blk
  simp only [YrY] at e
  by_cases hid : id' = id
  ·rw [if_pos hid] at e
   cases e
   exact ⟨its, by simp [exitTo, hid], h'⟩
  ·rw [if_neg hid] at e
   obtain ⟨its', h1, h2⟩ := XBe id k k' its h' e
   exact ⟨its', by simp [exitTo, hid, h1], h2⟩
 | .code c :: k, k', items, h, e => by
  obtain ⟨c', its, rfl, _, h'⟩ := h.code
  obtain ⟨its', h1, h2⟩ := XBe id k k' its h' e
  exact ⟨its', by simp [exitTo, h1], h2⟩
 | .lp c :: k, k', items, h, e => by
  obtain ⟨c', its, rfl, _, h'⟩ := h.lp
  obtain ⟨its', h1, h2⟩ := XBe id k k' its h' e
  exact ⟨its', by simp [exitTo, h1], h2⟩
 | .sc :: k, k', items, h, e => by
  obtain ⟨c', its, rfl, h'⟩ := h.sc
  obtain ⟨its', h1, h2⟩ := XBe id k k' its h' e
  exact ⟨its', by simp [exitTo, h1], h2⟩
 | .ops l :: k, k', items, h, e => by
  obtain ⟨ops, is, its, rfl, _, h'⟩ := h.ops
  obtain ⟨its', h1, h2⟩ := XBe id k k' its h' e
  exact ⟨its', by simp [exitTo, h1], h2⟩
 | .br :: k, k', items, h, e => by
  obtain ⟨its, rfl, h'⟩ := h.br
  obtain ⟨its', h1, h2⟩ := XBe id k k' its h' e
  exact ⟨its', by simp [exitTo, h1], h2⟩
theorem KU9 (id : Nat) : ∀ (k : List CI) (items : List Item), IRs P k items → YrY id k = none → exitTo id items = none
 | [], items, h, _ => by
  match items, h with
  | [], _ => rfl
 | .blk id' :: k, items, h, e => by
  obtain ⟨its, rfl, h'⟩ := h.blk
  simp only [YrY] at e
  by_cases hid : id' = id
  ·rw [if_pos hid] at e
   cases e
  ·rw [if_neg hid] at e
   simp [exitTo, hid, KU9 id k its h' e]
 | .code c :: k, items, h, e => by
  obtain ⟨c', its, rfl, _, h'⟩ := h.code
  simp [exitTo, KU9 id k its h' e]
 | .lp c :: k, items, h, e => by
  obtain ⟨c', its, rfl, _, h'⟩ := h.lp
  simp [exitTo, KU9 id k its h' e]
 | .sc :: k, items, h, e => by
  obtain ⟨c', its, rfl, h'⟩ := h.sc
  simp [exitTo, KU9 id k its h' e]
 | .ops l :: k, items, h, e => by
  obtain ⟨ops, is, its, rfl, _, h'⟩ := h.ops
  simp [exitTo, KU9 id k its h' e]
 | .br :: k, items, h, e => by
  obtain ⟨its, rfl, h'⟩ := h.br
  simp [exitTo, KU9 id k its h' e]
def qUa : List CI → List AV → List AB → Option (List CI × List AV × List AB)
 | .code c :: k, fr, h => match c with
  | .skip => some (k, fr, h)
  | .seq a b => some (.code a :: .code b :: k, fr, h)
  | .cond c a b => match c.ev fr with
   | .b true => some (.code a :: k, fr, h)
   | .b false => some (.code b :: k, fr, h)
   | _ => none
  | .block id a => some (.code a :: .blk id :: k, fr, h)
  | .scope a => some (.code a :: .sc :: k, fr, h)
  | .exit id => (YrY id k).map (·, fr, h)
  | .reg _ ops => some (.ops ops :: k, fr, h)
  | _ => none
 | .blk _ :: k, fr, h => some (k, fr, h)
 | .sc :: k, fr, h => some (k, fr, h)
 | .ops [] :: k, fr, h => some (k, fr, h)
 | .ops (o :: l) :: k, fr, h =>
  if ZzY fr o.guard then
   match YVO fr o.guard with
   | true => (o.op.run (Opd.ev fr) h).map fun (v, h') => (.ops l :: k, put fr o.dst v, h')
   | false => some (.ops l :: k, put fr o.dst (.tu []), h)
  else none
 | _, _, _ => none
theorem KWM {o : Op} {c : CO} (h : qzT P o = some c) : ∀ q, o ≠ .defer q := fun q e => by
 subst e
 cases h
theorem Xej {o : Op} {c : CO} (h : qzT P o = some c) (hc : c ≠ .stop) : XtX P o = some c := by
 unfold qzT at h
 split at h
 ·cases h
 ·cases hq : XtX P o with
  | none => rw [hq] at h; cases h; exact absurd rfl hc
  | some d => rw [hq] at h; cases h; rfl
theorem Jyp {ev : Opd → AV} {h : List AB} {c : CO} {r : AV × List AB} (e : c.run ev h = some r) : c ≠ .stop := fun q => by
 subst q
 cases e
theorem Qhx {ops : Array Oper} {o : Oper} {c : COper} (h : XyB P ops o = some c) : qzT P o.op = some c.op ∧ c.dst = o.dst ∧ (match o.guard with | none => c.guard = none | some (j, want) => ∃ t, (ops[j]?).bind (·.dst) = some t ∧ c.guard = some (t, want)) := by
 unfold XyB at h
 obtain ⟨op, hop, h⟩ := Option.bind_eq_some_iff.1 h
 split at h
 ·rename_i hg
  cases h
  exact ⟨hop, rfl, by first | rw [hg] | rfl⟩
 ·rename_i j want hg
  obtain ⟨t, ht, rfl⟩ := Option.map_eq_some_iff.1 h
  refine ⟨hop, rfl, ?_⟩
  try rw [hg]
  exact ⟨t, ht, rfl⟩
theorem qfb {ρ : Mp} {fr : List AV} {tmps : Array Value} (hv : VL ρ fr tmps) {ops : Array Oper} {o : Oper} {c : COper} (h : XyB P ops o = some c) (hk : ZzY fr c.guard = true) : Region.wanted o (yielded ops tmps) = YVO fr c.guard := by
 obtain ⟨_, _, hg⟩ := Qhx h
 unfold Region.wanted
 split at hg
 ·rename_i hn
  rw [hn, hg]
  rfl
 ·rename_i j want hs
  obtain ⟨t, ht, hc⟩ := hg
  rw [hs, hc]
  rw [hc] at hk
  simp only [YVO, ZzY] at hk ⊢
  unfold yielded
  rw [ht]
  simp only [Option.bind_some]
  cases hf : fr[t]? with
  | none =>
   have : tmps[t]? = none := Array.getElem?_eq_none (by rw [← hv.1]; exact (List.getElem?_eq_none_iff.1 hf))
   rw [this]
   cases want <;> rfl
  | some a =>
   rw [hf] at hk
   obtain ⟨v, hv1, hv2⟩ := hv.get hf
   rw [hv1]
   cases hv2 with
   | top v => simp [AV.known] at hk
   | b x => cases x <;> cases want <;> rfl
   | _ => simp
theorem JQy {ρ : Mp} {fr : List AV} {a : Act} (hv : VL ρ fr a.tmps) (d : Option Nat) {x : AV} {v : Value} (hx : VR ρ x v) : VL ρ (put fr d x) (a.put d v).tmps ∧ (a.put d v).defers = a.defers := by
 cases d with
 | none => exact ⟨hv, rfl⟩
 | some d => exact ⟨hv.set d hx, rfl⟩
theorem AM.go {p : Nat} {rd : Option Nat} {fn : FuncId} {todo todo' : List CI} {fr fr' : List AV} {h h' : List AB} {R : AV → List AB → Prop} (e : qUa todo fr h = some (todo', fr', h')) (g : AM P p rd fn todo' fr' h' R) : AM P p rd fn todo fr h R := by
 intro ρ w tmps items bf cs rs hf hk hro hp hi hv hr hmk
 have same : ∀ {items' : List Item}, h' = h → fr' = fr → IRs P todo' items' → step P (lone (bf.atR { tmps, defers := rs.map mkD } items) cs w) = .next (lone (bf.atR { tmps, defers := rs.map mkD } items') cs w) → Ret P rd bf cs (PostR P p rs ρ h w R) (lone (bf.atR { tmps, defers := rs.map mkD } items) cs w) := by
  rintro items' rfl rfl hi' hs
  exact (g ρ w tmps items' bf cs rs hf hk hro hp hi' hv hr hmk).steps (.one hs)
 cases todo with
 | nil => cases e
 | cons c k =>
  cases c with
  | blk id =>
   obtain ⟨its, rfl, hi2⟩ := hi.blk
   cases e
   exact same rfl rfl hi2 stepR_inBlock
  | sc =>
   obtain ⟨c', its, rfl, hi2⟩ := hi.sc
   cases e
   exact same rfl rfl hi2 (step_lone_go (by simp [stepG, stepG.exec, Frame.atR]))
  | lp c => cases e
  | br => cases e
  | code c =>
   obtain ⟨c', its, rfl, hc, hi2⟩ := hi.code
   have inv := Q9l hc
   cases c with
   | skip =>
    cases e
    rcases inv with rfl | ⟨l, rfl⟩
    ·exact same rfl rfl hi2 stepR_skip
    ·exact same rfl rfl hi2 stepR_label
   | seq a b =>
    obtain ⟨x, y, rfl, h1, h2⟩ := inv
    cases e
    exact same rfl rfl (.mcode h1 (.mcode h2 hi2)) stepR_seq
   | cond q a b =>
    obtain ⟨o, x, y, rfl, h0, h1, h2⟩ := inv
    have hev := EV.of (a := { tmps, defers := rs.map mkD }) hv o q h0
    simp only [qUa] at e
    split at e
    ·rename_i hq
     cases e
     rw [hq] at hev
     generalize hvc : Act.eval { tmps, defers := rs.map mkD } o = vc at hev
     cases hev
     exact same rfl rfl (items' := .code x :: its) (.mcode h1 hi2) (stepR_cond hvc)
    ·rename_i hq
     cases e
     rw [hq] at hev
     generalize hvc : Act.eval { tmps, defers := rs.map mkD } o = vc at hev
     cases hev
     exact same rfl rfl (items' := .code y :: its) (.mcode h2 hi2) (stepR_cond hvc)
    ·cases e
   | block id a =>
    obtain ⟨x, rfl, h1⟩ := inv
    cases e
    exact same rfl rfl (.mcode h1 (.mblk id hi2)) stepR_block
   | scope a =>
    obtain ⟨x, rfl, h1⟩ := inv
    cases e
    exact same rfl rfl (items' := .code x :: .inScope x :: its) (.mcode h1 (.msc x hi2)) (step_lone_go (by simp [stepG, stepG.exec, Frame.atR]))
   | exit id =>
    cases inv
    obtain ⟨k', hk', e⟩ := Option.map_eq_some_iff.1 e
    cases e
    obtain ⟨its', h1, h2⟩ := XBe id _ _ _ hi2 hk'
    exact same rfl rfl h2 (stepR_exit h1)
   | reg id l =>
    obtain ⟨o, rfl, h1⟩ := inv
    cases e
    exact same rfl rfl (.mops h1 hi2) stepR_region
   | drw id l => cases e
   | loop a => cases e
   | ret => cases e
   | stop => cases e
   | rf g ps a b => cases e
  | ops l =>
   obtain ⟨ops, is, its, rfl, hc, hi2⟩ := hi.ops
   cases l with
   | nil =>
    cases e
    cases is with
    | nil => exact same rfl rfl hi2 stepR_region_end
    | cons i is =>
     simp only [cOps] at hc
     obtain ⟨_, _, hc⟩ := Option.bind_eq_some_iff.1 hc
     obtain ⟨_, _, hc⟩ := Option.bind_eq_some_iff.1 hc
     obtain ⟨_, _, hc⟩ := Option.map_eq_some_iff.1 hc
     cases hc
   | cons c l =>
    cases is with
    | nil => cases hc
    | cons i is =>
     simp only [cOps] at hc
     obtain ⟨o, ho, hc⟩ := Option.bind_eq_some_iff.1 hc
     obtain ⟨c', hc', hc⟩ := Option.bind_eq_some_iff.1 hc
     obtain ⟨l', hl', hc⟩ := Option.map_eq_some_iff.1 hc
     cases hc
     obtain ⟨hop, hdst, _⟩ := Qhx hc'
     simp only [qUa] at e
     split at e
     case isFalse => cases e
     rename_i hkn
     have hw := qfb hv hc' hkn
     have hfin : ∀ (u : Value) (w' : World), (bf.atR { tmps, defers := rs.map mkD } (.inRegion ops (i :: is) :: its)).finish u = bf.atR (Act.put { tmps, defers := rs.map mkD } o.dst u) (.inRegion ops is :: its) := fun u _ => by
      rw [Frame.finish_atR, ho]
      rfl
     split at e
     ·rename_i hwt
      rw [hwt] at hw
      obtain ⟨⟨v, h1⟩, hrun, e⟩ := Option.map_eq_some_iff.1 e
      cases e
      obtain ⟨v', w', ρ', hor, hext, hrel, hvr, heff⟩ := qm1 hr (EV.of (a := { tmps, defers := rs.map mkD }) hv) (Xej hop (Jyp hrun)) hrun
      have hput := JQy (a := { tmps, defers := rs.map mkD }) (hv.ext hext) c.dst hvr
      have hlen := hext.len
      rw [hr.len] at hlen
      have g' := g ρ' w' (Act.put { tmps, defers := rs.map mkD } c.dst v').tmps (.inRegion ops is :: its) bf cs rs hf hk (hro.ext hext) (by rw [← hrel.len]; omega) (.mops hl' hi2) hput.1 hrel (hmk.eff (heff.p hext (by rw [hr.len]; exact hp)))
      have hact : (⟨(Act.put { tmps, defers := rs.map mkD } c.dst v').tmps, rs.map mkD⟩ : Act) = Act.put { tmps, defers := rs.map mkD } c.dst v' := by
       cases c.dst <;> rfl
      rw [hact] at g'
      have hstep : step P (lone (bf.atR { tmps, defers := rs.map mkD } (.inRegion ops (i :: is) :: its)) cs w) = .next (lone (bf.atR (Act.put { tmps, defers := rs.map mkD } c.dst v') (.inRegion ops is :: its)) cs w') := by
       refine step_lone_go ?_
       rw [stepGR_op ho hw, Oper.semAt_eq _ _ _ (KWM hop), hdst]
       rcases hor with hok | ⟨hok, rfl⟩
       ·rw [← hfin v' w']; simp [stepG.apply, Sem.runT_eq, hok, GStep.bare_after]
       ·rw [← hfin undef w']; simp [stepG.apply, Sem.runT_eq, hok, GStep.bare_after]
      exact (g'.mono fun v w'' q => q.from (heff.p hext (by rw [hr.len]; exact hp)) (fun r hr => .inl hr)).steps (.one hstep)
     ·rename_i hwt
      rw [hwt] at hw
      cases e
      have hput := JQy (a := { tmps, defers := rs.map mkD }) hv c.dst (x := .tu []) (v := undef) (.tu [] #[] rfl (fun j a c h => by simp at h))
      have g' := g ρ w (Act.put { tmps, defers := rs.map mkD } c.dst undef).tmps (.inRegion ops is :: its) bf cs rs hf hk hro hp (.mops hl' hi2) hput.1 hr hmk
      have hact : (⟨(Act.put { tmps, defers := rs.map mkD } c.dst undef).tmps, rs.map mkD⟩ : Act) = Act.put { tmps, defers := rs.map mkD } c.dst undef := by
       cases c.dst <;> rfl
      rw [hact] at g'
      refine g'.steps (.one ?_)
      have := stepR_op_skip (P := P) (b := bf) (a := { tmps, defers := rs.map mkD }) (k := its) (cs := cs) (w := w) (ops := ops) (i := i) (rest := is) (by simp [ho, hw])
      rw [ho] at this
      rw [hdst]
      exact this
end
end Go.Proofs.YthhghdebjiiliaaDoor
end
section
namespace Go.Proofs.YthhghdebjiiliaaDoor
open Go.RowKit
mutual
def AV.ids : AV → List Nat
 | .p id _ => [id]
 | .sl id _ _ _ _ => [id]
 | .f _ fst cap => idsL fst ++ idsL cap
 | .ifc _ v => v.ids
 | .ag l => idsL l
 | .tu l => idsL l
 | .y id => [id]
 | _ => []
def idsL : List AV → List Nat
 | [] => []
 | a :: l => a.ids ++ idsL l
end
end Go.Proofs.YthhghdebjiiliaaDoor
end
