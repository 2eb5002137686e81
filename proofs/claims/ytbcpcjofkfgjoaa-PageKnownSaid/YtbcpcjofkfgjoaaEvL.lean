/- Every operation that is no call of a function: the model does what the abstract machine says. -/
import Derived.Test.YtbcpcjofkfgjoaaEvKb
namespace Go.Proofs.Ytbcpcjofkfgjoaa
open Go.RowKit

section
variable {P : Program} {K : Code → CC → Prop}
theorem unit_next {ρ : Mp} {h h' : List AB} {w : World} {s : Sem Unit} (g : ∃ w', s.run P w = .ok () w' ∧ Rel K ρ h' w' ∧ Eff ρ h w ρ h' w') : GoodN K P ρ h w (do s; pure .skip) (.tu [], h') :=
  let ⟨w', e, h1, h2⟩ := g
  ⟨undef, w', ρ, .inr ⟨by simp [e], rfl⟩, Ext.refl _, h1, .tu [] #[] rfl (fun j a c h => by simp at h), h2⟩
theorem val_next {ρ : Mp} {h : List AB} {w : World} (hr : Rel K ρ h w) {a : AV} {v : Value} (hv : VR ρ a v) : GoodN K P ρ h w (pure (.value v)) (a, h) :=
  ⟨v, w, ρ, .inl rfl, Ext.refl _, hr, hv, Eff.refl _ _ _⟩
set_option maxHeartbeats 4000000 in
theorem exec_ok {ρ : Mp} {h : List AB} {w : World} (hr : Rel K ρ h w) {f : Operand → Value} {fr : List AV} (hev : EV ρ f (Opd.ev fr)) {o : Oper} {co : CO} (hc : compOp P o.op = some co) {r : AV × List AB} (er : co.run (Opd.ev fr) h = some r) : GoodN K P ρ h w (execOp f o) r := by
  obtain ⟨dst, op, ty, pos, after, guard⟩ := o
  unfold execOp
  cases op with
  | move x =>
    obtain ⟨a, ha, rfl⟩ := Option.map_eq_some_iff.1 hc
    cases er
    exact val_next hr (hev x a ha)
  | assign x =>
    obtain ⟨a, ha, rfl⟩ := Option.map_eq_some_iff.1 hc
    cases er
    exact val_next hr (hev x a ha)
  | pick c a b =>
    simp only [compOp] at hc
    obtain ⟨c', h1, hc⟩ := Option.bind_eq_some_iff.1 hc
    obtain ⟨a', h2, hc⟩ := Option.bind_eq_some_iff.1 hc
    obtain ⟨b', h3, rfl⟩ := Option.map_eq_some_iff.1 hc
    simp only [CO.run] at er
    split at er
    · rename_i t ht
      cases er
      have v1 := hev c c' h1
      rw [ht] at v1
      dsimp only
      generalize f c = vc at v1 ⊢
      cases v1
      cases t
      · exact ⟨_, w, ρ, .inl (by simp [asBool]), Ext.refl _, hr, hev b b' h3, Eff.refl _ _ _⟩
      · exact ⟨_, w, ρ, .inl (by simp [asBool]), Ext.refl _, hr, hev a a' h2, Eff.refl _ _ _⟩
    · cases er
  | alloc e =>
    obtain ⟨zs, hz, rfl⟩ := Option.map_eq_some_iff.1 hc
    obtain ⟨i, z, hi, hzz, hl⟩ := zcells_some hz
    have g := good_newVar (P := P) hr e _ (absA_ok ρ hl) er
    obtain ⟨v', w', ρ', e1, rest⟩ := g
    refine ⟨v', w', ρ', .inl ?_, rest⟩
    have e2 : (Instr.alloc e true (.tuple #[])).run P w = .ok v' w' := by
      rw [← e1]
      simp [Instr.alloc, zeroValue, typeInfo, hi, hzz]
    simp [e2]
  | box e x =>
    simp only [compOp] at hc
    obtain ⟨a, ha, hc⟩ := Option.bind_eq_some_iff.1 hc
    obtain ⟨zs, hz, rfl⟩ := Option.map_eq_some_iff.1 hc
    simp only [CO.run] at er
    split at er
    · rename_i hl
      have hk : (Opd.ev fr a).known = true := by
        have := (newB_some er).1
        cases hq : Opd.ev fr a <;> first | rfl | (rw [hq] at this; simp [AV.cells, wrOk, AV.flat, AV.one] at this)
      exact (good_newVar (P := P) hr e _ ((hev x a ha).cellsVL hk) er).next
    · cases er
  | build t ps =>
    simp only [compOp] at hc
    obtain ⟨zs, hz, hc⟩ := Option.bind_eq_some_iff.1 hc
    obtain ⟨i, z, hi, hzz, hl⟩ := zcells_some hz
    split at hc
    · rename_i fs hu
      obtain ⟨pl, hpl, hc⟩ := Option.bind_eq_some_iff.1 hc
      obtain ⟨q, hq, rfl⟩ := Option.map_eq_some_iff.1 hc
      obtain ⟨cs, hcs, rfl⟩ := Option.map_eq_some_iff.1 er
      refine (ans_bldS t hu hi hzz (places := pl.toArray) (fun w => arr_mapM fs _ pl w (partsS_ok fs.toList pl hpl w)) (parts := ps.map fun (i, x) => (i, f x)) ?_ (absA_ok ρ hl) hcs).next hr
      have := hev.parts hq
      simpa using this
    · rename_i n e hu
      obtain ⟨k, hk, hc⟩ := Option.bind_eq_some_iff.1 hc
      obtain ⟨q, hq, rfl⟩ := Option.map_eq_some_iff.1 hc
      obtain ⟨cs, hcs, rfl⟩ := Option.map_eq_some_iff.1 er
      obtain ⟨ie, hie, rfl⟩ := szOf_some hk
      refine (ans_bldA t e hu hi hzz hie (parts := ps.map fun (i, x) => (i, f x)) ?_ (absA_ok ρ hl) hcs).next hr
      have := hev.parts hq
      simpa using this
    · cases hc
  | buildSlice t len ps =>
    simp only [compOp] at hc
    split at hc
    · rename_i e hu
      obtain ⟨ie, hie, hc⟩ := Option.bind_eq_some_iff.1 hc
      obtain ⟨z, hz, hc⟩ := Option.bind_eq_some_iff.1 hc
      obtain ⟨zs, hzs, hc⟩ := Option.bind_eq_some_iff.1 hc
      obtain ⟨ze, hze, hc⟩ := Option.bind_eq_some_iff.1 hc
      split at hc
      · rename_i hb
        obtain ⟨q, hq, rfl⟩ := Option.map_eq_some_iff.1 hc
        simp only [CO.run] at er
        obtain ⟨cs, hcs, er⟩ := Option.bind_eq_some_iff.1 er
        refine (good_bls (P := P) hr t e hu hie hz len hb.1 _ (parts := ps.map fun (i, x) => (i, f x)) ?_ (absA_ok ρ hzs) hcs hb.2 er).next
        have := hev.parts hq
        simpa using this
      · cases hc
    · cases hc
  | load t x =>
    simp only [compOp] at hc
    obtain ⟨a, ha, hc⟩ := Option.bind_eq_some_iff.1 hc
    obtain ⟨n, hn, rfl⟩ := Option.map_eq_some_iff.1 hc
    obtain ⟨d, i, hd, hi, rfl⟩ := agN_some hn
    obtain ⟨v, hv, rfl⟩ := Option.map_eq_some_iff.1 er
    exact (good_ld hr t hd hi (hev x a ha) hv).next
  | store t x y =>
    simp only [compOp] at hc
    obtain ⟨a, ha, hc⟩ := Option.bind_eq_some_iff.1 hc
    obtain ⟨b, hb, hc⟩ := Option.bind_eq_some_iff.1 hc
    obtain ⟨n, hn, hc⟩ := Option.bind_eq_some_iff.1 hc
    split at hc
    · rename_i h1
      cases hc
      obtain ⟨d, i, hd, hi, rfl⟩ := agN_some hn
      obtain ⟨h', hv, rfl⟩ := Option.map_eq_some_iff.1 er
      refine unit_next (good_st hr t (ag := isAg d) hi (fun hd => ?_) (hev x a ha) (hev y b hb) hv)
      have := h1 (by rw [hd]; rfl)
      unfold szOf at this
      rw [hi] at this
      simpa using this
    · cases hc
  | nilCheck x =>
    obtain ⟨a, ha, rfl⟩ := Option.map_eq_some_iff.1 hc
    have va := hev x a ha
    simp only [CO.run] at er
    dsimp only
    generalize f x = vx at va ⊢
    split at er
    · rename_i hq
      rw [hq] at va
      cases er
      cases va with
      | p _ _ b o n hh => exact val_next hr (VR.p _ _ b o n hh)
    · rename_i hq
      rw [hq] at va
      cases er
      cases va with
      | f _ _ _ fst' cap' h0 h1 h2 h3 => exact val_next hr (VR.f _ _ _ fst' cap' h0 h1 h2 h3)
    · rename_i hq
      rw [hq] at va
      cases er
      cases va with
      | f _ _ _ fst' cap' h0 h1 h2 h3 => exact val_next hr (VR.f _ _ _ fst' cap' h0 h1 h2 h3)
    · rename_i hq
      rw [hq] at va
      cases er
      cases va with
      | ifc _ _ v' h1 => exact val_next hr (VR.ifc _ _ v' h1)
    · cases er
  | binOp op t x y yt => exact bin_ok hr hev hc er
  | unOp op t x =>
    obtain ⟨a, ha, rfl⟩ := Option.map_eq_some_iff.1 hc
    obtain ⟨v, hv, rfl⟩ := Option.map_eq_some_iff.1 er
    exact (ans_un op (hev x a ha) hv).next hr
  | convert src dst x =>
    simp only [compOp, cConv] at hc
    obtain ⟨a, ha, hc1⟩ := Option.bind_eq_some_iff.1 hc
    clear hc
    have hc := hc1
    clear hc1
    have va := hev x a ha
    split at hc
    · rename_i k0 k hs hd
      cases hc
      obtain ⟨n, hn, rfl⟩ := Option.map_eq_some_iff.1 er
      exact (ans_cvi src dst k hs hd va hn).next hr
    · rename_i hs hd
      cases hc
      simp only [CO.run] at er
      split at er
      · rename_i l hl
        cases er
        rw [hl] at va
        exact (ans_cvs src dst hs hd va).next hr
      · cases er
    · rename_i e hs hd
      split at hc
      · rename_i he
        cases hc
        simp only [CO.run] at er
        split at er
        · cases er
        · rename_i hns
          obtain ⟨⟨m, cs⟩, hsrc, er⟩ := Option.bind_eq_some_iff.1 er
          obtain ⟨l, hl, rfl⟩ := Option.map_eq_some_iff.1 er
          exact (good_b2s (P := P) hr src dst e hs he hd (isStr_not (by simpa using hns)) va hsrc hl).next
      · cases hc
    · rename_i e hs hd
      split at hc
      · rename_i he
        cases hc
        simp only [CO.run] at er
        split at er
        · rename_i l hl
          split at er
          · rename_i hlm
            cases er
            rw [hl] at va
            exact (good_s2b (P := P) hr src dst e hs hd he va hlm).next
          · cases er
        · cases er
      · cases hc
    · rename_i e0 e hs hd
      split at hc
      · rename_i hsd
        subst hsd
        split at hc
        · rename_i he
          cases hc
          simp only [CO.run] at er
          split at er
          · rename_i id off n c k hl
            split at er
            · cases er
            · rename_i hn
              split at er
              · rename_i fl xs hi
                cases er
                rw [hl] at va
                exact (good_s2s (P := P) hr src e hd he hn va hi).next
              · cases er
          · cases er
        · cases hc
      · cases hc
    · cases hc
  | makeInterface t x =>
    simp only [compOp] at hc
    obtain ⟨a, ha, hc⟩ := Option.bind_eq_some_iff.1 hc
    split at hc
    · cases hc
    · cases hc
    · rename_i d hn1 hn2
      cases hc
      cases er
      cases hu : P.underlying t with
      | none => exact absurd hu hn1
      | some d => exact (ans_ifc t hu (fun ms e => hn2 ms (by rw [hu, e])) (hev x a ha)).next hr
  | makeFunc fn first cap =>
    simp only [compOp] at hc
    obtain ⟨l0, hl0, hc⟩ := Option.bind_eq_some_iff.1 hc
    obtain ⟨l, hl, rfl⟩ := Option.map_eq_some_iff.1 hc
    cases er
    have hv0 := hev.vl hl0
    have hv := hev.vl hl
    refine (Ans.mk (P := P) (v := .func fn (first.map f) (cap.map f)) (fun w => by simp [Instr.makeFunc]) (.f fn _ _ _ _ ?_ ?_ ?_ ?_)).next hr
    · have := hv0.1; simpa using this
    · have := hv.1; simpa using this
    · intro j a c h1 h2
      exact hv0.2 j a c h1 (by simpa using h2)
    · intro j a c h1 h2
      exact hv.2 j a c h1 (by simpa using h2)
  | makeSlice t l c =>
    simp only [compOp] at hc
    obtain ⟨a, ha, hc⟩ := Option.bind_eq_some_iff.1 hc
    obtain ⟨b, hb, hc⟩ := Option.bind_eq_some_iff.1 hc
    split at hc
    · rename_i e hu
      obtain ⟨ie, hie, hc⟩ := Option.bind_eq_some_iff.1 hc
      obtain ⟨zs, hz, hc⟩ := Option.bind_eq_some_iff.1 hc
      split at hc
      · rename_i hq
        cases hc
        obtain ⟨i, z, hi, hzz, hl⟩ := zcells_some hz
        rw [hie] at hi
        cases hi
        simp only [CO.run] at er
        have va := hev l a ha
        have vb := hev c b hb
        split at er
        · rename_i k1 n1 k2 n2 q1 q2
          split at er
          · rename_i hcond
            rw [q1] at va
            rw [q2] at vb
            dsimp only
            generalize f l = vl at va ⊢
            generalize f c = vc at vb ⊢
            cases va
            cases vb
            have hvz := absA_ok ρ hl
            exact (good_mks (P := P) hr t e hu hie hzz (by rw [← hvz.1]; exact hq.1) hq.2 _ hvz hcond.1 hcond.2.1 hcond.2.2.1 hcond.2.2.2 er).next
          · cases er
        · cases er
      · cases hc
    · cases hc
  | slice t x lo hi mx =>
    simp only [compOp] at hc
    obtain ⟨a, ha, hc⟩ := Option.bind_eq_some_iff.1 hc
    obtain ⟨lo', h1, hc⟩ := Option.bind_eq_some_iff.1 hc
    obtain ⟨hi', h2, hc⟩ := Option.bind_eq_some_iff.1 hc
    obtain ⟨mx', h3, hc⟩ := Option.bind_eq_some_iff.1 hc
    have va := hev x a ha
    have v1 := hev.vo h1
    have v2 := hev.vo h2
    have v3 := hev.vo h3
    split at hc
    · rename_i hu
      split at hc
      · rename_i hm
        cases hc
        simp only [CO.run] at er
        split at er
        · rename_i l hl
          obtain ⟨v, hv, rfl⟩ := Option.map_eq_some_iff.1 er
          rw [hl] at va
          cases mx with
          | none => exact (ans_sls t hu va v1 v2 hv).next hr
          | some m =>
            obtain ⟨m', _, rfl⟩ := Option.map_eq_some_iff.1 h3
            simp at hm
        · cases er
      · cases hc
    · rename_i e hu
      obtain ⟨n, hn, rfl⟩ := Option.map_eq_some_iff.1 hc
      obtain ⟨i, hi, rfl⟩ := szOf_some hn
      obtain ⟨v, hv, rfl⟩ := Option.map_eq_some_iff.1 er
      exact (ans_sll t e hu hi va v1 v2 v3 hv).next hr
    · rename_i k e hu
      split at hc
      · rename_i hk
        obtain ⟨n, hn, rfl⟩ := Option.map_eq_some_iff.1 hc
        obtain ⟨i, hi, rfl⟩ := szOf_some hn
        obtain ⟨v, hv, rfl⟩ := Option.map_eq_some_iff.1 er
        exact (ans_sla t e hu hi hk va v1 v2 v3 hv).next hr
      · cases hc
    · cases hc
  | fieldAddr s x fi =>
    simp only [compOp, cField] at hc
    obtain ⟨a, ha, hc⟩ := Option.bind_eq_some_iff.1 hc
    obtain ⟨⟨off, n, k⟩, h1, hc⟩ := Option.bind_eq_some_iff.1 hc
    simp only at hc
    split at h1
    · rename_i fs hu
      obtain ⟨fd, hfd, h1⟩ := Option.bind_eq_some_iff.1 h1
      obtain ⟨n', hn, h1⟩ := Option.bind_eq_some_iff.1 h1
      obtain ⟨k', hk, h1⟩ := Option.map_eq_some_iff.1 h1
      cases h1
      obtain ⟨i, hi, rfl⟩ := szOf_some hk
      split at hc
      · rename_i hz
        cases hc
        simp only [CO.run] at er
        have va := hev x a ha
        split at er
        · rename_i id o hq
          cases er
          rw [hq] at va
          exact (ans_fad s fi hu hfd hi hz va).next hr
        · cases er
      · cases hc
    · cases h1
  | field s x fi =>
    simp only [compOp, cField] at hc
    obtain ⟨a, ha, hc⟩ := Option.bind_eq_some_iff.1 hc
    obtain ⟨⟨off, n, k⟩, h1, rfl⟩ := Option.map_eq_some_iff.1 hc
    split at h1
    · rename_i fs hu
      obtain ⟨fd, hfd, h1⟩ := Option.bind_eq_some_iff.1 h1
      obtain ⟨n', hn, h1⟩ := Option.bind_eq_some_iff.1 h1
      obtain ⟨k', hk, h1⟩ := Option.map_eq_some_iff.1 h1
      cases h1
      obtain ⟨d, i, hd, hi, rfl⟩ := agN_some hn
      simp only [CO.run] at er
      have va := hev x a ha
      split at er
      · rename_i l hl
        rw [hl] at va
        have key : ∃ v, partV (isAg d) fd.offset i.size l = some v ∧ r = (v, h) := by
          unfold partV
          cases hag : isAg d
          · simp only [hag, Bool.false_eq_true, if_false] at er ⊢
            obtain ⟨v, hv, rfl⟩ := Option.map_eq_some_iff.1 er
            exact ⟨v, hv, rfl⟩
          · simp only [hag, if_true] at er ⊢
            cases er
            exact ⟨_, rfl, rfl⟩
        obtain ⟨v, hv, rfl⟩ := key
        exact (ans_fld s fi hu hfd hi hd va hv).next hr
      · cases er
    · cases h1
  | indexAddr t x i =>
    simp only [compOp] at hc
    obtain ⟨a, ha, hc⟩ := Option.bind_eq_some_iff.1 hc
    obtain ⟨b, hb, hc⟩ := Option.bind_eq_some_iff.1 hc
    have va := hev x a ha
    have vb := hev i b hb
    split at hc
    · rename_i e hu
      obtain ⟨n, hn, rfl⟩ := Option.map_eq_some_iff.1 hc
      obtain ⟨ie, hie, rfl⟩ := szOf_some hn
      simp only [CO.run] at er
      split at er
      · rename_i q1 q2
        split at er
        · rename_i hcond
          cases er
          rw [q1] at va
          rw [q2] at vb
          dsimp only
          generalize f i = vi at vb ⊢
          cases vb
          exact (ans_iad t e hu hie va hcond.1 hcond.2).next hr
        · cases er
      · cases er
    · rename_i k e hu
      obtain ⟨n, hn, rfl⟩ := Option.map_eq_some_iff.1 hc
      obtain ⟨ie, hie, rfl⟩ := szOf_some hn
      simp only [CO.run] at er
      split at er
      · rename_i q1 q2
        split at er
        · rename_i hcond
          cases er
          rw [q1] at va
          rw [q2] at vb
          dsimp only
          generalize f i = vi at vb ⊢
          cases vb
          exact (ans_iaa t e hu hie va hcond.1 hcond.2).next hr
        · cases er
      · cases er
    · cases hc
  | index t x i =>
    simp only [compOp] at hc
    obtain ⟨a, ha, hc⟩ := Option.bind_eq_some_iff.1 hc
    obtain ⟨b, hb, hc⟩ := Option.bind_eq_some_iff.1 hc
    have va := hev x a ha
    have vb := hev i b hb
    split at hc
    · rename_i hu
      cases hc
      simp only [CO.run] at er
      split at er
      · rename_i q1 q2
        split at er
        · rename_i h0
          obtain ⟨u, hu', rfl⟩ := Option.map_eq_some_iff.1 er
          rw [q1] at va
          rw [q2] at vb
          dsimp only
          generalize f i = vi at vb ⊢
          cases vb
          exact (ans_ixs t hu va h0 hu').next hr
        · cases er
      · cases er
    · rename_i k e hu
      obtain ⟨n, hn, hc⟩ := Option.bind_eq_some_iff.1 hc
      obtain ⟨g, hg, rfl⟩ := Option.map_eq_some_iff.1 hc
      obtain ⟨ie, hie, rfl⟩ := szOf_some hn
      obtain ⟨d, i2, hd, hi2, rfl⟩ := agN_some hg
      rw [hie] at hi2
      cases hi2
      simp only [CO.run] at er
      split at er
      · rename_i l kk m q1 q2
        split at er
        · rename_i hcond
          rw [q1] at va
          rw [q2] at vb
          dsimp only
          generalize f i = vi at vb ⊢
          cases vb
          have key : ∃ v, partV (isAg d) (m.toNat * ie.size) ie.size l = some v ∧ r = (v, h) := by
            unfold partV
            cases hag : isAg d
            · simp only [hag, Bool.false_eq_true, if_false, Option.isSome_none] at er ⊢
              obtain ⟨v, hv, rfl⟩ := Option.map_eq_some_iff.1 er
              exact ⟨v, hv, rfl⟩
            · simp only [hag, if_true, Option.isSome_some] at er ⊢
              cases er
              exact ⟨_, rfl, rfl⟩
          obtain ⟨v, hv, rfl⟩ := key
          exact (ans_ixa t e hu hie hd va hcond.1 hcond.2 hv).next hr
        · cases er
      · cases er
    · cases hc
  | typeAssert x tx t ok =>
    simp only [compOp] at hc
    obtain ⟨a, ha, hc⟩ := Option.bind_eq_some_iff.1 hc
    obtain ⟨z, hz, hc⟩ := Option.bind_eq_some_iff.1 hc
    obtain ⟨zv, hzv, hc⟩ := Option.bind_eq_some_iff.1 hc
    obtain ⟨i, hi, hz⟩ := Option.bind_eq_some_iff.1 hz
    split at hc
    · cases hc
    · cases hc
    · rename_i hn1 hn2
      cases hc
      cases hu : P.underlying t with
      | none => exact absurd hu hn1
      | some d =>
        have key : ∃ v, tasV t ok zv (Opd.ev fr a) = some v ∧ r = (v, h) := by
          unfold tasV
          simp only [CO.run] at er
          split at er
          · rename_i hq
            try rw [hq]
            split at er
            · rename_i he; cases er; exact ⟨_, by simp [he], rfl⟩
            · rename_i he
              split at er
              · rename_i ho; cases er; exact ⟨_, by simp [he, ho], rfl⟩
              · cases er
          · rename_i hq
            try rw [hq]
            split at er
            · rename_i ho; cases er; exact ⟨_, by simp [ho], rfl⟩
            · cases er
          · cases er
        obtain ⟨v, hv, rfl⟩ := key
        exact (ans_tas tx t ok hu (fun ms e => hn2 ms (by rw [hu, e])) hi hz (absV_ok ρ hzv) (hev x a ha) hv).next hr
  | extract x i =>
    obtain ⟨a, ha, rfl⟩ := Option.map_eq_some_iff.1 hc
    simp only [CO.run] at er
    have va := hev x a ha
    split at er
    · rename_i l hl
      obtain ⟨v, hv, rfl⟩ := Option.map_eq_some_iff.1 er
      rw [hl] at va
      exact (ans_ext va i hv).next hr
    · cases er
  | call c => exact builtin_ok hr hev hc er
  | range t x =>
    simp only [compOp] at hc
    obtain ⟨a, ha, hc⟩ := Option.bind_eq_some_iff.1 hc
    have va := hev x a ha
    split at hc
    · rename_i ht
      cases hc
      simp only [CO.run] at er
      split at er
      · rename_i l hl
        cases er
        rw [hl] at va
        exact (good_rng (P := P) hr t ht va).next
      · cases er
    · cases hc
  | next x b =>
    simp only [compOp] at hc
    obtain ⟨a, ha, hc1⟩ := Option.bind_eq_some_iff.1 hc
    clear hc
    have hc := hc1
    clear hc1
    have va := hev x a ha
    split at hc
    · rename_i hb
      subst hb
      cases hc
      simp only [CO.run] at er
      split at er
      · rename_i id hl
        split at er
        · rename_i s pos hi
          rw [hl] at va
          exact (good_nxt (P := P) hr _ va hi er).next
        · cases er
      · cases er
    · cases hc
  | _ => cases hc
end
end Go.Proofs.Ytbcpcjofkfgjoaa
