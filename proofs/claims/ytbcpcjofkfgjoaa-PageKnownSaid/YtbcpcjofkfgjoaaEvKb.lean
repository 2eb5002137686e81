/- The builtin functions: len, max, min, append. -/
import Derived.Test.YtbcpcjofkfgjoaaEvK
namespace Go.Proofs.Ytbcpcjofkfgjoaa
open Go.RowKit

section
variable {P : Program} {K : Code → CC → Prop}
theorem len_ok {ρ : Mp} {h : List AB} {w : World} (hr : Rel K ρ h w) (str : Bool) {t ty : TypeId} {d : TypeDesc} (hu : P.underlying t = some d) (hd : if str then d = .string else ∃ e, d = .slice e) {x : AV} {vx : Value} (hx : VR ρ x vx) {r : AV × List AB} (er : (if x.isStr = str then (lenV x).map fun n => (AV.i .i64 n, h) else none) = some r) : Good K P ρ h w (Builtin.len_ #[t] ty #[vx]) r := by
  split at er
  · rename_i hs
    obtain ⟨n, hn, rfl⟩ := Option.map_eq_some_iff.1 er
    cases str with
    | true =>
      simp only [if_true] at hd
      subst hd
      exact (ans_len (P := P) t ty hu (.inl rfl) hx hn (propext (Iff.intro (fun _ => isStr_iff.1 hs) (fun _ => rfl)))).good hr
    | false =>
      simp only [Bool.false_eq_true, if_false] at hd
      obtain ⟨e, rfl⟩ := hd
      exact (ans_len (P := P) t ty hu (.inr ⟨e, rfl⟩) hx hn (propext (Iff.intro (fun q => by cases q) (fun ⟨l, q⟩ => absurd q (isStr_not hs l))))).good hr
  · cases er
theorem builtin_run {ρ : Mp} {h : List AB} {w : World} (hr : Rel K ρ h w) {f : Operand → Value} {fr : List AV} (hev : EV ρ f (Opd.ev fr)) {b : Builtin} {args : List Operand} {ts : List TypeId} {ty : TypeId} {consts : Array Bool} {co : CO} (hc : compB P b args ts = some co) {r : AV × List AB} (er : co.run (Opd.ev fr) h = some r) : GoodN K P ρ h w (builtin b ts.toArray ty consts (args.map f).toArray) r := by
  unfold compB at hc
  split at hc
  · rename_i x t
    obtain ⟨a, ha, hc⟩ := Option.bind_eq_some_iff.1 hc
    have va := hev x a ha
    split at hc
    · rename_i hu
      cases hc
      exact (len_ok (P := P) hr true hu (by simp) va er).next
    · rename_i e hu
      cases hc
      exact (len_ok (P := P) hr false hu (by simp) va er).next
    · rename_i n e hu
      cases hc
      cases er
      exact ((Ans.mk (P := P) (v := .int .i64 n) (fun w => by simp [Builtin.len_, run_underlying hu, goInt]) (.i _ _)).good hr).next
    · cases hc
  · rename_i ts x y
    obtain ⟨a, ha, hc⟩ := Option.bind_eq_some_iff.1 hc
    obtain ⟨b, hb, rfl⟩ := Option.map_eq_some_iff.1 hc
    obtain ⟨v, hv, rfl⟩ := Option.map_eq_some_iff.1 er
    exact ((ans_mm (P := P) true ts.toArray ty (hev x a ha) (hev y b hb) hv).good hr).next
  · rename_i ts x y
    obtain ⟨a, ha, hc⟩ := Option.bind_eq_some_iff.1 hc
    obtain ⟨b, hb, rfl⟩ := Option.map_eq_some_iff.1 hc
    obtain ⟨v, hv, rfl⟩ := Option.map_eq_some_iff.1 er
    exact ((ans_mm (P := P) false ts.toArray ty (hev x a ha) (hev y b hb) hv).good hr).next
  · rename_i x y t tx
    obtain ⟨a, ha, hc⟩ := Option.bind_eq_some_iff.1 hc
    obtain ⟨b, hb, hc⟩ := Option.bind_eq_some_iff.1 hc
    have gen : ∀ {e : TypeId} {d : TypeDesc} {str : Bool}, P.underlying t = some (.slice e) → P.underlying tx = some d → ((P.info? e).bind fun ie => (zcells P e).bind fun zs => if zs.length = ie.size then some (CO.app str (zs.all scal) ie.size ie.bytes a b) else none) = some co →
        (if str then d = .string else ∃ e, d = .slice e) → GoodN K P ρ h w (builtin .append #[t, tx] ty consts #[f x, f y]) r := fun {e d str} hu hd hc hk => by
      obtain ⟨ie, hie, hc⟩ := Option.bind_eq_some_iff.1 hc
      obtain ⟨zs, hz, hc⟩ := Option.bind_eq_some_iff.1 hc
      split at hc
      · rename_i hq
        cases hc
        simp only [CO.run] at er
        split at er
        · rename_i hs
          obtain ⟨i, z, hi, hzz, hl⟩ := zcells_some hz
          rw [hie] at hi
          cases hi
          have hvz := absA_ok ρ hl
          refine (good_app (P := P) hr t tx ty e hu hie hzz (by rw [← hvz.1]; exact hq) _ hd (hev x a ha) (hev y b hb) ?_ er).next
          cases str with
          | true => exact .inl ⟨isStr_iff.1 hs, by simpa using hk⟩
          | false => exact .inr ⟨isStr_not hs, by simpa using hk⟩
        · cases er
      · cases hc
    split at hc
    · rename_i e e' hu hd
      exact gen hu hd hc (by simp)
    · rename_i e hu hd
      exact gen hu hd hc (by simp)
    · rename_i e k hu hd
      obtain ⟨ie, hie, hc⟩ := Option.bind_eq_some_iff.1 hc
      obtain ⟨zs, hz, hc⟩ := Option.bind_eq_some_iff.1 hc
      split at hc
      · rename_i hq
        cases hc
        obtain ⟨i, z, hi, hzz, hl⟩ := zcells_some hz
        rw [hie] at hi
        cases hi
        have hvz := absA_ok ρ hl
        have v1 := hev x a ha
        have v2 := hev y b hb
        simp only [CO.run] at er
        split at er
        · rename_i ik m hx hy
          rw [hx] at v1
          rw [hy] at v2
          show GoodN K P ρ h w (builtin .append #[t, tx] ty consts #[f x, f y]) r
          generalize f x = vx at v1 ⊢
          generalize f y = vy at v2 ⊢
          cases v1
          cases v2
          split at er
          · rename_i hm0
            subst hm0
            cases er
            have hw0 : IntKind.i64.wrap 0 = 0 := by decide
            refine ((Ans.mk (P := P) (v := .slice none 0 0) (fun w => ?_) .ns).good hr).next
            simp [Builtin.append_, run_underlying hu, run_underlying hd, sizeOf, typeInfo, hie, asInt, asIntOf, hw0]
          · split at er
            · rename_i hm
              exact (good_apz (P := P) hr t tx ty e hu hd hie hzz (by rw [← hvz.1]; exact hq.1) hq.2 _ hvz hm.1 hm.2.1 hm.2.2 er).next
            · cases er
        · cases er
      · cases hc
    · cases hc
  · rename_i x y t tx
    obtain ⟨a, ha, hc⟩ := Option.bind_eq_some_iff.1 hc
    obtain ⟨b, hb, hc⟩ := Option.bind_eq_some_iff.1 hc
    have gen : ∀ {e : TypeId} {d : TypeDesc} {str : Bool}, P.underlying t = some (.slice e) → P.underlying tx = some d → ((szOf P e).map fun n => CO.cpy str n a b) = some co →
        (if str then d = .string else ∃ e, d = .slice e) → GoodN K P ρ h w (builtin .copy #[t, tx] ty consts #[f x, f y]) r := fun {e d str} hu hd hc hk => by
      obtain ⟨n, hn, rfl⟩ := Option.map_eq_some_iff.1 hc
      obtain ⟨ie, hie, rfl⟩ := szOf_some hn
      simp only [CO.run] at er
      split at er
      · rename_i hs
        refine (good_cpy (P := P) hr t tx ty e hu hie hd (hev x a ha) (hev y b hb) ?_ er).next
        cases str with
        | true => exact .inl ⟨isStr_iff.1 hs, by simpa using hk⟩
        | false => exact .inr ⟨isStr_not hs, by simpa using hk⟩
      · cases er
    split at hc
    · rename_i e e' hu hd
      exact gen hu hd hc (by simp)
    · rename_i e hu hd
      exact gen hu hd hc (by simp)
    · cases hc
  · rename_i x t
    obtain ⟨a, ha, hc⟩ := Option.bind_eq_some_iff.1 hc
    have v1 := hev x a ha
    split at hc
    · rename_i e hu
      cases hc
      simp only [CO.run] at er
      split at er
      · rename_i hx
        cases er
        rw [hx] at v1
        generalize hfx : f x = vx at v1
        cases v1
        refine ((Ans.mk (P := P) (v := .int .i64 0) (fun w => ?_) (.i _ _)).good hr).next
        simp [Builtin.cap_, run_underlying hu, goInt, hfx]
      · rename_i c hx
        cases er
        rw [hx] at v1
        generalize hfx : f x = vx at v1
        cases v1 with
        | sl _ _ _ _ _ b o n cap' hρ h1 h2 h3 h4 h5 =>
          have := h4 rfl
          subst this
          refine ((Ans.mk (P := P) (v := .int .i64 cap') (fun w => ?_) (.i _ _)).good hr).next
          simp [Builtin.cap_, run_underlying hu, goInt, hfx]
      · cases er
    · cases hc
  · rename_i x t
    obtain ⟨a, ha, hc⟩ := Option.bind_eq_some_iff.1 hc
    have v1 := hev x a ha
    split at hc
    · rename_i e hu
      obtain ⟨ie, hie, hc⟩ := Option.bind_eq_some_iff.1 hc
      obtain ⟨zs, hzs, hc⟩ := Option.bind_eq_some_iff.1 hc
      split at hc
      · rename_i hq
        cases hc
        obtain ⟨ie', z, hie', hzz, hl⟩ := zcells_some hzs
        rw [hie] at hie'
        cases hie'
        have hvz := absA_ok ρ hl
        exact (good_clr (P := P) hr t ty e hu hie hzz (by rw [← hvz.1]; exact hq.1) hq.2 hvz er v1).next
      · cases hc
    · cases hc
  · cases hc
theorem builtin_ok {ρ : Mp} {h : List AB} {w : World} (hr : Rel K ρ h w) {f : Operand → Value} {fr : List AV} (hev : EV ρ f (Opd.ev fr)) {c : Call} {ty : TypeId} {co : CO} (hc : compOp P (.call c) = some co) {r : AV × List AB} (er : co.run (Opd.ev fr) h = some r) : GoodN K P ρ h w (do let d ← resolve f c ty; invoke d.target d.args) r := by
  obtain ⟨callee, args, ts⟩ := c
  simp only [compOp, compCall] at hc
  cases callee with
  | builtin b =>
    simp only at hc
    have hb := fun consts => builtin_run (P := P) hr hev (ty := ty) (consts := consts) hc er
    have ea : (args.toList.map f).toArray = args.map f := by rw [← Array.toList_map, Array.toArray_toList]
    rw [ea] at hb
    simp only [Array.toArray_toList] at hb
    obtain ⟨cs, e⟩ : ∃ cs, (do let d ← resolve f { callee := .builtin b, args := args, argTypes := ts } ty; invoke d.target d.args) = builtin b ts ty cs (args.map f) := ⟨_, rfl⟩
    rw [e]
    exact hb cs
  | value g =>
    simp only at hc
    split at hc
    · rename_i x y hcmp hxy
      obtain ⟨a, ha, hc⟩ := Option.bind_eq_some_iff.1 hc
      obtain ⟨b, hb, rfl⟩ := Option.map_eq_some_iff.1 hc
      unfold isCmp at hcmp
      split at hcmp
      · rename_i gid
        split at hcmp
        · rename_i fn hfn
          simp only [Bool.and_eq_true, Bool.or_eq_true, beq_iff_eq] at hcmp
          obtain ⟨v', e1, e2, e3⟩ := good_bcmp (P := P) hr hfn hcmp.1.1 hcmp.1.2 hcmp.2 (hev x a ha) (hev y b hb) er
          have hargs : args = #[x, y] := by
            apply Array.ext'
            simpa using hxy
          subst hargs
          have hg : f (.func gid) = .func (.func gid) #[] #[] := by
            have h1 := hev (.func gid) _ rfl
            simp only [Opd.ev] at h1
            generalize f (.func gid) = u at h1
            cases h1 with
            | f _ _ _ fst' cap' q1 q2 =>
              rw [Array.eq_empty_of_size_eq_zero q1.symm, Array.eq_empty_of_size_eq_zero q2.symm]
          refine ⟨v', w, ρ, .inl ?_, Ext.refl _, e3 ▸ hr, e2, e3 ▸ Eff.refl _ _ _⟩
          rw [← e1]
          simp [resolve, hg, Deferred.ofValue, invoke]
        · cases hcmp
      · cases hcmp
    · rename_i ll hll
      split at hc
      · rename_i hbix
        unfold compBix at hc
        split at hc
        · rename_i x y hxy
          obtain ⟨a, ha, hc⟩ := Option.bind_eq_some_iff.1 hc
          obtain ⟨b, hb, rfl⟩ := Option.map_eq_some_iff.1 hc
          simp only [CO.run] at er
          split at er
          · rename_i l n hla hnb
            cases er
            unfold isBix at hbix
            split at hbix
            · rename_i gid
              split at hbix
              · rename_i fn hfn
                simp only [Bool.and_eq_true, beq_iff_eq] at hbix
                have va := hev x a ha
                have vb := hev y b hb
                rw [hla] at va
                rw [hnb] at vb
                have e1 := good_bix (P := P) (w := w) hfn hbix.1.1 hbix.1.2 hbix.2 va vb
                have hargs : args = #[x, y] := by
                  apply Array.ext'
                  simpa using hxy
                subst hargs
                have hg : f (.func gid) = .func (.func gid) #[] #[] := by
                  have h1 := hev (.func gid) _ rfl
                  simp only [Opd.ev] at h1
                  generalize f (.func gid) = u at h1
                  cases h1 with
                  | f _ _ _ fst' cap' q1 q2 =>
                    rw [Array.eq_empty_of_size_eq_zero q1.symm, Array.eq_empty_of_size_eq_zero q2.symm]
                refine ⟨_, w, ρ, .inl ?_, Ext.refl _, hr, .i _ _, Eff.refl _ _ _⟩
                refine Eq.trans (b := (callFunc gid #[f x, f y]).run P w) ?_ e1
                simp [resolve, hg, Deferred.ofValue, invoke]
              · cases hbix
            · cases hbix
          · cases er
        · cases hc
      · obtain ⟨a, ha, hc⟩ := Option.bind_eq_some_iff.1 hc
        obtain ⟨l, hl, rfl⟩ := Option.map_eq_some_iff.1 hc
        cases er
  | invoke _ _ => cases hc
end
end Go.Proofs.Ytbcpcjofkfgjoaa
