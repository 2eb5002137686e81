/- 'RegisterAtOnce': whatever the input, the law returns true, and everything that was there reads as it did. No condition. -/
import Derived.Test.YtcncpbcbedfakaaGreatRn27
set_option linter.all false
section
namespace Go.Proofs.YtcncpbcbedfakaaGreat.registerAtOnce
open Go.ChangeShapes Go.WideShapes Go.ChangeAt Go.RowKit
set_option maxRecDepth 100000 in
theorem row {H : Type} (enc : TypeId × Value → H) {W : World} {base : Nat} {args : Array Value} {ds gs : List (DataW H)} {before : List MemPlace}
  (hval : ∀ (j : Nat) t v, Tryz.f8.params[j]? = some t → args[j]? = some v → Value.okWide Tryz.prog W .any base t v)
  (hW : DataW.Whole enc Tryz.prog Tryz.f8.params.toList Rows.registerAtOnceSpec.vars false W args.toList ds gs before) :
  Calls Tryz.prog 8 args W fun e W' => ∃ v, e = .returned v ∧ Rows.registerAtOnceSpec.post enc Tryz.prog Tryz.f8 false true false false W args v W' := by
 have hW' := hW
 obtain ⟨p, q, hA, hV, rfl, _, _⟩ := hW
 obtain ⟨v0, vs0, d0, ds0, p0, q0, hargs, rfl, rfl, h0, r0⟩ := trodAll_cons (show DataW.TrodAll enc Tryz.prog W 0 (fun _ => true) true [28, 3, 3, 3, 40, 40, 40] args.toList ds p from hA)
 obtain ⟨v1, vs1, d1, ds1, p1, q1, rfl, rfl, rfl, h1, r1⟩ := trodAll_cons r0
 obtain ⟨v2, vs2, d2, ds2, p2, q2, rfl, rfl, rfl, h2, r2⟩ := trodAll_cons r1
 obtain ⟨v3, vs3, d3, ds3, p3, q3, rfl, rfl, rfl, h3, r3⟩ := trodAll_cons r2
 obtain ⟨v4, vs4, d4, ds4, p4, q4, rfl, rfl, rfl, h4, r4⟩ := trodAll_cons r3
 obtain ⟨v5, vs5, d5, ds5, p5, q5, rfl, rfl, rfl, h5, r5⟩ := trodAll_cons r4
 obtain ⟨v6, vs6, d6, ds6, p6, q6, rfl, rfl, rfl, h6, r6⟩ := trodAll_cons r5
 obtain ⟨rfl, rfl, rfl⟩ := trodAll_nil r6
 obtain rfl : args = #[v0, v1, v2, v3, v4, v5, v6] := by cases args; simp_all
 obtain ⟨rfl, rfl⟩ := trodVars_none hV
 obtain ⟨c0, rfl, _⟩ := Go.WideShapes.okWide_struct Tryz.underlying28 (hval 0 28 v0 rfl rfl)
 obtain ⟨f0, hf0⟩ := h0
 obtain ⟨g0, a0, b0, e0, ⟨zs0, sg0⟩, ⟨xs0, sa0⟩, ⟨ys0, sb0⟩⟩ := reg_sl hf0
 obtain rfl : c0 = #[g0, a0, b0] := by
  apply Array.toList_inj.1
  simpa [Value.cells] using e0
 obtain ⟨i1, rfl⟩ := Go.WideShapes.okWide_int Tryz.underlying3 (hval 1 3 v1 rfl rfl)
 obtain ⟨f1, hf1⟩ := h1
 have bi1 := int_bd hf1
 obtain ⟨i2, rfl⟩ := Go.WideShapes.okWide_int Tryz.underlying3 (hval 2 3 v2 rfl rfl)
 obtain ⟨f2, hf2⟩ := h2
 have bi2 := int_bd hf2
 obtain ⟨i3, rfl⟩ := Go.WideShapes.okWide_int Tryz.underlying3 (hval 3 3 v3 rfl rfl)
 obtain ⟨f3, hf3⟩ := h3
 have bi3 := int_bd hf3
 obtain ⟨f4, hf4⟩ := h4
 obtain ⟨i4, e4⟩ := id_cells hf4
 obtain rfl : v4 = .agg ((idR.f i4).map AV.val).toArray := agg_of e4 (by rw [List.length_map, idR.len]; decide)
 obtain ⟨f5, hf5⟩ := h5
 obtain ⟨i5, e5⟩ := id_cells hf5
 obtain rfl : v5 = .agg ((idR.f i5).map AV.val).toArray := agg_of e5 (by rw [List.length_map, idR.len]; decide)
 obtain ⟨f6, hf6⟩ := h6
 obtain ⟨i6, e6⟩ := id_cells hf6
 obtain rfl : v6 = .agg ((idR.f i6).map AV.val).toArray := agg_of e6 (by rw [List.length_map, idR.len]; decide)
 have I0 := In.nil (K := KC Tryz.prog) W
 obtain ⟨x0, s0, B0, I1, vr0, rd0, ex0, cp0⟩ := I0.sl (r := heldR) held_fl sg0
 obtain ⟨x1, s1, B1, I2, vr1, rd1, ex1, cp1⟩ := I1.sl (r := intR) int_fl sa0
 obtain ⟨x2, s2, B2, I3, vr2, rd2, ex2, cp2⟩ := I2.sl (r := dotR) dot_fl sb0
 refine (law_true I3 (VL.cons (vr_ag (VL.cons (vr0.ext (ex1.trans (ex2))) (VL.cons (vr1.ext (ex2)) (VL.one vr2)))) (VL.cons (.i _ _) (VL.cons (.i _ _) (VL.cons (.i _ _) (VL.cons (vr_ag (vl_val _ _ (id_fl i4))) (VL.cons (vr_ag (vl_val _ _ (id_fl i5))) (VL.cons (vr_ag (vl_val _ _ (id_fl i6))) (VL.nil _)))))))) (RegisterAtOnce_at I3.hz ((rd0.app [B1]).app [B2]) (rd1.app [B2]) rd2 cp2 i1 bi1 i2 bi2 i3 bi3 i4 i5 i6).c).mono ?_
 rintro e W' ⟨rfl, hk⟩
 exact ⟨_, rfl, law_post Tryz.laidOut Tryz.underlying4 rfl rfl rfl (by kernel_rfl) hW' hk⟩
end Go.Proofs.YtcncpbcbedfakaaGreat.registerAtOnce
end
section
namespace Go.Proofs.YtcncpbcbedfakaaGreat.registerAtOnce
open Go.ChangeShapes Go.WideShapes Go.ChangeAt Go.RowKit
set_option maxRecDepth 100000 in
theorem lifted (os : Os) (started : os.Started) (H : Type) (enc : TypeId × Value → H) :
  ReturnsInHanded {} Tryz.checked os 8 .any (Rows.registerAtOnceSpec.pre6 enc Tryz.prog Tryz.f8 Rows.registerAtOnceRow.domain false) (Rows.registerAtOnceSpec.post enc Tryz.prog Tryz.f8 false true false false) := by
 refine returnsInHanded_of_change (C := Tryz.checked) Tryz.own started (by kernel_rfl) Tryz.func8
  (ChangeSpec.witness6 (enc := enc) (C := Tryz.checked) false ⟨#[], #[.agg #[.slice none 0 0, .slice none 0 0, .slice none 0 0], .int .i64 0, .int .i64 0, .int .i64 0, .agg #[.int .u8 0, .int .u8 0, .int .u8 0, .int .u8 0, .int .u8 0, .int .u8 0, .int .u8 0, .int .u8 0, .int .u8 0, .int .u8 0, .int .u8 0, .int .u8 0, .int .u8 0, .int .u8 0, .int .u8 0, .int .u8 0, .int .u8 0, .int .u8 0, .int .u8 0, .int .u8 0, .int .u8 0, .int .u8 0, .int .u8 0, .int .u8 0, .int .u8 0, .int .u8 0, .int .u8 0, .int .u8 0, .int .u8 0, .int .u8 0, .int .u8 0, .int .u8 0], .agg #[.int .u8 0, .int .u8 0, .int .u8 0, .int .u8 0, .int .u8 0, .int .u8 0, .int .u8 0, .int .u8 0, .int .u8 0, .int .u8 0, .int .u8 0, .int .u8 0, .int .u8 0, .int .u8 0, .int .u8 0, .int .u8 0, .int .u8 0, .int .u8 0, .int .u8 0, .int .u8 0, .int .u8 0, .int .u8 0, .int .u8 0, .int .u8 0, .int .u8 0, .int .u8 0, .int .u8 0, .int .u8 0, .int .u8 0, .int .u8 0, .int .u8 0, .int .u8 0], .agg #[.int .u8 0, .int .u8 0, .int .u8 0, .int .u8 0, .int .u8 0, .int .u8 0, .int .u8 0, .int .u8 0, .int .u8 0, .int .u8 0, .int .u8 0, .int .u8 0, .int .u8 0, .int .u8 0, .int .u8 0, .int .u8 0, .int .u8 0, .int .u8 0, .int .u8 0, .int .u8 0, .int .u8 0, .int .u8 0, .int .u8 0, .int .u8 0, .int .u8 0, .int .u8 0, .int .u8 0, .int .u8 0, .int .u8 0, .int .u8 0, .int .u8 0, .int .u8 0]], []⟩ 8 (by kernel_rfl) (by kernel_rfl) (by kernel_rfl) (by kernel_rfl)) ?_
 intro W base args ds gs before hval0 hW hcnd _
 have hval : ∀ (j : Nat) t v, Tryz.f8.params[j]? = some t → args[j]? = some v → Value.okWide Tryz.prog W .any base t v := hval0
 exact row enc hval hW
theorem over : Rows.registerAtOnceRow.holds Tryz.pinned (OpenSpec.ofChange Rows.registerAtOnceSpec) :=
 OpenClaim.holds_of_wide 8 Tryz.f8 rfl rfl rfl rfl rfl rfl rfl ⟨rfl, rfl, rfl, rfl, rfl⟩ rfl rfl rfl rfl rfl (by kernel_rfl) Tryz.func8 (by kernel_rfl)
  (of_decide_eq_true (by kernel_rfl)) (by unfold Func.isWrapper; first | (rw [if_pos (by decide +kernel)]; kernel_rfl) | (rw [if_neg (by decide +kernel)]; exact ⟨rfl, rfl⟩))
  (fun os started H enc _ => lifted os started H enc)
theorem proved : Rows.RegisterAtOnceSaid := over
#print axioms proved
end Go.Proofs.YtcncpbcbedfakaaGreat.registerAtOnce
end
