/- 'RegisterThrough': whatever the input, the law returns true, and everything that was there reads as it did. No condition. -/
import Derived.Test.YtcncpbcbedfakaaGreatRm27
set_option linter.all false
section
namespace Go.Proofs.YtcncpbcbedfakaaGreat.registerThrough
open Go.ChangeShapes Go.WideShapes Go.ChangeAt Go.RowKit
set_option maxRecDepth 100000 in
theorem row {H : Type} (enc : TypeId × Value → H) {W : World} {base : Nat} {args : Array Value} {ds gs : List (DataW H)} {before : List MemPlace}
  (hval : ∀ (j : Nat) t v, Tryz.f7.params[j]? = some t → args[j]? = some v → Value.okWide Tryz.prog W .any base t v)
  (hW : DataW.Whole enc Tryz.prog Tryz.f7.params.toList Rows.registerThroughSpec.vars false W args.toList ds gs before) :
  Calls Tryz.prog 7 args W fun e W' => ∃ v, e = .returned v ∧ Rows.registerThroughSpec.post enc Tryz.prog Tryz.f7 false true false false W args v W' := by
 have hW' := hW
 obtain ⟨p, q, hA, hV, rfl, _, _⟩ := hW
 obtain ⟨v0, vs0, d0, ds0, p0, q0, hargs, rfl, rfl, h0, r0⟩ := trodAll_cons (show DataW.TrodAll enc Tryz.prog W 0 (fun _ => true) true [28, 28, 38, 40, 26] args.toList ds p from hA)
 obtain ⟨v1, vs1, d1, ds1, p1, q1, rfl, rfl, rfl, h1, r1⟩ := trodAll_cons r0
 obtain ⟨v2, vs2, d2, ds2, p2, q2, rfl, rfl, rfl, h2, r2⟩ := trodAll_cons r1
 obtain ⟨v3, vs3, d3, ds3, p3, q3, rfl, rfl, rfl, h3, r3⟩ := trodAll_cons r2
 obtain ⟨v4, vs4, d4, ds4, p4, q4, rfl, rfl, rfl, h4, r4⟩ := trodAll_cons r3
 obtain ⟨rfl, rfl, rfl⟩ := trodAll_nil r4
 obtain rfl : args = #[v0, v1, v2, v3, v4] := by cases args; simp_all
 obtain ⟨rfl, rfl⟩ := trodVars_none hV
 obtain ⟨c0, rfl, _⟩ := Go.WideShapes.okWide_struct Tryz.underlying28 (hval 0 28 v0 rfl rfl)
 obtain ⟨f0, hf0⟩ := h0
 obtain ⟨g0, a0, b0, e0, ⟨zs0, sg0⟩, ⟨xs0, sa0⟩, ⟨ys0, sb0⟩⟩ := reg_sl hf0
 obtain rfl : c0 = #[g0, a0, b0] := by
  apply Array.toList_inj.1
  simpa [Value.cells] using e0
 obtain ⟨c1, rfl, _⟩ := Go.WideShapes.okWide_struct Tryz.underlying28 (hval 1 28 v1 rfl rfl)
 obtain ⟨f1, hf1⟩ := h1
 obtain ⟨g1, a1, b1, e1, ⟨zs1, sg1⟩, ⟨xs1, sa1⟩, ⟨ys1, sb1⟩⟩ := reg_sl hf1
 obtain rfl : c1 = #[g1, a1, b1] := by
  apply Array.toList_inj.1
  simpa [Value.cells] using e1
 obtain ⟨c2, rfl, _⟩ := Go.WideShapes.okWide_struct Tryz.underlying38 (hval 2 38 v2 rfl rfl)
 obtain ⟨f2, hf2⟩ := h2
 obtain ⟨i2, k2, e2, bi2, bk2⟩ := dot_cells hf2
 obtain rfl : c2 = #[.int .i64 i2, .int .i64 k2] := by
  apply Array.toList_inj.1
  simpa [Value.cells] using e2
 obtain ⟨f3, hf3⟩ := h3
 obtain ⟨i3, e3⟩ := id_cells hf3
 obtain rfl : v3 = .agg ((idR.f i3).map AV.val).toArray := agg_of e3 (by rw [List.length_map, idR.len]; decide)
 obtain ⟨c4, rfl, _⟩ := Go.WideShapes.okWide_struct Tryz.underlying26 (hval 4 26 v4 rfl rfl)
 obtain ⟨f4, hf4⟩ := h4
 obtain ⟨a4, b4, e4, ⟨xs4, sa4⟩, ⟨ys4, sb4⟩⟩ := cloud_sl hf4
 obtain rfl : c4 = #[a4, b4] := by
  apply Array.toList_inj.1
  simpa [Value.cells] using e4
 have I0 := In.nil (K := KC Tryz.prog) W
 obtain ⟨x0, s0, B0, I1, vr0, rd0, ex0, cp0⟩ := I0.sl (r := heldR) held_fl sg0
 obtain ⟨x1, s1, B1, I2, vr1, rd1, ex1, cp1⟩ := I1.sl (r := intR) int_fl sa0
 obtain ⟨x2, s2, B2, I3, vr2, rd2, ex2, cp2⟩ := I2.sl (r := dotR) dot_fl sb0
 obtain ⟨x3, s3, B3, I4, vr3, rd3, ex3, cp3⟩ := I3.sl (r := heldR) held_fl sg1
 obtain ⟨x4, s4, B4, I5, vr4, rd4, ex4, cp4⟩ := I4.sl (r := intR) int_fl sa1
 obtain ⟨x5, s5, B5, I6, vr5, rd5, ex5, cp5⟩ := I5.sl (r := dotR) dot_fl sb1
 obtain ⟨x6, s6, B6, I7, vr6, rd6, ex6, cp6⟩ := I6.sl (r := intR) int_fl sa4
 obtain ⟨x7, s7, B7, I8, vr7, rd7, ex7, cp7⟩ := I7.sl (r := dotR) dot_fl sb4
 refine (law_true I8 (VL.cons (vr_ag (VL.cons (vr0.ext (ex1.trans (ex2.trans (ex3.trans (ex4.trans (ex5.trans (ex6.trans (ex7)))))))) (VL.cons (vr1.ext (ex2.trans (ex3.trans (ex4.trans (ex5.trans (ex6.trans (ex7))))))) (VL.one (vr2.ext (ex3.trans (ex4.trans (ex5.trans (ex6.trans (ex7)))))))))) (VL.cons (vr_ag (VL.cons (vr3.ext (ex4.trans (ex5.trans (ex6.trans (ex7))))) (VL.cons (vr4.ext (ex5.trans (ex6.trans (ex7)))) (VL.one (vr5.ext (ex6.trans (ex7))))))) (VL.cons (vr_ag (VL.cons (.i _ _) (VL.one (.i _ _)))) (VL.cons (vr_ag (vl_val _ _ (id_fl i3))) (VL.cons (vr_ag (VL.cons (vr6.ext (ex7)) (VL.one vr7))) (VL.nil _)))))) (RegisterThrough_at I8.hz (((((((rd0.app [B1]).app [B2]).app [B3]).app [B4]).app [B5]).app [B6]).app [B7]) ((((((rd1.app [B2]).app [B3]).app [B4]).app [B5]).app [B6]).app [B7]) (((((rd2.app [B3]).app [B4]).app [B5]).app [B6]).app [B7]) ((((rd3.app [B4]).app [B5]).app [B6]).app [B7]) (((rd4.app [B5]).app [B6]).app [B7]) ((rd5.app [B6]).app [B7]) (rd6.app [B7]) rd7 cp2 cp5 cp7 i2 k2 i3).c).mono ?_
 rintro e W' ⟨rfl, hk⟩
 exact ⟨_, rfl, law_post Tryz.laidOut Tryz.underlying4 rfl rfl rfl (by kernel_rfl) hW' hk⟩
end Go.Proofs.YtcncpbcbedfakaaGreat.registerThrough
end
section
namespace Go.Proofs.YtcncpbcbedfakaaGreat.registerThrough
open Go.ChangeShapes Go.WideShapes Go.ChangeAt Go.RowKit
set_option maxRecDepth 100000 in
theorem lifted (os : Os) (started : os.Started) (H : Type) (enc : TypeId × Value → H) :
  ReturnsInHanded {} Tryz.checked os 7 .any (Rows.registerThroughSpec.pre6 enc Tryz.prog Tryz.f7 Rows.registerThroughRow.domain false) (Rows.registerThroughSpec.post enc Tryz.prog Tryz.f7 false true false false) := by
 refine returnsInHanded_of_change (C := Tryz.checked) Tryz.own started (by kernel_rfl) Tryz.func7
  (ChangeSpec.witness6 (enc := enc) (C := Tryz.checked) false ⟨#[], #[.agg #[.slice none 0 0, .slice none 0 0, .slice none 0 0], .agg #[.slice none 0 0, .slice none 0 0, .slice none 0 0], .agg #[.int .i64 0, .int .i64 0], .agg #[.int .u8 0, .int .u8 0, .int .u8 0, .int .u8 0, .int .u8 0, .int .u8 0, .int .u8 0, .int .u8 0, .int .u8 0, .int .u8 0, .int .u8 0, .int .u8 0, .int .u8 0, .int .u8 0, .int .u8 0, .int .u8 0, .int .u8 0, .int .u8 0, .int .u8 0, .int .u8 0, .int .u8 0, .int .u8 0, .int .u8 0, .int .u8 0, .int .u8 0, .int .u8 0, .int .u8 0, .int .u8 0, .int .u8 0, .int .u8 0, .int .u8 0, .int .u8 0], .agg #[.slice none 0 0, .slice none 0 0]], []⟩ 8 (by kernel_rfl) (by kernel_rfl) (by kernel_rfl) (by kernel_rfl)) ?_
 intro W base args ds gs before hval0 hW hcnd _
 have hval : ∀ (j : Nat) t v, Tryz.f7.params[j]? = some t → args[j]? = some v → Value.okWide Tryz.prog W .any base t v := hval0
 exact row enc hval hW
theorem over : Rows.registerThroughRow.holds Tryz.pinned (OpenSpec.ofChange Rows.registerThroughSpec) :=
 OpenClaim.holds_of_wide 7 Tryz.f7 rfl rfl rfl rfl rfl rfl rfl ⟨rfl, rfl, rfl, rfl, rfl⟩ rfl rfl rfl rfl rfl (by kernel_rfl) Tryz.func7 (by kernel_rfl)
  (of_decide_eq_true (by kernel_rfl)) (by unfold Func.isWrapper; first | (rw [if_pos (by decide +kernel)]; kernel_rfl) | (rw [if_neg (by decide +kernel)]; exact ⟨rfl, rfl⟩))
  (fun os started H enc _ => lifted os started H enc)
theorem proved : Rows.RegisterThroughSaid := over
#print axioms proved
end Go.Proofs.YtcncpbcbedfakaaGreat.registerThrough
end
