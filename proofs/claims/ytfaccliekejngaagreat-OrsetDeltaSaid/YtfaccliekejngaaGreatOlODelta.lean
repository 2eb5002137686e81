/- 'OrsetDelta': whatever the input, the law returns true, and everything that was there reads as it did. No condition. -/
import Derived.Test.YtfaccliekejngaaGreatOl26
set_option linter.all false
section
namespace Go.Proofs.YtfaccliekejngaaGreat.orsetDelta
open Go.ChangeShapes Go.WideShapes Go.ChangeAt Go.RowKit
set_option maxRecDepth 100000 in
theorem row {H : Type} (enc : TypeId × Value → H) {W : World} {base : Nat} {args : Array Value} {ds gs : List (DataW H)} {before : List MemPlace}
  (hval : ∀ (j : Nat) t v, Tryz.f8.params[j]? = some t → args[j]? = some v → Value.okWide Tryz.prog W .any base t v)
  (hW : DataW.Whole enc Tryz.prog Tryz.f8.params.toList Rows.orsetDeltaSpec.vars false W args.toList ds gs before) :
  Calls Tryz.prog 8 args W fun e W' => ∃ v, e = .returned v ∧ Rows.orsetDeltaSpec.post enc Tryz.prog Tryz.f8 false true false false W args v W' := by
 have hW' := hW
 obtain ⟨p, q, hA, hV, rfl, _, _⟩ := hW
 obtain ⟨v0, vs0, d0, ds0, p0, q0, hargs, rfl, rfl, h0, r0⟩ := trodAll_cons (show DataW.TrodAll enc Tryz.prog W 0 (fun _ => true) true [28, 28, 26] args.toList ds p from hA)
 obtain ⟨v1, vs1, d1, ds1, p1, q1, rfl, rfl, rfl, h1, r1⟩ := trodAll_cons r0
 obtain ⟨v2, vs2, d2, ds2, p2, q2, rfl, rfl, rfl, h2, r2⟩ := trodAll_cons r1
 obtain ⟨rfl, rfl, rfl⟩ := trodAll_nil r2
 obtain rfl : args = #[v0, v1, v2] := by cases args; simp_all
 obtain ⟨rfl, rfl⟩ := trodVars_none hV
 obtain ⟨c0, rfl, _⟩ := Go.WideShapes.okWide_struct Tryz.underlying28 (hval 0 28 v0 rfl rfl)
 obtain ⟨f0, hf0⟩ := h0
 obtain ⟨g0, a0, b0, e0, ⟨zs0, sg0⟩, ⟨xs0, sa0⟩, ⟨ys0, sb0⟩⟩ := zmE hf0
 obtain rfl : c0 = #[g0, a0, b0] := by
  apply Array.toList_inj.1
  simpa [Value.cells] using e0
 obtain ⟨c1, rfl, _⟩ := Go.WideShapes.okWide_struct Tryz.underlying28 (hval 1 28 v1 rfl rfl)
 obtain ⟨f1, hf1⟩ := h1
 obtain ⟨g1, a1, b1, e1, ⟨zs1, sg1⟩, ⟨xs1, sa1⟩, ⟨ys1, sb1⟩⟩ := zmE hf1
 obtain rfl : c1 = #[g1, a1, b1] := by
  apply Array.toList_inj.1
  simpa [Value.cells] using e1
 obtain ⟨c2, rfl, _⟩ := Go.WideShapes.okWide_struct Tryz.underlying26 (hval 2 26 v2 rfl rfl)
 obtain ⟨f2, hf2⟩ := h2
 obtain ⟨a2, b2, e2, ⟨xs2, sa2⟩, ⟨ys2, sb2⟩⟩ := qps hf2
 obtain rfl : c2 = #[a2, b2] := by
  apply Array.toList_inj.1
  simpa [Value.cells] using e2
 have I0 := In.nil (K := KC Tryz.prog) W
 obtain ⟨x0, s0, B0, I1, vr0, rd0, ex0, cp0⟩ := I0.sl (r := Qv4) XwU sg0
 obtain ⟨x1, s1, B1, I2, vr1, rd1, ex1, cp1⟩ := I1.sl (r := intR) Ym8 sa0
 obtain ⟨x2, s2, B2, I3, vr2, rd2, ex2, cp2⟩ := I2.sl (r := dotR) Xwj sb0
 obtain ⟨x3, s3, B3, I4, vr3, rd3, ex3, cp3⟩ := I3.sl (r := Qv4) XwU sg1
 obtain ⟨x4, s4, B4, I5, vr4, rd4, ex4, cp4⟩ := I4.sl (r := intR) Ym8 sa1
 obtain ⟨x5, s5, B5, I6, vr5, rd5, ex5, cp5⟩ := I5.sl (r := dotR) Xwj sb1
 obtain ⟨x6, s6, B6, I7, vr6, rd6, ex6, cp6⟩ := I6.sl (r := intR) Ym8 sa2
 obtain ⟨x7, s7, B7, I8, vr7, rd7, ex7, cp7⟩ := I7.sl (r := dotR) Xwj sb2
 refine (qjs I8 (VL.cons (ZVL (VL.cons (vr0.ext (ex1.trans (ex2.trans (ex3.trans (ex4.trans (ex5.trans (ex6.trans (ex7)))))))) (VL.cons (vr1.ext (ex2.trans (ex3.trans (ex4.trans (ex5.trans (ex6.trans (ex7))))))) (VL.one (vr2.ext (ex3.trans (ex4.trans (ex5.trans (ex6.trans (ex7)))))))))) (VL.cons (ZVL (VL.cons (vr3.ext (ex4.trans (ex5.trans (ex6.trans (ex7))))) (VL.cons (vr4.ext (ex5.trans (ex6.trans (ex7)))) (VL.one (vr5.ext (ex6.trans (ex7))))))) (VL.cons (ZVL (VL.cons (vr6.ext (ex7)) (VL.one vr7))) (VL.nil _)))) (J78 I8.hz (((((((rd0.app [B1]).app [B2]).app [B3]).app [B4]).app [B5]).app [B6]).app [B7]) ((((((rd1.app [B2]).app [B3]).app [B4]).app [B5]).app [B6]).app [B7]) (((((rd2.app [B3]).app [B4]).app [B5]).app [B6]).app [B7]) ((((rd3.app [B4]).app [B5]).app [B6]).app [B7]) (((rd4.app [B5]).app [B6]).app [B7]) ((rd5.app [B6]).app [B7]) (rd6.app [B7]) rd7 cp2 cp5 cp7).c).mono ?_
 rintro e W' ⟨rfl, hk⟩
 exact ⟨_, rfl, z8N Tryz.laidOut Tryz.underlying4 rfl rfl rfl (by kernel_rfl) hW' hk⟩
end Go.Proofs.YtfaccliekejngaaGreat.orsetDelta
end
section
namespace Go.Proofs.YtfaccliekejngaaGreat.orsetDelta
open Go.ChangeShapes Go.WideShapes Go.ChangeAt Go.RowKit
set_option maxRecDepth 100000 in
theorem QtI (os : Os) (started : os.Started) (H : Type) (enc : TypeId × Value → H) :
  ReturnsInHanded {} Tryz.checked os 8 .any (Rows.orsetDeltaSpec.pre6 enc Tryz.prog Tryz.f8 Rows.orsetDeltaRow.domain false) (Rows.orsetDeltaSpec.post enc Tryz.prog Tryz.f8 false true false false) := by
 refine returnsInHanded_of_change (C := Tryz.checked) Tryz.own started (by kernel_rfl) Tryz.func8
  (ChangeSpec.witness6 (enc := enc) (C := Tryz.checked) false ⟨#[], #[.agg #[.slice none 0 0, .slice none 0 0, .slice none 0 0], .agg #[.slice none 0 0, .slice none 0 0, .slice none 0 0], .agg #[.slice none 0 0, .slice none 0 0]], []⟩ 8 (by kernel_rfl) (by kernel_rfl) (by kernel_rfl) (by kernel_rfl)) ?_
 intro W base args ds gs before hval0 hW hcnd _
 have hval : ∀ (j : Nat) t v, Tryz.f8.params[j]? = some t → args[j]? = some v → Value.okWide Tryz.prog W .any base t v := hval0
 exact row enc hval hW
theorem over : Rows.orsetDeltaRow.holds Tryz.pinned (OpenSpec.ofChange Rows.orsetDeltaSpec) :=
 OpenClaim.holds_of_wide 8 Tryz.f8 rfl rfl rfl rfl rfl rfl rfl ⟨rfl, rfl, rfl, rfl, rfl⟩ rfl rfl rfl rfl rfl (by kernel_rfl) Tryz.func8 (by kernel_rfl)
  (of_decide_eq_true (by kernel_rfl)) (by unfold Func.isWrapper; first | (rw [if_pos (by decide +kernel)]; kernel_rfl) | (rw [if_neg (by decide +kernel)]; exact ⟨rfl, rfl⟩))
  (fun os started H enc _ => QtI os started H enc)
theorem proved : Rows.OrsetDeltaSaid := over
#print axioms proved
end Go.Proofs.YtfaccliekejngaaGreat.orsetDelta
end
