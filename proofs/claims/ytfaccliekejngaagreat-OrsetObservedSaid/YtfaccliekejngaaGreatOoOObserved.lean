/- 'OrsetObserved': whatever the input, the law returns true, and everything that was there reads as it did. No condition. -/
import Derived.Test.YtfaccliekejngaaGreatOo26
set_option linter.all false
section
namespace Go.Proofs.YtfaccliekejngaaGreat.orsetObserved
open Go.ChangeShapes Go.WideShapes Go.ChangeAt Go.RowKit
set_option maxRecDepth 100000 in
theorem row {H : Type} (enc : TypeId × Value → H) {W : World} {base : Nat} {args : Array Value} {ds gs : List (DataW H)} {before : List MemPlace}
  (hval : ∀ (j : Nat) t v, Tryz.f9.params[j]? = some t → args[j]? = some v → Value.okWide Tryz.prog W .any base t v)
  (hW : DataW.Whole enc Tryz.prog Tryz.f9.params.toList Rows.orsetObservedSpec.vars false W args.toList ds gs before) :
  Calls Tryz.prog 9 args W fun e W' => ∃ v, e = .returned v ∧ Rows.orsetObservedSpec.post enc Tryz.prog Tryz.f9 false true false false W args v W' := by
 have hW' := hW
 obtain ⟨p, q, hA, hV, rfl, _, _⟩ := hW
 obtain ⟨v0, vs0, d0, ds0, p0, q0, hargs, rfl, rfl, h0, r0⟩ := trodAll_cons (show DataW.TrodAll enc Tryz.prog W 0 (fun _ => true) true [28, 3, 3] args.toList ds p from hA)
 obtain ⟨v1, vs1, d1, ds1, p1, q1, rfl, rfl, rfl, h1, r1⟩ := trodAll_cons r0
 obtain ⟨v2, vs2, d2, ds2, p2, q2, rfl, rfl, rfl, h2, r2⟩ := trodAll_cons r1
 obtain ⟨rfl, rfl, rfl⟩ := trodAll_nil r2
 obtain rfl : args = #[v0, v1, v2] := by cases args; simp_all
 obtain ⟨rfl, rfl⟩ := trodVars_none hV
 obtain ⟨c0, rfl, _⟩ := Go.WideShapes.okWide_struct Tryz.underlying28 (hval 0 28 v0 rfl rfl)
 obtain ⟨f0, hf0⟩ := h0
 obtain ⟨g0, a0, b0, e0, ⟨zs0, sg0⟩, ⟨xs0, sa0⟩, ⟨ys0, sb0⟩⟩ := JvQ hf0
 obtain rfl : c0 = #[g0, a0, b0] := by
  apply Array.toList_inj.1
  simpa [Value.cells] using e0
 obtain ⟨i1, rfl⟩ := Go.WideShapes.okWide_int Tryz.underlying3 (hval 1 3 v1 rfl rfl)
 obtain ⟨f1, hf1⟩ := h1
 have bi1 := Kuo hf1
 obtain ⟨i2, rfl⟩ := Go.WideShapes.okWide_int Tryz.underlying3 (hval 2 3 v2 rfl rfl)
 obtain ⟨f2, hf2⟩ := h2
 have bi2 := Kuo hf2
 have I0 := In.nil (K := KC Tryz.prog) W
 obtain ⟨x0, s0, B0, I1, vr0, rd0, ex0, cp0, kn0⟩ := I0.slK (r := qjO) Jxj sg0
 obtain ⟨x1, s1, B1, I2, vr1, rd1, ex1, cp1, kn1⟩ := I1.slK (r := intR) QjL sa0
 obtain ⟨x2, s2, B2, I3, vr2, rd2, ex2, cp2, kn2⟩ := I2.slK (r := dotR) JNn sb0
 refine (JtS I3 (VL.cons (Y5G (VL.cons (vr0.ext (ex1.trans (ex2))) (VL.cons (vr1.ext (ex2)) (VL.one vr2)))) (VL.cons (.i _ _) (VL.cons (.i _ _) (VL.nil _)))) (XZV I3.hz ((rd0.app [B1]).app [B2]) (rd1.app [B2]) rd2 cp2 kn0 kn2 i1 bi1 i2 bi2).c).mono ?_
 rintro e W' ⟨rfl, hk⟩
 exact ⟨_, rfl, QMi Tryz.laidOut Tryz.underlying4 rfl rfl rfl (by kernel_rfl) hW' hk⟩
end Go.Proofs.YtfaccliekejngaaGreat.orsetObserved
end
section
namespace Go.Proofs.YtfaccliekejngaaGreat.orsetObserved
open Go.ChangeShapes Go.WideShapes Go.ChangeAt Go.RowKit
set_option maxRecDepth 100000 in
theorem YWl (os : Os) (started : os.Started) (H : Type) (enc : TypeId × Value → H) :
  ReturnsInHanded {} Tryz.checked os 9 .any (Rows.orsetObservedSpec.pre6 enc Tryz.prog Tryz.f9 Rows.orsetObservedRow.domain false) (Rows.orsetObservedSpec.post enc Tryz.prog Tryz.f9 false true false false) := by
 refine returnsInHanded_of_change (C := Tryz.checked) Tryz.own started (by kernel_rfl) Tryz.func9
  (ChangeSpec.witness6 (enc := enc) (C := Tryz.checked) false ⟨#[], #[.agg #[.slice none 0 0, .slice none 0 0, .slice none 0 0], .int .i64 0, .int .i64 0], []⟩ 8 (by kernel_rfl) (by kernel_rfl) (by kernel_rfl) (by kernel_rfl)) ?_
 intro W base args ds gs before hval0 hW hcnd _
 have hval : ∀ (j : Nat) t v, Tryz.f9.params[j]? = some t → args[j]? = some v → Value.okWide Tryz.prog W .any base t v := hval0
 exact row enc hval hW
theorem over : Rows.orsetObservedRow.holds Tryz.pinned (OpenSpec.ofChange Rows.orsetObservedSpec) :=
 OpenClaim.holds_of_wide 9 Tryz.f9 rfl rfl rfl rfl rfl rfl rfl ⟨rfl, rfl, rfl, rfl, rfl⟩ rfl rfl rfl rfl rfl (by kernel_rfl) Tryz.func9 (by kernel_rfl)
  (of_decide_eq_true (by kernel_rfl)) (by unfold Func.isWrapper; first | (rw [if_pos (by decide +kernel)]; kernel_rfl) | (rw [if_neg (by decide +kernel)]; exact ⟨rfl, rfl⟩))
  (fun os started H enc _ => YWl os started H enc)
theorem proved : Rows.OrsetObservedSaid := over
#print axioms proved
end Go.Proofs.YtfaccliekejngaaGreat.orsetObserved
end
