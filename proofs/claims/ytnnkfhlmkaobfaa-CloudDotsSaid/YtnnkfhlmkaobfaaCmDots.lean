/- 'CloudDots': whatever the input, the law returns true, and everything that was there reads as it did. No condition. -/
import Derived.Test.YtnnkfhlmkaobfaaCm26
set_option linter.all false
section
namespace Go.Proofs.Ytnnkfhlmkaobfaa.cloudDots
open Go.ChangeShapes Go.WideShapes Go.ChangeAt Go.RowKit
set_option maxRecDepth 100000 in
theorem row {H : Type} (enc : TypeId × Value → H) {W : World} {base : Nat} {args : Array Value} {ds gs : List (DataW H)} {before : List MemPlace}
    (hval : ∀ (j : Nat) t v, Try.f7.params[j]? = some t → args[j]? = some v → Value.okWide Try.prog W .any base t v)
    (hW : DataW.Whole enc Try.prog Try.f7.params.toList Rows.cloudDotsSpec.vars false W args.toList ds gs before) :
    Calls Try.prog 7 args W fun e W' => ∃ v, e = .returned v ∧ Rows.cloudDotsSpec.post enc Try.prog Try.f7 false true false false W args v W' := by
  have hW' := hW
  obtain ⟨p, q, hA, hV, rfl, _, _⟩ := hW
  obtain ⟨v0, vs0, d0, ds0, p0, q0, hargs, rfl, rfl, h0, r0⟩ := trodAll_cons (show DataW.TrodAll enc Try.prog W 0 (fun _ => true) true [25, 25, 37, 3] args.toList ds p from hA)
  obtain ⟨v1, vs1, d1, ds1, p1, q1, rfl, rfl, rfl, h1, r1⟩ := trodAll_cons r0
  obtain ⟨v2, vs2, d2, ds2, p2, q2, rfl, rfl, rfl, h2, r2⟩ := trodAll_cons r1
  obtain ⟨v3, vs3, d3, ds3, p3, q3, rfl, rfl, rfl, h3, r3⟩ := trodAll_cons r2
  obtain ⟨rfl, rfl, rfl⟩ := trodAll_nil r3
  obtain rfl : args = #[v0, v1, v2, v3] := by cases args; simp_all
  obtain ⟨rfl, rfl⟩ := trodVars_none hV
  obtain ⟨c0, rfl, _⟩ := Go.WideShapes.okWide_struct Try.underlying25 (hval 0 25 v0 rfl rfl)
  obtain ⟨f0, hf0⟩ := h0
  obtain ⟨a0, b0, e0, ⟨xs0, sa0⟩, ⟨ys0, sb0⟩⟩ := cloud_sl hf0
  obtain rfl : c0 = #[a0, b0] := by
    apply Array.toList_inj.1
    simpa [Value.cells] using e0
  obtain ⟨c1, rfl, _⟩ := Go.WideShapes.okWide_struct Try.underlying25 (hval 1 25 v1 rfl rfl)
  obtain ⟨f1, hf1⟩ := h1
  obtain ⟨a1, b1, e1, ⟨xs1, sa1⟩, ⟨ys1, sb1⟩⟩ := cloud_sl hf1
  obtain rfl : c1 = #[a1, b1] := by
    apply Array.toList_inj.1
    simpa [Value.cells] using e1
  obtain ⟨c2, rfl, _⟩ := Go.WideShapes.okWide_struct Try.underlying37 (hval 2 37 v2 rfl rfl)
  obtain ⟨f2, hf2⟩ := h2
  obtain ⟨i2, k2, e2, bi2, bk2⟩ := dot_cells hf2
  obtain rfl : c2 = #[.int .i64 i2, .int .i64 k2] := by
    apply Array.toList_inj.1
    simpa [Value.cells] using e2
  obtain ⟨i3, rfl⟩ := Go.WideShapes.okWide_int Try.underlying3 (hval 3 3 v3 rfl rfl)
  obtain ⟨f3, hf3⟩ := h3
  have bi3 := int_bd hf3
  have I0 := In.nil (K := KC Try.prog) W
  obtain ⟨x0, s0, B0, I1, vr0, rd0, ex0, cp0⟩ := I0.sl (r := intR) int_fl sa0
  obtain ⟨x1, s1, B1, I2, vr1, rd1, ex1, cp1⟩ := I1.sl (r := dotR) dot_fl sb0
  obtain ⟨x2, s2, B2, I3, vr2, rd2, ex2, cp2⟩ := I2.sl (r := intR) int_fl sa1
  obtain ⟨x3, s3, B3, I4, vr3, rd3, ex3, cp3⟩ := I3.sl (r := dotR) dot_fl sb1
  refine (law_true I4 (VL.cons (vr_ag (VL.cons (vr0.ext (ex1.trans (ex2.trans (ex3)))) (VL.one (vr1.ext (ex2.trans (ex3)))))) (VL.cons (vr_ag (VL.cons (vr2.ext (ex3)) (VL.one vr3))) (VL.cons (vr_ag (VL.cons (.i _ _) (VL.one (.i _ _)))) (VL.cons (.i _ _) (VL.nil _))))) (CloudDots_at I4.hz (((rd0.app [B1]).app [B2]).app [B3]) ((rd1.app [B2]).app [B3]) (rd2.app [B3]) rd3 cp1 cp3 i2 k2 i3 bi3).c).mono ?_
  rintro e W' ⟨rfl, hk⟩
  exact ⟨_, rfl, law_post Try.laidOut Try.underlying4 rfl rfl rfl (by kernel_rfl) hW' hk⟩
end Go.Proofs.Ytnnkfhlmkaobfaa.cloudDots
end
section
namespace Go.Proofs.Ytnnkfhlmkaobfaa.cloudDots
open Go.ChangeShapes Go.WideShapes Go.ChangeAt Go.RowKit
set_option maxRecDepth 100000 in
theorem lifted (os : Os) (started : os.Started) (H : Type) (enc : TypeId × Value → H) :
    ReturnsInHanded {} Try.checked os 7 .any (Rows.cloudDotsSpec.pre6 enc Try.prog Try.f7 Rows.cloudDotsRow.domain false) (Rows.cloudDotsSpec.post enc Try.prog Try.f7 false true false false) := by
  refine returnsInHanded_of_change (C := Try.checked) Try.own started (by kernel_rfl) Try.func7
    (ChangeSpec.witness6 (enc := enc) (C := Try.checked) false ⟨#[], #[.agg #[.slice none 0 0, .slice none 0 0], .agg #[.slice none 0 0, .slice none 0 0], .agg #[.int .i64 0, .int .i64 0], .int .i64 0], []⟩ 8 (by kernel_rfl) (by kernel_rfl) (by kernel_rfl) (by kernel_rfl)) ?_
  intro W base args ds gs before hval0 hW hcnd _
  have hval : ∀ (j : Nat) t v, Try.f7.params[j]? = some t → args[j]? = some v → Value.okWide Try.prog W .any base t v := hval0
  exact row enc hval hW
theorem over : Rows.cloudDotsRow.holds Try.pinned (OpenSpec.ofChange Rows.cloudDotsSpec) :=
  OpenClaim.holds_of_wide 7 Try.f7 rfl rfl rfl rfl rfl rfl rfl ⟨rfl, rfl, rfl, rfl, rfl⟩ rfl rfl rfl rfl rfl (by kernel_rfl) Try.func7 (by kernel_rfl)
    (of_decide_eq_true (by kernel_rfl)) (by unfold Func.isWrapper; first | (rw [if_pos (by decide +kernel)]; kernel_rfl) | (rw [if_neg (by decide +kernel)]; exact ⟨rfl, rfl⟩))
    (fun os started H enc _ => lifted os started H enc)
/-- The statement. -/
theorem proved : Rows.CloudDotsSaid := over
#print axioms proved
end Go.Proofs.Ytnnkfhlmkaobfaa.cloudDots
end
