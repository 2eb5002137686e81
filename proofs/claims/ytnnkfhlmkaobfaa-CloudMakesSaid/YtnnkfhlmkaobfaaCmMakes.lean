/- 'CloudMakes': whatever the input, the law returns true, and everything that was there reads as it did. No condition. -/
import Derived.Test.YtnnkfhlmkaobfaaCm26
set_option linter.all false
section
namespace Go.Proofs.Ytnnkfhlmkaobfaa.cloudMakes
open Go.ChangeShapes Go.WideShapes Go.ChangeAt Go.RowKit
set_option maxRecDepth 100000 in
theorem row {H : Type} (enc : TypeId × Value → H) {W : World} {base : Nat} {args : Array Value} {ds gs : List (DataW H)} {before : List MemPlace}
    (hval : ∀ (j : Nat) t v, Try.f4.params[j]? = some t → args[j]? = some v → Value.okWide Try.prog W .any base t v)
    (hW : DataW.Whole enc Try.prog Try.f4.params.toList Rows.cloudMakesSpec.vars false W args.toList ds gs before) :
    Calls Try.prog 4 args W fun e W' => ∃ v, e = .returned v ∧ Rows.cloudMakesSpec.post enc Try.prog Try.f4 false true false false W args v W' := by
  have hW' := hW
  obtain ⟨p, q, hA, hV, rfl, _, _⟩ := hW
  obtain ⟨v0, vs0, d0, ds0, p0, q0, hargs, rfl, rfl, h0, r0⟩ := trodAll_cons (show DataW.TrodAll enc Try.prog W 0 (fun _ => true) true [22, 23, 25, 37, 3] args.toList ds p from hA)
  obtain ⟨v1, vs1, d1, ds1, p1, q1, rfl, rfl, rfl, h1, r1⟩ := trodAll_cons r0
  obtain ⟨v2, vs2, d2, ds2, p2, q2, rfl, rfl, rfl, h2, r2⟩ := trodAll_cons r1
  obtain ⟨v3, vs3, d3, ds3, p3, q3, rfl, rfl, rfl, h3, r3⟩ := trodAll_cons r2
  obtain ⟨v4, vs4, d4, ds4, p4, q4, rfl, rfl, rfl, h4, r4⟩ := trodAll_cons r3
  obtain ⟨rfl, rfl, rfl⟩ := trodAll_nil r4
  obtain rfl : args = #[v0, v1, v2, v3, v4] := by cases args; simp_all
  obtain ⟨rfl, rfl⟩ := trodVars_none hV
  obtain ⟨a0', n0, c0, rfl⟩ := Go.WideShapes.okWide_slice Try.underlying22 (hval 0 22 v0 rfl rfl)
  obtain ⟨f0, hf0⟩ := h0
  obtain ⟨w0, e0, ⟨xs0, sa0⟩⟩ := ints_sl hf0
  obtain rfl : Value.slice a0' n0 c0 = w0 := by
    simp [Value.cells] at e0
    exact e0
  obtain ⟨a1', n1, c1, rfl⟩ := Go.WideShapes.okWide_slice Try.underlying23 (hval 1 23 v1 rfl rfl)
  obtain ⟨f1, hf1⟩ := h1
  obtain ⟨w1, e1, ⟨xs1, sa1⟩⟩ := dots_sl hf1
  obtain rfl : Value.slice a1' n1 c1 = w1 := by
    simp [Value.cells] at e1
    exact e1
  obtain ⟨c2, rfl, _⟩ := Go.WideShapes.okWide_struct Try.underlying25 (hval 2 25 v2 rfl rfl)
  obtain ⟨f2, hf2⟩ := h2
  obtain ⟨a2, b2, e2, ⟨xs2, sa2⟩, ⟨ys2, sb2⟩⟩ := cloud_sl hf2
  obtain rfl : c2 = #[a2, b2] := by
    apply Array.toList_inj.1
    simpa [Value.cells] using e2
  obtain ⟨c3, rfl, _⟩ := Go.WideShapes.okWide_struct Try.underlying37 (hval 3 37 v3 rfl rfl)
  obtain ⟨f3, hf3⟩ := h3
  obtain ⟨i3, k3, e3, bi3, bk3⟩ := dot_cells hf3
  obtain rfl : c3 = #[.int .i64 i3, .int .i64 k3] := by
    apply Array.toList_inj.1
    simpa [Value.cells] using e3
  obtain ⟨i4, rfl⟩ := Go.WideShapes.okWide_int Try.underlying3 (hval 4 3 v4 rfl rfl)
  obtain ⟨f4, hf4⟩ := h4
  have bi4 := int_bd hf4
  have I0 := In.nil (K := KC Try.prog) W
  obtain ⟨x0, s0, B0, I1, vr0, rd0, ex0, cp0⟩ := I0.sl (r := intR) int_fl sa0
  obtain ⟨x1, s1, B1, I2, vr1, rd1, ex1, cp1⟩ := I1.sl (r := dotR) dot_fl sa1
  obtain ⟨x2, s2, B2, I3, vr2, rd2, ex2, cp2⟩ := I2.sl (r := intR) int_fl sa2
  obtain ⟨x3, s3, B3, I4, vr3, rd3, ex3, cp3⟩ := I3.sl (r := dotR) dot_fl sb2
  refine (law_true I4 (VL.cons (vr0.ext (ex1.trans (ex2.trans (ex3)))) (VL.cons (vr1.ext (ex2.trans (ex3))) (VL.cons (vr_ag (VL.cons (vr2.ext (ex3)) (VL.one vr3))) (VL.cons (vr_ag (VL.cons (.i _ _) (VL.one (.i _ _)))) (VL.cons (.i _ _) (VL.nil _)))))) (CloudMakes_at I4.hz (((rd0.app [B1]).app [B2]).app [B3]) ((rd1.app [B2]).app [B3]) (rd2.app [B3]) rd3 i3 k3 i4).c).mono ?_
  rintro e W' ⟨rfl, hk⟩
  exact ⟨_, rfl, law_post Try.laidOut Try.underlying4 rfl rfl rfl (by kernel_rfl) hW' hk⟩
end Go.Proofs.Ytnnkfhlmkaobfaa.cloudMakes
end
section
namespace Go.Proofs.Ytnnkfhlmkaobfaa.cloudMakes
open Go.ChangeShapes Go.WideShapes Go.ChangeAt Go.RowKit
set_option maxRecDepth 100000 in
theorem lifted (os : Os) (started : os.Started) (H : Type) (enc : TypeId × Value → H) :
    ReturnsInHanded {} Try.checked os 4 .any (Rows.cloudMakesSpec.pre6 enc Try.prog Try.f4 Rows.cloudMakesRow.domain false) (Rows.cloudMakesSpec.post enc Try.prog Try.f4 false true false false) := by
  refine returnsInHanded_of_change (C := Try.checked) Try.own started (by kernel_rfl) Try.func4
    (ChangeSpec.witness6 (enc := enc) (C := Try.checked) false ⟨#[], #[.slice none 0 0, .slice none 0 0, .agg #[.slice none 0 0, .slice none 0 0], .agg #[.int .i64 0, .int .i64 0], .int .i64 0], []⟩ 8 (by kernel_rfl) (by kernel_rfl) (by kernel_rfl) (by kernel_rfl)) ?_
  intro W base args ds gs before hval0 hW hcnd _
  have hval : ∀ (j : Nat) t v, Try.f4.params[j]? = some t → args[j]? = some v → Value.okWide Try.prog W .any base t v := hval0
  exact row enc hval hW
theorem over : Rows.cloudMakesRow.holds Try.pinned (OpenSpec.ofChange Rows.cloudMakesSpec) :=
  OpenClaim.holds_of_wide 4 Try.f4 rfl rfl rfl rfl rfl rfl rfl ⟨rfl, rfl, rfl, rfl, rfl⟩ rfl rfl rfl rfl rfl (by kernel_rfl) Try.func4 (by kernel_rfl)
    (of_decide_eq_true (by kernel_rfl)) (by unfold Func.isWrapper; first | (rw [if_pos (by decide +kernel)]; kernel_rfl) | (rw [if_neg (by decide +kernel)]; exact ⟨rfl, rfl⟩))
    (fun os started H enc _ => lifted os started H enc)
/-- The statement. -/
theorem proved : Rows.CloudMakesSaid := over
#print axioms proved
end Go.Proofs.Ytnnkfhlmkaobfaa.cloudMakes
end
