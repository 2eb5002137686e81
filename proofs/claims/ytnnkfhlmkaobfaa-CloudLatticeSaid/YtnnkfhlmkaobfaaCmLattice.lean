/- 'CloudLattice': whatever the input, the law returns true, and everything that was there reads as it did. No condition. -/
import Derived.Test.YtnnkfhlmkaobfaaCm26
set_option linter.all false
section
namespace Go.Proofs.Ytnnkfhlmkaobfaa.cloudLattice
open Go.ChangeShapes Go.WideShapes Go.ChangeAt Go.RowKit
set_option maxRecDepth 100000 in
theorem row {H : Type} (enc : TypeId × Value → H) {W : World} {base : Nat} {args : Array Value} {ds gs : List (DataW H)} {before : List MemPlace}
    (hval : ∀ (j : Nat) t v, Try.f6.params[j]? = some t → args[j]? = some v → Value.okWide Try.prog W .any base t v)
    (hW : DataW.Whole enc Try.prog Try.f6.params.toList Rows.cloudLatticeSpec.vars false W args.toList ds gs before) :
    Calls Try.prog 6 args W fun e W' => ∃ v, e = .returned v ∧ Rows.cloudLatticeSpec.post enc Try.prog Try.f6 false true false false W args v W' := by
  have hW' := hW
  obtain ⟨p, q, hA, hV, rfl, _, _⟩ := hW
  obtain ⟨v0, vs0, d0, ds0, p0, q0, hargs, rfl, rfl, h0, r0⟩ := trodAll_cons (show DataW.TrodAll enc Try.prog W 0 (fun _ => true) true [25, 25, 25] args.toList ds p from hA)
  obtain ⟨v1, vs1, d1, ds1, p1, q1, rfl, rfl, rfl, h1, r1⟩ := trodAll_cons r0
  obtain ⟨v2, vs2, d2, ds2, p2, q2, rfl, rfl, rfl, h2, r2⟩ := trodAll_cons r1
  obtain ⟨rfl, rfl, rfl⟩ := trodAll_nil r2
  obtain rfl : args = #[v0, v1, v2] := by cases args; simp_all
  obtain ⟨rfl, rfl⟩ := trodVars_none hV
  obtain ⟨c0, rfl, _⟩ := Go.WideShapes.okWide_struct Try.underlying25 (hval 0 25 v0 rfl rfl)
  obtain ⟨f0, hf0⟩ := h0
  obtain ⟨a0, b0, e0, ⟨xs0, sa0⟩, ⟨ys0, sb0⟩⟩ := cloud_sl hf0
  obtain rfl : c0 = #[a0, b0] := by
    apply Array.toList_inj.1
    simpa [Value.cells] using e0
  obtain ⟨c1, rfl, _⟩ := Go.WideShapes.okWide_struct Try.underlying25 (hval 1 25 v1 rfl rfl)
  obtain ⟨f1, hf1⟩ := h1
  obtain ⟨a1, b1, e1, ⟨xs1, sa1⟩, ⟨ys1, sb1⟩⟩ := cloud_sl hf1
  obtain rfl : c1 = #[a1, b1] := by
    apply Array.toList_inj.1
    simpa [Value.cells] using e1
  obtain ⟨c2, rfl, _⟩ := Go.WideShapes.okWide_struct Try.underlying25 (hval 2 25 v2 rfl rfl)
  obtain ⟨f2, hf2⟩ := h2
  obtain ⟨a2, b2, e2, ⟨xs2, sa2⟩, ⟨ys2, sb2⟩⟩ := cloud_sl hf2
  obtain rfl : c2 = #[a2, b2] := by
    apply Array.toList_inj.1
    simpa [Value.cells] using e2
  have I0 := In.nil (K := KC Try.prog) W
  obtain ⟨x0, s0, B0, I1, vr0, rd0, ex0, cp0⟩ := I0.sl (r := intR) int_fl sa0
  obtain ⟨x1, s1, B1, I2, vr1, rd1, ex1, cp1⟩ := I1.sl (r := dotR) dot_fl sb0
  obtain ⟨x2, s2, B2, I3, vr2, rd2, ex2, cp2⟩ := I2.sl (r := intR) int_fl sa1
  obtain ⟨x3, s3, B3, I4, vr3, rd3, ex3, cp3⟩ := I3.sl (r := dotR) dot_fl sb1
  obtain ⟨x4, s4, B4, I5, vr4, rd4, ex4, cp4⟩ := I4.sl (r := intR) int_fl sa2
  obtain ⟨x5, s5, B5, I6, vr5, rd5, ex5, cp5⟩ := I5.sl (r := dotR) dot_fl sb2
  refine (law_true I6 (VL.cons (vr_ag (VL.cons (vr0.ext (ex1.trans (ex2.trans (ex3.trans (ex4.trans (ex5)))))) (VL.one (vr1.ext (ex2.trans (ex3.trans (ex4.trans (ex5)))))))) (VL.cons (vr_ag (VL.cons (vr2.ext (ex3.trans (ex4.trans (ex5)))) (VL.one (vr3.ext (ex4.trans (ex5)))))) (VL.cons (vr_ag (VL.cons (vr4.ext (ex5)) (VL.one vr5))) (VL.nil _)))) (CloudLattice_at I6.hz (((((rd0.app [B1]).app [B2]).app [B3]).app [B4]).app [B5]) ((((rd1.app [B2]).app [B3]).app [B4]).app [B5]) (((rd2.app [B3]).app [B4]).app [B5]) ((rd3.app [B4]).app [B5]) (rd4.app [B5]) rd5 cp1 cp3 cp5).c).mono ?_
  rintro e W' ⟨rfl, hk⟩
  exact ⟨_, rfl, law_post Try.laidOut Try.underlying4 rfl rfl rfl (by kernel_rfl) hW' hk⟩
end Go.Proofs.Ytnnkfhlmkaobfaa.cloudLattice
end
section
namespace Go.Proofs.Ytnnkfhlmkaobfaa.cloudLattice
open Go.ChangeShapes Go.WideShapes Go.ChangeAt Go.RowKit
set_option maxRecDepth 100000 in
theorem lifted (os : Os) (started : os.Started) (H : Type) (enc : TypeId × Value → H) :
    ReturnsInHanded {} Try.checked os 6 .any (Rows.cloudLatticeSpec.pre6 enc Try.prog Try.f6 Rows.cloudLatticeRow.domain false) (Rows.cloudLatticeSpec.post enc Try.prog Try.f6 false true false false) := by
  refine returnsInHanded_of_change (C := Try.checked) Try.own started (by kernel_rfl) Try.func6
    (ChangeSpec.witness6 (enc := enc) (C := Try.checked) false ⟨#[], #[.agg #[.slice none 0 0, .slice none 0 0], .agg #[.slice none 0 0, .slice none 0 0], .agg #[.slice none 0 0, .slice none 0 0]], []⟩ 8 (by kernel_rfl) (by kernel_rfl) (by kernel_rfl) (by kernel_rfl)) ?_
  intro W base args ds gs before hval0 hW hcnd _
  have hval : ∀ (j : Nat) t v, Try.f6.params[j]? = some t → args[j]? = some v → Value.okWide Try.prog W .any base t v := hval0
  exact row enc hval hW
theorem over : Rows.cloudLatticeRow.holds Try.pinned (OpenSpec.ofChange Rows.cloudLatticeSpec) :=
  OpenClaim.holds_of_wide 6 Try.f6 rfl rfl rfl rfl rfl rfl rfl ⟨rfl, rfl, rfl, rfl, rfl⟩ rfl rfl rfl rfl rfl (by kernel_rfl) Try.func6 (by kernel_rfl)
    (of_decide_eq_true (by kernel_rfl)) (by unfold Func.isWrapper; first | (rw [if_pos (by decide +kernel)]; kernel_rfl) | (rw [if_neg (by decide +kernel)]; exact ⟨rfl, rfl⟩))
    (fun os started H enc _ => lifted os started H enc)
/-- The statement. -/
theorem proved : Rows.CloudLatticeSaid := over
#print axioms proved
end Go.Proofs.Ytnnkfhlmkaobfaa.cloudLattice
end
