/- 'WireBack': the walk meets the row. -/
import Derived.Test.YtpagolhlbceegaaBack
import Derived.Test.YtpagolhlbceegaaLaw
namespace Go.Proofs.Ytpagolhlbceegaa.WBack
open Go.ChangeShapes Go.WideShapes Go.ChangeAt Go.RowKit
theorem row {H : Type} (enc : TypeId × Value → H) {W : World} {base : Nat} {args : Array Value} {ds gs : List (DataW H)} {before : List MemPlace}
    (hval : ∀ (j : Nat) t v, Try.f7.params[j]? = some t → args[j]? = some v → Value.okWide Try.prog W .any base t v)
    (hW : DataW.Whole enc Try.prog Try.f7.params.toList Rows.wireBackSpec.vars false W args.toList ds gs before) :
    Calls Try.prog 7 args W fun e W' => ∃ v, e = .returned v ∧ Rows.wireBackSpec.post enc Try.prog Try.f7 false true false false W args v W' := by
  have hW' := hW
  obtain ⟨p, q, hA, hV, rfl, _, _⟩ := hW
  obtain ⟨v0, vs0, d0, ds0, p0, q0, hargs, rfl, rfl, h0, r0⟩ := trodAll_cons (show DataW.TrodAll enc Try.prog W 0 (fun _ => true) true [34] args.toList ds p from hA)
  obtain ⟨rfl, rfl, rfl⟩ := trodAll_nil r0
  obtain rfl : args = #[v0] := by cases args; simp_all
  obtain ⟨rfl, rfl⟩ := trodVars_none hV
  obtain ⟨a0, n0, c0, rfl⟩ := Go.WideShapes.okWide_slice Try.underlying34 (hval 0 34 v0 rfl rfl)
  obtain ⟨fuel, hf⟩ := h0
  obtain ⟨v', hv', ts, hts⟩ := things_open hf
  obtain rfl : Value.slice a0 n0 c0 = v' := by
    simp [Value.cells] at hv'
    exact hv'
  refine (back_any _ ts W hts).mono ?_
  rintro e W' ⟨rfl, hk⟩
  exact ⟨_, rfl, law_post Try.laidOut Try.underlying4 rfl rfl rfl (by kernel_rfl) hW' hk⟩
end Go.Proofs.Ytpagolhlbceegaa.WBack
