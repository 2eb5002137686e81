/- 'WireKnown': the walk meets the row. -/
import Derived.Test.YtpagolhlbceegaaWireM
import Derived.Test.YtpagolhlbceegaaLaw
namespace Go.Proofs.Ytpagolhlbceegaa.Known
open Go.ChangeShapes Go.WideShapes Go.ChangeAt Go.RowKit
theorem row {H : Type} (enc : TypeId × Value → H) {W : World} {base : Nat} {args : Array Value} {ds gs : List (DataW H)} {before : List MemPlace}
    (_hval : ∀ (j : Nat) t v, Try.f3.params[j]? = some t → args[j]? = some v → Value.okWide Try.prog W .any base t v)
    (hW : DataW.Whole enc Try.prog Try.f3.params.toList Rows.wireKnownSpec.vars false W args.toList ds gs before) :
    Calls Try.prog 3 args W fun e W' => ∃ v, e = .returned v ∧ Rows.wireKnownSpec.post enc Try.prog Try.f3 false true false false W args v W' := by
  have hW' := hW
  obtain ⟨p, q, hA, hV, rfl, _, _⟩ := hW
  obtain ⟨ha, rfl, rfl⟩ := trodAll_none (show DataW.TrodAll enc Try.prog W 0 (fun _ => true) true [] args.toList ds p from hA)
  obtain ⟨rfl, rfl⟩ := trodVars_none hV
  obtain rfl : args = #[] := by simpa using ha
  refine (known_any W).mono ?_
  rintro e W' ⟨rfl, hk⟩
  exact ⟨_, rfl, law_post Try.laidOut Try.underlying4 rfl rfl rfl (by kernel_rfl) hW' hk⟩
end Go.Proofs.Ytpagolhlbceegaa.Known
